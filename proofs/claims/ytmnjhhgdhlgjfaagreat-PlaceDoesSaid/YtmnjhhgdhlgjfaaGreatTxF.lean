/- The shallow forms of functions, printed by sh.py out of the translation; each with its proof. No condition. -/
import Derived.Test.YtmnjhhgdhlgjfaaGreatShJ
import Derived.Test.YtmnjhhgdhlgjfaaGreatProg
namespace Go.Proofs
open Go Go.Sh
set_option linter.unusedVariables false
set_option maxRecDepth 100000

/-! ### tympan/tympanref13.New -/
namespace Sx.r13_New
noncomputable def code : Code := bodyOf Tryz.f7
abbrev W := wpC none Tryz.prog 6
variable (g : Env) (x0 : Option Addr)
abbrev T0 := (Option Addr) → H → Prop
abbrev E0 := Held g [(0, .pointer x0)]
def D0 (K : T0) (g : Env) (h : H) : Prop := nilDs g.ds (vPtr (g.v 0) fun p1 => K p1 h)
abbrev Q0 (Kn Kr : T0) := QX (D0 Kn) (D0 Kr) noX
abbrev T1 := H → Prop
abbrev E1 := Held g []
def D1 (K : T1) (g : Env) (h : H) : Prop := nilDs g.ds (K h)
abbrev n1 (Kn Kr : T0) (h : H) : Prop :=
  HCalls Tryz.prog 27 ⟨[]⟩ h fun v2 h3 => vPtr v2 fun p4 => newx h3 #[(.int .i64 (0 : Int)), (.int .u8 (0 : Int)), (S ([104, 116, 109, 108] : List UInt8)), (.int .u8 (0 : Int))] 36 fun a5 h6 => newx h6 ⟨[(.pointer p4), (.slice (some a5) 1 1), (.slice none 0 0), (.bool false), (.int .i64 (1 : Int))]⟩ 45 fun a7 h8 => Kr (some a7) h8
variable {g} {h : H} {p : Prop}
variable {x0}
theorem D0_el {K : T0} (hq : D0 K g h) (f : ∀ {x0}, E0 g x0 → K x0 h → p) : p := nilDs_el hq fun d q => vPtr_el q fun _ e0 q => f ⟨e0, d⟩ q
theorem D1_el {K : T1} (hq : D1 K g h) (f : E1 g → K  h → p) : p := nilDs_el hq fun d q => f d q
theorem n1_ok {Kn Kr : T0} (hg : E1 g) (hS : n1 Kn Kr h) : W code (Q0 Kn Kr) g h :=
  leafN (by kernel_rfl) (by kernel_rfl) hg hS (by kernel_rfl)
/-- WHAT tympan/tympanref13.New ASKS -/
abbrev asks  (K : Value → H → Prop) (h : H) : Prop := n1  (fun y0 h => K (.pointer y0) h) (fun y0 h => K (.pointer y0) h) h
theorem ok  (K : Value → H → Prop) (h : H) (hS : asks  K h) : HCalls Tryz.prog 7 ⟨[]⟩ h K :=
  callsN (c := code) Tryz.func7 (by kernel_rfl) (by kernel_rfl) (n1_ok rfl hS) fun hq => D0_el hq fun hg hq => retN hg hq (by kernel_rfl)
end Sx.r13_New

/-! ### (*tympan/tympanref13.World).Insert -/
namespace Sx.r13_World_Insert
noncomputable def code : Code := bodyOf Tryz.f9
abbrev W := wpC none Tryz.prog 67
variable (g : Env) (x0 : Option Addr) (x1 x2_0 : Int) (x2_1 : List UInt8) (x2_2b : Option Addr) (x2_2n x2_2c : Nat) (x2_3 : Bool) (x2_4 : List UInt8) (x5 : Addr) (x6 x7 x8 x9 : Int)
abbrev T0 := Int → H → Prop
abbrev E0 := Held g [(6, .int .i64 x6)]
def D0 (K : T0) (g : Env) (h : H) : Prop := nilDs g.ds (vInt .i64 (g.v 6) fun i1 => K i1 h)
abbrev Q0 (Kn Kr : T0) := QX (D0 Kn) (D0 Kr) noX
abbrev T1 := (Option Addr) → Int → Int → (List UInt8) → (Option Addr) → Nat → Nat → Bool → (List UInt8) → H → Prop
abbrev E1 := Held g [(0, .pointer x0), (1, .int .u8 x1), (2, .agg ⟨[(.int .u8 x2_0), (S x2_1), (.slice x2_2b x2_2n x2_2c), (.bool x2_3), (S x2_4)]⟩)]
def D1 (K : T1) (g : Env) (h : H) : Prop := nilDs g.ds (vPtr (g.v 0) fun p2 => vInt .u8 (g.v 1) fun i3 => vAgg (g.v 2) fun l4 => uncons l4 fun e5 l6 => vInt .u8 e5 fun i7 => uncons l6 fun e8 l9 => vStr e8 fun s10 => uncons l9 fun e11 l12 => vSlice e11 fun s13b s13n s13c => uncons l12 fun e14 l15 => vBool e14 fun b16 => uncons l15 fun e17 l18 => vStr e17 fun s19 => unnil l18 (K p2 i3 i7 s10 s13b s13n s13c b16 s19 h))
noncomputable def c1 := cFst code
noncomputable def c2 := cSnd code
abbrev T2 := (Option Addr) → Int → Addr → H → Prop
abbrev E2 := Held g [(0, .pointer x0), (1, .int .u8 x1), (5, .pointer (some x5))]
def D2 (K : T2) (g : Env) (h : H) : Prop := nilDs g.ds (vPtr (g.v 0) fun p20 => vInt .u8 (g.v 1) fun i21 => vAddr (g.v 5) fun a22 => K p20 i21 a22 h)
noncomputable def c3 := cFst c2
noncomputable def c4 := cSnd c2
abbrev T3 := (Option Addr) → Int → Addr → Int → Int → H → Prop
abbrev E3 := Held g [(0, .pointer x0), (1, .int .u8 x1), (5, .pointer (some x5)), (7, .int .i64 x7), (8, .int .i64 x8)]
def D3 (K : T3) (g : Env) (h : H) : Prop := nilDs g.ds (vPtr (g.v 0) fun p23 => vInt .u8 (g.v 1) fun i24 => vAddr (g.v 5) fun a25 => vInt .i64 (g.v 7) fun i26 => vInt .i64 (g.v 8) fun i27 => K p23 i24 a25 i26 i27 h)
noncomputable def c5 := cFst c4
noncomputable def c6 := cSnd c4
abbrev T4 := (Option Addr) → Int → Addr → Int → Int → Int → H → Prop
abbrev E4 := Held g [(0, .pointer x0), (1, .int .u8 x1), (5, .pointer (some x5)), (7, .int .i64 x7), (8, .int .i64 x8), (9, .int .i64 x9)]
def D4 (K : T4) (g : Env) (h : H) : Prop := nilDs g.ds (vPtr (g.v 0) fun p28 => vInt .u8 (g.v 1) fun i29 => vAddr (g.v 5) fun a30 => vInt .i64 (g.v 7) fun i31 => vInt .i64 (g.v 8) fun i32 => vInt .i64 (g.v 9) fun i33 => K p28 i29 a30 i31 i32 i33 h)
noncomputable def c7 := cFst c6
noncomputable def c8 := cSnd c6
abbrev T5 := (Option Addr) → Int → Addr → Int → H → Prop
abbrev E5 := Held g [(0, .pointer x0), (1, .int .u8 x1), (5, .pointer (some x5)), (9, .int .i64 x9)]
def D5 (K : T5) (g : Env) (h : H) : Prop := nilDs g.ds (vPtr (g.v 0) fun p34 => vInt .u8 (g.v 1) fun i35 => vAddr (g.v 5) fun a36 => vInt .i64 (g.v 9) fun i37 => K p34 i35 a36 i37 h)
abbrev n5 (Kn Kr : T0) (h : H) : Prop :=
  vSome x0 fun a38 => ∃ s39b s39n s39c, cell h (a38.add 1) = some (.slice s39b s39n s39c) ∧ (∃ s40, cell h (x5.add 1) = some (S s40) ∧ (∃ i41, cell h ((x5).add 0) = some (.int .u8 i41) ∧ (∃ s42, cell h ((x5).add 1) = some (S s42) ∧ (∃ s43b s43n s43c, cell h ((x5).add 2) = some (.slice s43b s43n s43c) ∧ (∃ b44, cell h ((x5).add 3) = some (.bool b44) ∧ (∃ s45, cell h ((x5).add 4) = some (S s45) ∧ (HCalls Tryz.prog 35 ⟨[(.int .u8 x1), (.agg ⟨[(.int .u8 i41), (S s42), (.slice s43b s43n s43c), (.bool b44), (S s45)]⟩)]⟩ h fun v46 h47 => vInt .u8 v46 fun i48 => ExtH h h47 ∧ (newx h47 #[(.int .i64 x9), (.int .u8 x1), (S s40), (.int .u8 i48)] 36 fun a49 h50 => ExtH h47 h50 ∧ (SemH Tryz.prog (Builtin.append_ #[43, 43] 43 ⟨[(.slice s39b s39n s39c), (.slice (some a49) 1 1)]⟩) h50 fun v51 h52 => vSlice v51 fun s53b s53n s53c => vSome x0 fun a54 => stL (a54.add 1) [(.slice s53b s53n s53c)] 0 h52 fun h55 => vSome x0 fun a56 => ∃ i57, cell h55 (a56.add 4) = some (.int .i64 i57) ∧ (vSome x0 fun a58 => ∃ s59b s59n s59c, cell h55 (a58.add 1) = some (.slice s59b s59n s59c) ∧ (vSome x0 fun a60 => stL (a60.add 4) [(.int .i64 (if (s59n : Int) > i57 then (s59n : Int) else i57))] 0 h55 fun h61 => Kr x9 h61)))))))))))
abbrev Q1 (Kn : T5) (Kr : T0) := QX (D5 Kn) (D0 Kr) noX
abbrev n4 (Kn Kr : T0) (h : H) : Prop :=
  vSome x0 fun a62 => ∃ p63, cell h (a62.add 0) = some (.pointer p63) ∧ (HCalls Tryz.prog 34 ⟨[(.pointer p63), (.int .i64 x7), (.int .i64 x8), (.int .i64 x9)]⟩ h fun v64 h65 => vBool v64 fun b66 => cond b66 (n5 x0 x1 x5 x9 Kn Kr h65) (n5 x0 x1 x5 x9 Kn Kr h65))
abbrev Q2 (Kn : T4) (Kr : T0) := QX (D4 Kn) (D0 Kr) noX
abbrev n3 (Kn Kr : T0) (h : H) : Prop :=
  vSome x0 fun a67 => ∃ p68, cell h (a67.add 0) = some (.pointer p68) ∧ (∃ s69, cell h (x5.add 1) = some (S s69) ∧ (∃ s70b s70n s70c, cell h (x5.add 2) = some (.slice s70b s70n s70c) ∧ (HCalls Tryz.prog 33 ⟨[(.pointer p68), (.agg ⟨[(.int .u8 (1 : Int)), (.int .u8 x1), (S s69), (.slice s70b s70n s70c), (S ([] : List UInt8)), (.slice none 0 0)]⟩)]⟩ h fun v71 h72 => vInt .i64 v71 fun i73 => n4 x0 x1 x5 x7 x8 i73 Kn Kr h72)))
abbrev Q3 (Kn : T3) (Kr : T0) := QX (D3 Kn) (D0 Kr) noX
abbrev n2 (Kn Kr : T0) (h : H) : Prop :=
  HCalls Tryz.prog 10 ⟨[(.pointer x0)]⟩ h fun v74 h75 => vAgg v74 fun l76 => uncons l76 fun e77 l78 => vInt .i64 e77 fun i79 => uncons l78 fun e80 l81 => vInt .u8 e80 fun i82 => uncons l81 fun e83 l84 => vStr e83 fun s85 => uncons l84 fun e86 l87 => vInt .u8 e86 fun i88 => unnil l87 (HCalls Tryz.prog 32 ⟨[(.pointer x0), (.agg ⟨[(.int .i64 i79), (.int .u8 i82), (S s85), (.int .u8 i88)]⟩)]⟩ h75 fun v89 h90 => vTup v89 fun l91 => uncons l91 fun e92 l93 => vInt .i64 e92 fun i94 => uncons l93 fun e95 l96 => vInt .i64 e95 fun i97 => unnil l96 (n3 x0 x1 x5 i94 i97 Kn Kr h90))
abbrev Q4 (Kn : T2) (Kr : T0) := QX (D2 Kn) (D0 Kr) noX
abbrev n1 (Kn Kr : T0) (h : H) : Prop :=
  newx h ⟨[(.int .u8 x2_0), (S x2_1), (.slice x2_2b x2_2n x2_2c), (.bool x2_3), (S x2_4)]⟩ 31 fun a98 h99 => n2 x0 x1 a98 Kn Kr h99
variable {g} {h : H} {p : Prop}
variable {x0 x1 x2_0 x2_1 x2_2b x2_2n x2_2c x2_3 x2_4 x5 x6 x7 x8 x9}
theorem D0_el {K : T0} (hq : D0 K g h) (f : ∀ {x6}, E0 g x6 → K x6 h → p) : p := nilDs_el hq fun d q => vInt_el q fun _ e6 q => f ⟨e6, d⟩ q
theorem D1_el {K : T1} (hq : D1 K g h) (f : ∀ {x0 x1 x2_0 x2_1 x2_2b x2_2n x2_2c x2_3 x2_4}, E1 g x0 x1 x2_0 x2_1 x2_2b x2_2n x2_2c x2_3 x2_4 → K x0 x1 x2_0 x2_1 x2_2b x2_2n x2_2c x2_3 x2_4 h → p) : p := by
  obtain ⟨d, q0⟩ := nilDs_ok hq
  obtain ⟨_, e0, q1⟩ := vPtr_ok q0
  obtain ⟨_, e1, q2⟩ := vInt_ok q1
  obtain ⟨l, e2, q3⟩ := vAgg_ok q2
  obtain ⟨_, l, rfl, q4⟩ := uncI q3
  obtain ⟨_, l, rfl, q5⟩ := uncS q4
  obtain ⟨_, _, _, l, rfl, q6⟩ := uncL q5
  obtain ⟨_, l, rfl, q7⟩ := uncB q6
  obtain ⟨_, l, rfl, q8⟩ := uncS q7
  obtain ⟨rfl, q9⟩ := unnil_ok q8
  exact f ⟨e0, e1, e2, d⟩ q9
theorem D2_el {K : T2} (hq : D2 K g h) (f : ∀ {x0 x1 x5}, E2 g x0 x1 x5 → K x0 x1 x5 h → p) : p := nilDs_el hq fun d q => vPtr_el q fun _ e0 q => vInt_el q fun _ e1 q => vAddr_el q fun _ e5 q => f ⟨e0, e1, e5, d⟩ q
theorem D3_el {K : T3} (hq : D3 K g h) (f : ∀ {x0 x1 x5 x7 x8}, E3 g x0 x1 x5 x7 x8 → K x0 x1 x5 x7 x8 h → p) : p := nilDs_el hq fun d q => vPtr_el q fun _ e0 q => vInt_el q fun _ e1 q => vAddr_el q fun _ e5 q => vInt_el q fun _ e7 q => vInt_el q fun _ e8 q => f ⟨e0, e1, e5, e7, e8, d⟩ q
theorem D4_el {K : T4} (hq : D4 K g h) (f : ∀ {x0 x1 x5 x7 x8 x9}, E4 g x0 x1 x5 x7 x8 x9 → K x0 x1 x5 x7 x8 x9 h → p) : p := nilDs_el hq fun d q => vPtr_el q fun _ e0 q => vInt_el q fun _ e1 q => vAddr_el q fun _ e5 q => vInt_el q fun _ e7 q => vInt_el q fun _ e8 q => vInt_el q fun _ e9 q => f ⟨e0, e1, e5, e7, e8, e9, d⟩ q
theorem D5_el {K : T5} (hq : D5 K g h) (f : ∀ {x0 x1 x5 x9}, E5 g x0 x1 x5 x9 → K x0 x1 x5 x9 h → p) : p := nilDs_el hq fun d q => vPtr_el q fun _ e0 q => vInt_el q fun _ e1 q => vAddr_el q fun _ e5 q => vInt_el q fun _ e9 q => f ⟨e0, e1, e5, e9, d⟩ q
theorem n5_ok {Kn Kr : T0} (hg : E5 g x0 x1 x5 x9) (hS : n5 x0 x1 x5 x9 Kn Kr h) : W c8 (Q0 Kn Kr) g h :=
  leafN (by kernel_rfl) (by kernel_rfl) hg hS (by kernel_rfl)
theorem n4_ok {Kn Kr : T0} (hg : E4 g x0 x1 x5 x7 x8 x9) (hS : n4 x0 x1 x5 x7 x8 x9 Kn Kr h) : W c6 (Q0 Kn Kr) g h :=
  seqN (x := c7) (N' := D5 (fun z0 z1 z5 z9 h => n5 z0 z1 z5 z9 Kn Kr h)) (by kernel_rfl) (leafN (by kernel_rfl) (by kernel_rfl) hg hS (by kernel_rfl)) fun hq => D5_el hq n5_ok
theorem n3_ok {Kn Kr : T0} (hg : E3 g x0 x1 x5 x7 x8) (hS : n3 x0 x1 x5 x7 x8 Kn Kr h) : W c4 (Q0 Kn Kr) g h :=
  seqN (x := c5) (N' := D4 (fun z0 z1 z5 z7 z8 z9 h => n4 z0 z1 z5 z7 z8 z9 Kn Kr h)) (by kernel_rfl) (leafN (by kernel_rfl) (by kernel_rfl) hg hS (by kernel_rfl)) fun hq => D4_el hq n4_ok
theorem n2_ok {Kn Kr : T0} (hg : E2 g x0 x1 x5) (hS : n2 x0 x1 x5 Kn Kr h) : W c2 (Q0 Kn Kr) g h :=
  seqN (x := c3) (N' := D3 (fun z0 z1 z5 z7 z8 h => n3 z0 z1 z5 z7 z8 Kn Kr h)) (by kernel_rfl) (leafN (by kernel_rfl) (by kernel_rfl) hg hS (by kernel_rfl)) fun hq => D3_el hq n3_ok
theorem n1_ok {Kn Kr : T0} (hg : E1 g x0 x1 x2_0 x2_1 x2_2b x2_2n x2_2c x2_3 x2_4) (hS : n1 x0 x1 x2_0 x2_1 x2_2b x2_2n x2_2c x2_3 x2_4 Kn Kr h) : W code (Q0 Kn Kr) g h :=
  seqN (x := c1) (N' := D2 (fun z0 z1 z5 h => n2 z0 z1 z5 Kn Kr h)) (by kernel_rfl) (leafN (by kernel_rfl) (by kernel_rfl) hg hS (by kernel_rfl)) fun hq => D2_el hq n2_ok
/-- WHAT (*tympan/tympanref13.World).Insert ASKS -/
abbrev asks (x0 : Option Addr) (x1 : Int) (x2_0 : Int) (x2_1 : List UInt8) (x2_2b : Option Addr) (x2_2n : Nat) (x2_2c : Nat) (x2_3 : Bool) (x2_4 : List UInt8) (K : Value → H → Prop) (h : H) : Prop := n1 x0 x1 x2_0 x2_1 x2_2b x2_2n x2_2c x2_3 x2_4 (fun y6 h => K (.int .i64 y6) h) (fun y6 h => K (.int .i64 y6) h) h
theorem ok (x0 : Option Addr) (x1 : Int) (x2_0 : Int) (x2_1 : List UInt8) (x2_2b : Option Addr) (x2_2n : Nat) (x2_2c : Nat) (x2_3 : Bool) (x2_4 : List UInt8) (K : Value → H → Prop) (h : H) (hS : asks x0 x1 x2_0 x2_1 x2_2b x2_2n x2_2c x2_3 x2_4 K h) : HCalls Tryz.prog 9 ⟨[(.pointer x0), (.int .u8 x1), (.agg ⟨[(.int .u8 x2_0), (S x2_1), (.slice x2_2b x2_2n x2_2c), (.bool x2_3), (S x2_4)]⟩)]⟩ h K :=
  callsN (c := code) Tryz.func9 (by kernel_rfl) (by kernel_rfl) (n1_ok ⟨rfl, rfl, rfl, rfl⟩ hS) fun hq => D0_el hq fun hg hq => retN hg hq (by kernel_rfl)
end Sx.r13_World_Insert

/-! ### (*tympan/tympanref13.World).Current -/
namespace Sx.r13_World_Current
noncomputable def code : Code := bodyOf Tryz.f10
abbrev W := wpC none Tryz.prog 15
variable (g : Env) (x0 : Option Addr) (x2 : Addr)
abbrev T0 := Addr → H → Prop
abbrev E0 := Held g [(2, .pointer (some x2))]
def D0 (K : T0) (g : Env) (h : H) : Prop := nilDs g.ds (vAddr (g.v 2) fun a1 => K a1 h)
abbrev Q0 (Kn Kr : T0) := QX (D0 Kn) (D0 Kr) noX
abbrev T1 := (Option Addr) → H → Prop
abbrev E1 := Held g [(0, .pointer x0)]
def D1 (K : T1) (g : Env) (h : H) : Prop := nilDs g.ds (vPtr (g.v 0) fun p2 => K p2 h)
abbrev n1 (Kn Kr : T0) (h : H) : Prop :=
  newx h ⟨[(.int .i64 (0 : Int)), (.int .u8 (0 : Int)), (S ([] : List UInt8)), (.int .u8 (0 : Int))]⟩ 36 fun a3 h4 => vSome x0 fun a5 => ∃ s6b s6n s6c, cell h4 (a5.add 1) = some (.slice s6b s6n s6c) ∧ (vSome x0 fun a7 => ∃ s8b s8n s8c, cell h4 (a7.add 1) = some (.slice s8b s8n s8c) ∧ (Rng .i64 ((s8n : Int) - (1 : Int)) ∧ ((0 ≤ ((s8n : Int) - (1 : Int)) ∧ ((s8n : Int) - (1 : Int)) < (s6n : Int)) ∧ (vSome s6b fun a9 => ∃ i10, cell h4 (((a9.add (Int.toNat ((s8n : Int) - (1 : Int)) * 4))).add 0) = some (.int .i64 i10) ∧ (∃ i11, cell h4 (((a9.add (Int.toNat ((s8n : Int) - (1 : Int)) * 4))).add 1) = some (.int .u8 i11) ∧ (∃ s12, cell h4 (((a9.add (Int.toNat ((s8n : Int) - (1 : Int)) * 4))).add 2) = some (S s12) ∧ (∃ i13, cell h4 (((a9.add (Int.toNat ((s8n : Int) - (1 : Int)) * 4))).add 3) = some (.int .u8 i13) ∧ (stL a3 [(.int .i64 i10), (.int .u8 i11), (S s12), (.int .u8 i13)] 0 h4 fun h14 => Kr a3 h14))))))))
variable {g} {h : H} {p : Prop}
variable {x0 x2}
theorem D0_el {K : T0} (hq : D0 K g h) (f : ∀ {x2}, E0 g x2 → K x2 h → p) : p := nilDs_el hq fun d q => vAddr_el q fun _ e2 q => f ⟨e2, d⟩ q
theorem D1_el {K : T1} (hq : D1 K g h) (f : ∀ {x0}, E1 g x0 → K x0 h → p) : p := nilDs_el hq fun d q => vPtr_el q fun _ e0 q => f ⟨e0, d⟩ q
theorem n1_ok {Kn Kr : T0} (hg : E1 g x0) (hS : n1 x0 Kn Kr h) : W code (Q0 Kn Kr) g h :=
  leafN (by kernel_rfl) (by kernel_rfl) hg hS (by kernel_rfl)
/-- WHAT (*tympan/tympanref13.World).Current ASKS -/
abbrev asks (x0 : Option Addr) (K : Value → H → Prop) (h : H) : Prop := n1 x0 (fun y2 h => ∃ i15, cell h ((y2).add 0) = some (.int .i64 i15) ∧ (∃ i16, cell h ((y2).add 1) = some (.int .u8 i16) ∧ (∃ s17, cell h ((y2).add 2) = some (S s17) ∧ (∃ i18, cell h ((y2).add 3) = some (.int .u8 i18) ∧ (K (.agg ⟨[(.int .i64 i15), (.int .u8 i16), (S s17), (.int .u8 i18)]⟩) h))))) (fun y2 h => ∃ i15, cell h ((y2).add 0) = some (.int .i64 i15) ∧ (∃ i16, cell h ((y2).add 1) = some (.int .u8 i16) ∧ (∃ s17, cell h ((y2).add 2) = some (S s17) ∧ (∃ i18, cell h ((y2).add 3) = some (.int .u8 i18) ∧ (K (.agg ⟨[(.int .i64 i15), (.int .u8 i16), (S s17), (.int .u8 i18)]⟩) h))))) h
theorem ok (x0 : Option Addr) (K : Value → H → Prop) (h : H) (hS : asks x0 K h) : HCalls Tryz.prog 10 ⟨[(.pointer x0)]⟩ h K :=
  callsN (c := code) Tryz.func10 (by kernel_rfl) (by kernel_rfl) (n1_ok ⟨rfl, rfl⟩ hS) fun hq => D0_el hq fun hg hq => retN hg hq (by kernel_rfl)
end Sx.r13_World_Current

/-! ### (*tympan/tympanref13.World).Write -/
namespace Sx.r13_World_Write
noncomputable def code : Code := bodyOf Tryz.f13
abbrev W := wpC none Tryz.prog 21
variable (g : Env) (x0 : Option Addr) (x1 : List UInt8)
abbrev T0 := H → Prop
abbrev E0 := Held g []
def D0 (K : T0) (g : Env) (h : H) : Prop := nilDs g.ds (K h)
abbrev Q0 (Kn Kr : T0) := QX (D0 Kn) (D0 Kr) noX
abbrev T1 := (Option Addr) → (List UInt8) → H → Prop
abbrev E1 := Held g [(0, .pointer x0), (1, S x1)]
def D1 (K : T1) (g : Env) (h : H) : Prop := nilDs g.ds (vPtr (g.v 0) fun p1 => vStr (g.v 1) fun s2 => K p1 s2 h)
abbrev n1 (Kn Kr : T0) (h : H) : Prop :=
  HCalls Tryz.prog 10 ⟨[(.pointer x0)]⟩ h fun v3 h4 => vAgg v3 fun l5 => uncons l5 fun e6 l7 => vInt .i64 e6 fun i8 => uncons l7 fun e9 l10 => vInt .u8 e9 fun i11 => uncons l10 fun e12 l13 => vStr e12 fun s14 => uncons l13 fun e15 l16 => vInt .u8 e15 fun i17 => unnil l16 (HCalls Tryz.prog 32 ⟨[(.pointer x0), (.agg ⟨[(.int .i64 i8), (.int .u8 i11), (S s14), (.int .u8 i17)]⟩)]⟩ h4 fun v18 h19 => vTup v18 fun l20 => uncons l20 fun e21 l22 => vInt .i64 e21 fun i23 => uncons l22 fun e24 l25 => vInt .i64 e24 fun i26 => unnil l25 (vSome x0 fun a27 => ∃ p28, cell h19 (a27.add 0) = some (.pointer p28) ∧ (HCalls Tryz.prog 39 ⟨[(.pointer p28), (.int .i64 i23), (.int .i64 i26), (S x1)]⟩ h19 fun v29 h30 => vBool v29 fun b31 => cond b31 (Kn h30) (Kn h30))))
variable {g} {h : H} {p : Prop}
variable {x0 x1}
theorem D0_el {K : T0} (hq : D0 K g h) (f : E0 g → K  h → p) : p := nilDs_el hq fun d q => f d q
theorem D1_el {K : T1} (hq : D1 K g h) (f : ∀ {x0 x1}, E1 g x0 x1 → K x0 x1 h → p) : p := nilDs_el hq fun d q => vPtr_el q fun _ e0 q => vStr_el q fun _ e1 q => f ⟨e0, e1, d⟩ q
theorem n1_ok {Kn Kr : T0} (hg : E1 g x0 x1) (hS : n1 x0 x1 Kn Kr h) : W code (Q0 Kn Kr) g h :=
  leafN (by kernel_rfl) (by kernel_rfl) hg hS (by kernel_rfl)
/-- WHAT (*tympan/tympanref13.World).Write ASKS -/
abbrev asks (x0 : Option Addr) (x1 : List UInt8) (K : Value → H → Prop) (h : H) : Prop := n1 x0 x1 (fun h => K (.tuple ⟨[]⟩) h) (fun h => K (.tuple ⟨[]⟩) h) h
theorem ok (x0 : Option Addr) (x1 : List UInt8) (K : Value → H → Prop) (h : H) (hS : asks x0 x1 K h) : HCalls Tryz.prog 13 ⟨[(.pointer x0), (S x1)]⟩ h K :=
  callsN (c := code) Tryz.func13 (by kernel_rfl) (by kernel_rfl) (n1_ok ⟨rfl, rfl, rfl⟩ hS) fun hq => D0_el hq fun hg hq => retN hg hq (by kernel_rfl)
end Sx.r13_World_Write

/-! ### (*tympan/tympanref13.World).Note -/
namespace Sx.r13_World_Note
noncomputable def code : Code := bodyOf Tryz.f15
abbrev W := wpC none Tryz.prog 27
variable (g : Env) (x0 : Option Addr) (x1 : List UInt8)
abbrev T0 := H → Prop
abbrev E0 := Held g []
def D0 (K : T0) (g : Env) (h : H) : Prop := nilDs g.ds (K h)
abbrev Q0 (Kn Kr : T0) := QX (D0 Kn) (D0 Kr) noX
abbrev T1 := (Option Addr) → (List UInt8) → H → Prop
abbrev E1 := Held g [(0, .pointer x0), (1, S x1)]
def D1 (K : T1) (g : Env) (h : H) : Prop := nilDs g.ds (vPtr (g.v 0) fun p1 => vStr (g.v 1) fun s2 => K p1 s2 h)
abbrev n1 (Kn Kr : T0) (h : H) : Prop :=
  HCalls Tryz.prog 10 ⟨[(.pointer x0)]⟩ h fun v3 h4 => vAgg v3 fun l5 => uncons l5 fun e6 l7 => vInt .i64 e6 fun i8 => uncons l7 fun e9 l10 => vInt .u8 e9 fun i11 => uncons l10 fun e12 l13 => vStr e12 fun s14 => uncons l13 fun e15 l16 => vInt .u8 e15 fun i17 => unnil l16 (HCalls Tryz.prog 32 ⟨[(.pointer x0), (.agg ⟨[(.int .i64 i8), (.int .u8 i11), (S s14), (.int .u8 i17)]⟩)]⟩ h4 fun v18 h19 => vTup v18 fun l20 => uncons l20 fun e21 l22 => vInt .i64 e21 fun i23 => uncons l22 fun e24 l25 => vInt .i64 e24 fun i26 => unnil l25 ((vSome x0 fun a27 => vSome x0 fun a28 => ∃ p29, cell h19 (a28.add 0) = some (.pointer p29) ∧ (HCalls Tryz.prog 33 ⟨[(.pointer p29), (.agg ⟨[(.int .u8 (3 : Int)), (.int .u8 (0 : Int)), (S ([] : List UInt8)), (.slice none 0 0), (S x1), (.slice none 0 0)]⟩)]⟩ h19 fun v30 h31 => vInt .i64 v30 fun i32 => ∃ p33, cell h31 (a27.add 0) = some (.pointer p33) ∧ (HCalls Tryz.prog 34 ⟨[(.pointer p33), (.int .i64 i23), (.int .i64 i26), (.int .i64 i32)]⟩ h31 fun v34 h35 => vBool v34 fun b36 => cond b36 (Kn h35) (Kn h35)))) ∧ (vSome x0 fun a37 => ∃ p38, cell h19 (a37.add 0) = some (.pointer p38) ∧ (vSome x0 fun a39 => ∃ p40, cell h19 (a39.add 0) = some (.pointer p40) ∧ (HCalls Tryz.prog 33 ⟨[(.pointer p40), (.agg ⟨[(.int .u8 (3 : Int)), (.int .u8 (0 : Int)), (S ([] : List UInt8)), (.slice none 0 0), (S x1), (.slice none 0 0)]⟩)]⟩ h19 fun v41 h42 => vInt .i64 v41 fun i43 => HCalls Tryz.prog 34 ⟨[(.pointer p38), (.int .i64 i23), (.int .i64 i26), (.int .i64 i43)]⟩ h42 fun v44 h45 => vBool v44 fun b46 => cond b46 (Kn h45) (Kn h45))))))
variable {g} {h : H} {p : Prop}
variable {x0 x1}
theorem D0_el {K : T0} (hq : D0 K g h) (f : E0 g → K  h → p) : p := nilDs_el hq fun d q => f d q
theorem D1_el {K : T1} (hq : D1 K g h) (f : ∀ {x0 x1}, E1 g x0 x1 → K x0 x1 h → p) : p := nilDs_el hq fun d q => vPtr_el q fun _ e0 q => vStr_el q fun _ e1 q => f ⟨e0, e1, d⟩ q
theorem n1_ok {Kn Kr : T0} (hg : E1 g x0 x1) (hS : n1 x0 x1 Kn Kr h) : W code (Q0 Kn Kr) g h :=
  leafN (by kernel_rfl) (by kernel_rfl) hg hS (by kernel_rfl)
/-- WHAT (*tympan/tympanref13.World).Note ASKS -/
abbrev asks (x0 : Option Addr) (x1 : List UInt8) (K : Value → H → Prop) (h : H) : Prop := n1 x0 x1 (fun h => K (.tuple ⟨[]⟩) h) (fun h => K (.tuple ⟨[]⟩) h) h
theorem ok (x0 : Option Addr) (x1 : List UInt8) (K : Value → H → Prop) (h : H) (hS : asks x0 x1 K h) : HCalls Tryz.prog 15 ⟨[(.pointer x0), (S x1)]⟩ h K :=
  callsN (c := code) Tryz.func15 (by kernel_rfl) (by kernel_rfl) (n1_ok ⟨rfl, rfl, rfl⟩ hS) fun hq => D0_el hq fun hg hq => retN hg hq (by kernel_rfl)
end Sx.r13_World_Note

/-! ### (*tympan/tympanref13.World).Close -/
namespace Sx.r13_World_Close
noncomputable def code : Code := bodyOf Tryz.f17
abbrev W := wpC none Tryz.prog 24
variable (g : Env) (x0 : Option Addr) (x1 : Int) (x14 : Bool)
abbrev T0 := H → Prop
abbrev E0 := Held g []
def D0 (K : T0) (g : Env) (h : H) : Prop := nilDs g.ds (K h)
abbrev Q0 (Kn Kr : T0) := QX (D0 Kn) (D0 Kr) noX
abbrev T1 := (Option Addr) → Int → H → Prop
abbrev E1 := Held g [(0, .pointer x0), (1, .int .i64 x1)]
def D1 (K : T1) (g : Env) (h : H) : Prop := nilDs g.ds (vPtr (g.v 0) fun p1 => vInt .i64 (g.v 1) fun i2 => K p1 i2 h)
noncomputable def c1 := cFst code
noncomputable def c2 := cSnd code
abbrev T2 := (Option Addr) → Int → Bool → H → Prop
abbrev E2 := Held g [(0, .pointer x0), (1, .int .i64 x1), (14, .bool x14)]
def D2 (K : T2) (g : Env) (h : H) : Prop := nilDs g.ds (vPtr (g.v 0) fun p3 => vInt .i64 (g.v 1) fun i4 => vBool (g.v 14) fun b5 => K p3 i4 b5 h)
abbrev n2 (Kn Kr : T0) (h : H) : Prop :=
  cond x14 (vSome x0 fun a6 => ∃ s7b s7n s7c, cell h (a6.add 1) = some (.slice s7b s7n s7c) ∧ ((0 ≤ (0 : Int) ∧ (0 : Int) ≤ x1 ∧ x1 ≤ (s7c : Int)) ∧ (vSome x0 fun a8 => stL (a8.add 1) [(.slice (if s7c = Int.toNat (0 : Int) then s7b else Option.map (fun q => q.add (Int.toNat (0 : Int) * 4)) s7b) (Int.toNat x1 - Int.toNat (0 : Int)) (s7c - Int.toNat (0 : Int)))] 0 h fun h9 => Kn h9))) (Kn h)
abbrev Q1 (Kn : T2) (Kr : T0) := QX (D2 Kn) (D0 Kr) noX
abbrev n1 (Kn Kr : T0) (h : H) : Prop :=
  Spl (x1 ≥ (1 : Int)) (vSome x0 fun a10 => ∃ s11b s11n s11c, cell h (a10.add 1) = some (.slice s11b s11n s11c) ∧ (Spl (x1 < (s11n : Int)) (n2 x0 x1 true Kn Kr h) (n2 x0 x1 false Kn Kr h))) (n2 x0 x1 false Kn Kr h)
variable {g} {h : H} {p : Prop}
variable {x0 x1 x14}
theorem D0_el {K : T0} (hq : D0 K g h) (f : E0 g → K  h → p) : p := nilDs_el hq fun d q => f d q
theorem D1_el {K : T1} (hq : D1 K g h) (f : ∀ {x0 x1}, E1 g x0 x1 → K x0 x1 h → p) : p := nilDs_el hq fun d q => vPtr_el q fun _ e0 q => vInt_el q fun _ e1 q => f ⟨e0, e1, d⟩ q
theorem D2_el {K : T2} (hq : D2 K g h) (f : ∀ {x0 x1 x14}, E2 g x0 x1 x14 → K x0 x1 x14 h → p) : p := nilDs_el hq fun d q => vPtr_el q fun _ e0 q => vInt_el q fun _ e1 q => vBool_el q fun _ e14 q => f ⟨e0, e1, e14, d⟩ q
theorem n2_ok {Kn Kr : T0} (hg : E2 g x0 x1 x14) (hS : n2 x0 x1 x14 Kn Kr h) : W c2 (Q0 Kn Kr) g h :=
  leafN (by kernel_rfl) (by kernel_rfl) hg hS (by kernel_rfl)
theorem n1_ok {Kn Kr : T0} (hg : E1 g x0 x1) (hS : n1 x0 x1 Kn Kr h) : W code (Q0 Kn Kr) g h :=
  seqN (x := c1) (N' := D2 (fun z0 z1 z14 h => n2 z0 z1 z14 Kn Kr h)) (by kernel_rfl) (leafN (by kernel_rfl) (by kernel_rfl) hg hS (by kernel_rfl)) fun hq => D2_el hq n2_ok
/-- WHAT (*tympan/tympanref13.World).Close ASKS -/
abbrev asks (x0 : Option Addr) (x1 : Int) (K : Value → H → Prop) (h : H) : Prop := n1 x0 x1 (fun h => K (.tuple ⟨[]⟩) h) (fun h => K (.tuple ⟨[]⟩) h) h
theorem ok (x0 : Option Addr) (x1 : Int) (K : Value → H → Prop) (h : H) (hS : asks x0 x1 K h) : HCalls Tryz.prog 17 ⟨[(.pointer x0), (.int .i64 x1)]⟩ h K :=
  callsN (c := code) Tryz.func17 (by kernel_rfl) (by kernel_rfl) (n1_ok ⟨rfl, rfl, rfl⟩ hS) fun hq => D0_el hq fun hg hq => retN hg hq (by kernel_rfl)
end Sx.r13_World_Close

/-! ### (*tympan/tympanref13.World).Where -/
namespace Sx.r13_World_Where
noncomputable def code : Code := bodyOf Tryz.f32
abbrev W := wpC none Tryz.prog 90
variable (g : Env) (x0 : Option Addr) (x1_0 x1_1 : Int) (x1_2 : List UInt8) (x1_3 : Int) (x3 : Addr) (x4 x5 : Int) (x6 : Bool) (x7 : Int)
abbrev T0 := Int → Int → H → Prop
abbrev E0 := Held g [(4, .int .i64 x4), (5, .int .i64 x5)]
def D0 (K : T0) (g : Env) (h : H) : Prop := nilDs g.ds (vInt .i64 (g.v 4) fun i1 => vInt .i64 (g.v 5) fun i2 => K i1 i2 h)
abbrev Q0 (Kn Kr : T0) := QX (D0 Kn) (D0 Kr) noX
abbrev T1 := (Option Addr) → Int → Int → (List UInt8) → Int → H → Prop
abbrev E1 := Held g [(0, .pointer x0), (1, .agg ⟨[(.int .i64 x1_0), (.int .u8 x1_1), (S x1_2), (.int .u8 x1_3)]⟩)]
def D1 (K : T1) (g : Env) (h : H) : Prop := nilDs g.ds (vPtr (g.v 0) fun p3 => vAgg (g.v 1) fun l4 => uncons l4 fun e5 l6 => vInt .i64 e5 fun i7 => uncons l6 fun e8 l9 => vInt .u8 e8 fun i10 => uncons l9 fun e11 l12 => vStr e11 fun s13 => uncons l12 fun e14 l15 => vInt .u8 e14 fun i16 => unnil l15 (K p3 i7 i10 s13 i16 h))
noncomputable def c1 := cFst code
noncomputable def c2 := cSnd code
abbrev T2 := (Option Addr) → Addr → H → Prop
abbrev E2 := Held g [(0, .pointer x0), (3, .pointer (some x3))]
def D2 (K : T2) (g : Env) (h : H) : Prop := nilDs g.ds (vPtr (g.v 0) fun p17 => vAddr (g.v 3) fun a18 => K p17 a18 h)
noncomputable def c3 := cFst c2
noncomputable def c4 := cSnd c2
abbrev T3 := (Option Addr) → Addr → Bool → H → Prop
abbrev E3 := Held g [(0, .pointer x0), (3, .pointer (some x3)), (6, .bool x6)]
def D3 (K : T3) (g : Env) (h : H) : Prop := nilDs g.ds (vPtr (g.v 0) fun p19 => vAddr (g.v 3) fun a20 => vBool (g.v 6) fun b21 => K p19 a20 b21 h)
noncomputable def c5 := cFst c4
noncomputable def c6 := cSnd c4
abbrev T4 := (Option Addr) → H → Prop
abbrev E4 := Held g [(0, .pointer x0)]
def D4 (K : T4) (g : Env) (h : H) : Prop := nilDs g.ds (vPtr (g.v 0) fun p22 => K p22 h)
noncomputable def c7 := cFst c6
noncomputable def c8 := cSnd c6
abbrev T5 := (Option Addr) → Int → H → Prop
abbrev E5 := Held g [(0, .pointer x0), (7, .int .i64 x7)]
def D5 (K : T5) (g : Env) (h : H) : Prop := nilDs g.ds (vPtr (g.v 0) fun p23 => vInt .i64 (g.v 7) fun i24 => K p23 i24 h)
noncomputable def c9 := cFst c8
noncomputable def c10 := cSnd c8
abbrev n6 (Kn Kr : T0) (h : H) : Prop :=
  vSome x0 fun a25 => ∃ p26, cell h (a25.add 0) = some (.pointer p26) ∧ (vSome x0 fun a27 => ∃ s28b s28n s28c, cell h (a27.add 1) = some (.slice s28b s28n s28c) ∧ ((0 ≤ x7 ∧ x7 < (s28n : Int)) ∧ (vSome s28b fun a29 => ∃ i30, cell h ((a29.add (Int.toNat x7 * 4)).add 0) = some (.int .i64 i30) ∧ (HCalls Tryz.prog 64 ⟨[(.pointer p26), (.int .i64 i30)]⟩ h fun v31 h32 => vInt .i64 v31 fun i33 => Spl (i33 ≥ (0 : Int)) (vSome x0 fun a34 => ∃ s35b s35n s35c, cell h32 (a34.add 1) = some (.slice s35b s35n s35c) ∧ ((0 ≤ x7 ∧ x7 < (s35n : Int)) ∧ (vSome s35b fun a36 => ∃ i37, cell h32 ((a36.add (Int.toNat x7 * 4)).add 0) = some (.int .i64 i37) ∧ (Kr i33 i37 h32)))) (vSome x0 fun a38 => ∃ s39b s39n s39c, cell h32 (a38.add 1) = some (.slice s39b s39n s39c) ∧ (Rng .i64 (x7 - (1 : Int)) ∧ ((0 ≤ (if (0 : Int) > (x7 - (1 : Int)) then (0 : Int) else (x7 - (1 : Int))) ∧ (if (0 : Int) > (x7 - (1 : Int)) then (0 : Int) else (x7 - (1 : Int))) < (s39n : Int)) ∧ (vSome s39b fun a40 => ∃ i41, cell h32 ((a40.add (Int.toNat (if (0 : Int) > (x7 - (1 : Int)) then (0 : Int) else (x7 - (1 : Int))) * 4)).add 0) = some (.int .i64 i41) ∧ (Kr i41 (-1 : Int) h32)))))))))
abbrev Q1 (Kn : T5) (Kr : T0) := QX (D5 Kn) (D0 Kr) noX
abbrev n5 (Kn Kr : T0) (h : H) : Prop :=
  Spl (x7 < (0 : Int)) (Kr (0 : Int) (-1 : Int) h) (n6 x0 x7 Kn Kr h)
abbrev n4 (Kn Kr : T0) (h : H) : Prop :=
  vSome x0 fun a42 => ∃ s43b s43n s43c, cell h (a42.add 1) = some (.slice s43b s43n s43c) ∧ (newx h #[(S ([116, 97, 98, 108, 101] : List UInt8))] 9 fun a44 h45 => HCalls Tryz.prog 63 ⟨[(.slice s43b s43n s43c), (.slice (some a44) 1 1)]⟩ h45 fun v46 h47 => vInt .i64 v46 fun i48 => n5 x0 i48 Kn Kr h47)
abbrev Q2 (Kn : T4) (Kr : T0) := QX (D4 Kn) (D0 Kr) noX
abbrev n3 (Kn Kr : T0) (h : H) : Prop :=
  vSome x0 fun a49 => ∃ b50, cell h (a49.add 3) = some (.bool b50) ∧ (cond b50 (∃ i51, cell h (x3.add 1) = some (.int .u8 i51) ∧ (Spl (i51 = (0 : Int)) (cond x6 (n4 x0 Kn Kr h) (∃ i52, cell h (x3.add 0) = some (.int .i64 i52) ∧ (Kr i52 (-1 : Int) h))) (∃ i53, cell h (x3.add 0) = some (.int .i64 i53) ∧ (Kr i53 (-1 : Int) h)))) (∃ i54, cell h (x3.add 0) = some (.int .i64 i54) ∧ (Kr i54 (-1 : Int) h)))
abbrev Q3 (Kn : T3) (Kr : T0) := QX (D3 Kn) (D0 Kr) noX
abbrev n2 (Kn Kr : T0) (h : H) : Prop :=
  ∃ s55, cell h (x3.add 2) = some (S s55) ∧ (Spl (s55 = ([116, 97, 98, 108, 101] : List UInt8)) (n3 x0 x3 true Kn Kr h) (∃ s56, cell h (x3.add 2) = some (S s56) ∧ (Spl (s56 = ([116, 98, 111, 100, 121] : List UInt8)) (n3 x0 x3 true Kn Kr h) (∃ s57, cell h (x3.add 2) = some (S s57) ∧ (Spl (s57 = ([116, 102, 111, 111, 116] : List UInt8)) (n3 x0 x3 true Kn Kr h) (∃ s58, cell h (x3.add 2) = some (S s58) ∧ (Spl (s58 = ([116, 104, 101, 97, 100] : List UInt8)) (n3 x0 x3 true Kn Kr h) (∃ s59, cell h (x3.add 2) = some (S s59) ∧ (Spl (s59 = ([116, 114] : List UInt8)) (n3 x0 x3 true Kn Kr h) (n3 x0 x3 false Kn Kr h))))))))))
abbrev Q4 (Kn : T2) (Kr : T0) := QX (D2 Kn) (D0 Kr) noX
abbrev n1 (Kn Kr : T0) (h : H) : Prop :=
  newx h ⟨[(.int .i64 x1_0), (.int .u8 x1_1), (S x1_2), (.int .u8 x1_3)]⟩ 36 fun a60 h61 => n2 x0 a60 Kn Kr h61
variable {g} {h : H} {p : Prop}
variable {x0 x1_0 x1_1 x1_2 x1_3 x3 x4 x5 x6 x7}
theorem D0_el {K : T0} (hq : D0 K g h) (f : ∀ {x4 x5}, E0 g x4 x5 → K x4 x5 h → p) : p := nilDs_el hq fun d q => vInt_el q fun _ e4 q => vInt_el q fun _ e5 q => f ⟨e4, e5, d⟩ q
theorem D1_el {K : T1} (hq : D1 K g h) (f : ∀ {x0 x1_0 x1_1 x1_2 x1_3}, E1 g x0 x1_0 x1_1 x1_2 x1_3 → K x0 x1_0 x1_1 x1_2 x1_3 h → p) : p := by
  obtain ⟨d, q0⟩ := nilDs_ok hq
  obtain ⟨_, e0, q1⟩ := vPtr_ok q0
  obtain ⟨l, e1, q2⟩ := vAgg_ok q1
  obtain ⟨_, l, rfl, q3⟩ := uncI q2
  obtain ⟨_, l, rfl, q4⟩ := uncI q3
  obtain ⟨_, l, rfl, q5⟩ := uncS q4
  obtain ⟨_, l, rfl, q6⟩ := uncI q5
  obtain ⟨rfl, q7⟩ := unnil_ok q6
  exact f ⟨e0, e1, d⟩ q7
theorem D2_el {K : T2} (hq : D2 K g h) (f : ∀ {x0 x3}, E2 g x0 x3 → K x0 x3 h → p) : p := nilDs_el hq fun d q => vPtr_el q fun _ e0 q => vAddr_el q fun _ e3 q => f ⟨e0, e3, d⟩ q
theorem D3_el {K : T3} (hq : D3 K g h) (f : ∀ {x0 x3 x6}, E3 g x0 x3 x6 → K x0 x3 x6 h → p) : p := nilDs_el hq fun d q => vPtr_el q fun _ e0 q => vAddr_el q fun _ e3 q => vBool_el q fun _ e6 q => f ⟨e0, e3, e6, d⟩ q
theorem D4_el {K : T4} (hq : D4 K g h) (f : ∀ {x0}, E4 g x0 → K x0 h → p) : p := nilDs_el hq fun d q => vPtr_el q fun _ e0 q => f ⟨e0, d⟩ q
theorem D5_el {K : T5} (hq : D5 K g h) (f : ∀ {x0 x7}, E5 g x0 x7 → K x0 x7 h → p) : p := nilDs_el hq fun d q => vPtr_el q fun _ e0 q => vInt_el q fun _ e7 q => f ⟨e0, e7, d⟩ q
theorem n6_ok {Kn Kr : T0} (hg : E5 g x0 x7) (hS : n6 x0 x7 Kn Kr h) : W c10 (Q0 Kn Kr) g h :=
  leafN (by kernel_rfl) (by kernel_rfl) hg hS (by kernel_rfl)
theorem n5_ok {Kn Kr : T0} (hg : E5 g x0 x7) (hS : n5 x0 x7 Kn Kr h) : W c8 (Q0 Kn Kr) g h :=
  seqN (x := c9) (N' := D5 (fun z0 z7 h => n6 z0 z7 Kn Kr h)) (by kernel_rfl) (leafN (by kernel_rfl) (by kernel_rfl) hg hS (by kernel_rfl)) fun hq => D5_el hq n6_ok
theorem n4_ok {Kn Kr : T0} (hg : E4 g x0) (hS : n4 x0 Kn Kr h) : W c6 (Q0 Kn Kr) g h :=
  seqN (x := c7) (N' := D5 (fun z0 z7 h => n5 z0 z7 Kn Kr h)) (by kernel_rfl) (leafN (by kernel_rfl) (by kernel_rfl) hg hS (by kernel_rfl)) fun hq => D5_el hq n5_ok
theorem n3_ok {Kn Kr : T0} (hg : E3 g x0 x3 x6) (hS : n3 x0 x3 x6 Kn Kr h) : W c4 (Q0 Kn Kr) g h :=
  seqN (x := c5) (N' := D4 (fun z0 h => n4 z0 Kn Kr h)) (by kernel_rfl) (leafN (by kernel_rfl) (by kernel_rfl) hg hS (by kernel_rfl)) fun hq => D4_el hq n4_ok
theorem n2_ok {Kn Kr : T0} (hg : E2 g x0 x3) (hS : n2 x0 x3 Kn Kr h) : W c2 (Q0 Kn Kr) g h :=
  seqN (x := c3) (N' := D3 (fun z0 z3 z6 h => n3 z0 z3 z6 Kn Kr h)) (by kernel_rfl) (leafN (by kernel_rfl) (by kernel_rfl) hg hS (by kernel_rfl)) fun hq => D3_el hq n3_ok
theorem n1_ok {Kn Kr : T0} (hg : E1 g x0 x1_0 x1_1 x1_2 x1_3) (hS : n1 x0 x1_0 x1_1 x1_2 x1_3 Kn Kr h) : W code (Q0 Kn Kr) g h :=
  seqN (x := c1) (N' := D2 (fun z0 z3 h => n2 z0 z3 Kn Kr h)) (by kernel_rfl) (leafN (by kernel_rfl) (by kernel_rfl) hg hS (by kernel_rfl)) fun hq => D2_el hq n2_ok
/-- WHAT (*tympan/tympanref13.World).Where ASKS -/
abbrev asks (x0 : Option Addr) (x1_0 : Int) (x1_1 : Int) (x1_2 : List UInt8) (x1_3 : Int) (K : Value → H → Prop) (h : H) : Prop := n1 x0 x1_0 x1_1 x1_2 x1_3 (fun y4 y5 h => K (.tuple ⟨[(.int .i64 y4), (.int .i64 y5)]⟩) h) (fun y4 y5 h => K (.tuple ⟨[(.int .i64 y4), (.int .i64 y5)]⟩) h) h
theorem ok (x0 : Option Addr) (x1_0 : Int) (x1_1 : Int) (x1_2 : List UInt8) (x1_3 : Int) (K : Value → H → Prop) (h : H) (hS : asks x0 x1_0 x1_1 x1_2 x1_3 K h) : HCalls Tryz.prog 32 ⟨[(.pointer x0), (.agg ⟨[(.int .i64 x1_0), (.int .u8 x1_1), (S x1_2), (.int .u8 x1_3)]⟩)]⟩ h K :=
  callsN (c := code) Tryz.func32 (by kernel_rfl) (by kernel_rfl) (n1_ok ⟨rfl, rfl, rfl⟩ hS) fun hq => D0_el hq fun hg hq => retN hg hq (by kernel_rfl)
end Sx.r13_World_Where

/-! ### tympan/tympanref13.point -/
namespace Sx.r13_point
noncomputable def code : Code := bodyOf Tryz.f35
abbrev W := wpC none Tryz.prog 76
variable (g : Env) (x0 x1_0 : Int) (x1_1 : List UInt8) (x1_2b : Option Addr) (x1_2n x1_2c : Nat) (x1_3 : Bool) (x1_4 : List UInt8) (x3 : Addr) (x4 : Int) (x5 : List UInt8) (x6 x10 : Int) (x11 x23 : Bool)
abbrev T0 := Int → H → Prop
abbrev E0 := Held g [(4, .int .u8 x4)]
def D0 (K : T0) (g : Env) (h : H) : Prop := nilDs g.ds (vInt .u8 (g.v 4) fun i1 => K i1 h)
abbrev Q0 (Kn Kr : T0) := QX (D0 Kn) (D0 Kr) noX
abbrev T1 := Int → Int → (List UInt8) → (Option Addr) → Nat → Nat → Bool → (List UInt8) → H → Prop
abbrev E1 := Held g [(0, .int .u8 x0), (1, .agg ⟨[(.int .u8 x1_0), (S x1_1), (.slice x1_2b x1_2n x1_2c), (.bool x1_3), (S x1_4)]⟩)]
def D1 (K : T1) (g : Env) (h : H) : Prop := nilDs g.ds (vInt .u8 (g.v 0) fun i2 => vAgg (g.v 1) fun l3 => uncons l3 fun e4 l5 => vInt .u8 e4 fun i6 => uncons l5 fun e7 l8 => vStr e7 fun s9 => uncons l8 fun e10 l11 => vSlice e10 fun s12b s12n s12c => uncons l11 fun e13 l14 => vBool e13 fun b15 => uncons l14 fun e16 l17 => vStr e16 fun s18 => unnil l17 (K i2 i6 s9 s12b s12n s12c b15 s18 h))
noncomputable def c1 := cFst code
noncomputable def c2 := cSnd code
abbrev T2 := Int → Addr → H → Prop
abbrev E2 := Held g [(0, .int .u8 x0), (3, .pointer (some x3))]
def D2 (K : T2) (g : Env) (h : H) : Prop := nilDs g.ds (vInt .u8 (g.v 0) fun i19 => vAddr (g.v 3) fun a20 => K i19 a20 h)
noncomputable def c3 := cFst c2
noncomputable def c4 := cSnd c2
abbrev T3 := Int → Addr → (List UInt8) → H → Prop
abbrev E3 := Held g [(0, .int .u8 x0), (3, .pointer (some x3)), (5, S x5)]
def D3 (K : T3) (g : Env) (h : H) : Prop := nilDs g.ds (vInt .u8 (g.v 0) fun i21 => vAddr (g.v 3) fun a22 => vStr (g.v 5) fun s23 => K i21 a22 s23 h)
noncomputable def c5 := cFst c4
noncomputable def c6 := cSnd c4
abbrev T4 := H → Prop
abbrev E4 := Held g []
def D4 (K : T4) (g : Env) (h : H) : Prop := nilDs g.ds (K h)
abbrev n4 (Kn Kr : T0) (h : H) : Prop :=
  Kr (0 : Int) h
abbrev Q1 (Kn : T4) (Kr : T0) := QX (D4 Kn) (D0 Kr) noX
noncomputable def c7 := cFst c5
noncomputable def c8 := cSnd c5
abbrev T5 := Addr → (List UInt8) → Int → H → Prop
abbrev E5 := Held g [(3, .pointer (some x3)), (5, S x5), (10, .int .u8 x10)]
def D5 (K : T5) (g : Env) (h : H) : Prop := nilDs g.ds (vAddr (g.v 3) fun a24 => vStr (g.v 5) fun s25 => vInt .u8 (g.v 10) fun i26 => K a24 s25 i26 h)
noncomputable def c9 := cFst c8
abbrev Q2 (Kn Ke0 : T4) (Kr : T0) := QX (D4 Kn) (D0 Kr) (exX 0 (D4 Ke0) noX)
noncomputable def c10 := cFst c9
noncomputable def c11 := cSnd c9
abbrev T6 := Addr → (List UInt8) → Int → Bool → H → Prop
abbrev E6 := Held g [(3, .pointer (some x3)), (5, S x5), (10, .int .u8 x10), (11, .bool x11)]
def D6 (K : T6) (g : Env) (h : H) : Prop := nilDs g.ds (vAddr (g.v 3) fun a27 => vStr (g.v 5) fun s28 => vInt .u8 (g.v 10) fun i29 => vBool (g.v 11) fun b30 => K a27 s28 i29 b30 h)
noncomputable def c12 := cFst c11
noncomputable def c13 := cSnd c11
abbrev T7 := (List UInt8) → H → Prop
abbrev E7 := Held g [(5, S x5)]
def D7 (K : T7) (g : Env) (h : H) : Prop := nilDs g.ds (vStr (g.v 5) fun s31 => K s31 h)
abbrev n9 (Kn Ke0 : T4) (Kr : T0) (h : H) : Prop :=
  Spl (x5 = ([100, 101, 115, 99] : List UInt8)) (Kr (2 : Int) h) (Spl (x5 = ([102, 111, 114, 101, 105, 103, 110, 79, 98, 106, 101, 99, 116] : List UInt8)) (Kr (2 : Int) h) (Spl (x5 = ([116, 105, 116, 108, 101] : List UInt8)) (Kr (2 : Int) h) (Kn h)))
noncomputable def c14 := cFst c13
noncomputable def c15 := cSnd c13
abbrev T8 := Addr → (List UInt8) → Bool → H → Prop
abbrev E8 := Held g [(3, .pointer (some x3)), (5, S x5), (23, .bool x23)]
def D8 (K : T8) (g : Env) (h : H) : Prop := nilDs g.ds (vAddr (g.v 3) fun a32 => vStr (g.v 5) fun s33 => vBool (g.v 23) fun b34 => K a32 s33 b34 h)
noncomputable def c16 := cFst c15
noncomputable def c17 := cSnd c15
abbrev T9 := Addr → (List UInt8) → H → Prop
abbrev E9 := Held g [(3, .pointer (some x3)), (5, S x5)]
def D9 (K : T9) (g : Env) (h : H) : Prop := nilDs g.ds (vAddr (g.v 3) fun a35 => vStr (g.v 5) fun s36 => K a35 s36 h)
noncomputable def c18 := cFst c16
noncomputable def c19 := cSnd c16
noncomputable def c20 := cFst c19
noncomputable def c21 := cSnd c19
abbrev T10 := Addr → (List UInt8) → Int → H → Prop
abbrev E10 := Held g [(3, .pointer (some x3)), (5, S x5), (6, .int .i64 x6)]
def D10 (K : T10) (g : Env) (h : H) : Prop := nilDs g.ds (vAddr (g.v 3) fun a37 => vStr (g.v 5) fun s38 => vInt .i64 (g.v 6) fun i39 => K a37 s38 i39 h)
noncomputable def c22 := cFst c21
abbrev Q3 (Kn Ke1 Ke0 : T4) (Kr : T0) := QX (D4 Kn) (D0 Kr) (exX 1 (D4 Ke1) (exX 0 (D4 Ke0) noX))
noncomputable def c23 := cFst c22
abbrev Q4 (Kn : T10) (Ke1 Ke0 : T4) (Kr : T0) := QX (D10 Kn) (D0 Kr) (exX 1 (D4 Ke1) (exX 0 (D4 Ke0) noX))
def n15_L (Kn Ke1 Ke0 : T4) (Kr : T0) : Nat → T10
  | 0 => fun _ _ _ _ => False
  | N + 1 => fun x3 x5 x6 h => ∃ s40b s40n s40c, cell h (x3.add 2) = some (.slice s40b s40n s40c) ∧ (Spl (x6 < (s40n : Int)) (Spl (x5 = ([97, 110, 110, 111, 116, 97, 116, 105, 111, 110, 45, 120, 109, 108] : List UInt8)) (∃ s41b s41n s41c, cell h (x3.add 2) = some (.slice s41b s41n s41c) ∧ ((0 ≤ x6 ∧ x6 < (s41n : Int)) ∧ (vSome s41b fun a42 => ∃ s43, cell h ((a42.add (Int.toNat x6 * 2)).add 1) = some (S s43) ∧ (HCalls Tryz.prog 71 ⟨[(S s43)]⟩ h fun v44 h45 => vStr v44 fun s46 => ∃ s47b s47n s47c, cell h45 (x3.add 2) = some (.slice s47b s47n s47c) ∧ ((0 ≤ x6 ∧ x6 < (s47n : Int)) ∧ (vSome s47b fun a48 => ∃ s49, cell h45 ((a48.add (Int.toNat x6 * 2)).add 0) = some (S s49) ∧ (Spl (s49 = ([101, 110, 99, 111, 100, 105, 110, 103] : List UInt8)) (Spl (s46 = ([116, 101, 120, 116, 47, 104, 116, 109, 108] : List UInt8)) (Kr (2 : Int) h45) (Spl (s46 = ([97, 112, 112, 108, 105, 99, 97, 116, 105, 111, 110, 47, 120, 104, 116, 109, 108, 43, 120, 109, 108] : List UInt8)) (Kr (2 : Int) h45) (Rng .i64 (x6 + (1 : Int)) ∧ (n15_L Kn Ke1 Ke0 Kr N x3 x5 (x6 + (1 : Int)) h45)))) (Rng .i64 (x6 + (1 : Int)) ∧ (n15_L Kn Ke1 Ke0 Kr N x3 x5 (x6 + (1 : Int)) h45))))))))) (Ke1 h)) (Ke1 h))
abbrev n15 (Kn Ke1 Ke0 : T4) (Kr : T0) (h : H) : Prop :=
  ∃ N, n15_L Kn Ke1 Ke0 Kr N x3 x5 x6 h
abbrev n14 (Kn Ke0 : T4) (Kr : T0) (h : H) : Prop :=
  n15 x3 x5 x6 Kn Kn Ke0 Kr h
abbrev Q5 (Kn : T10) (Ke0 : T4) (Kr : T0) := QX (D10 Kn) (D0 Kr) (exX 0 (D4 Ke0) noX)
abbrev n13 (Kn Ke0 : T4) (Kr : T0) (h : H) : Prop :=
  n14 x3 x5 (0 : Int) Kn Ke0 Kr h
abbrev Q6 (Kn : T9) (Ke0 : T4) (Kr : T0) := QX (D9 Kn) (D0 Kr) (exX 0 (D4 Ke0) noX)
abbrev n12 (Kn Ke0 : T4) (Kr : T0) (h : H) : Prop :=
  Spl (x5 = ([109, 105] : List UInt8)) (Kr (1 : Int) h) (Spl (x5 = ([109, 110] : List UInt8)) (Kr (1 : Int) h) (Spl (x5 = ([109, 111] : List UInt8)) (Kr (1 : Int) h) (Spl (x5 = ([109, 115] : List UInt8)) (Kr (1 : Int) h) (Spl (x5 = ([109, 116, 101, 120, 116] : List UInt8)) (Kr (1 : Int) h) (n13 x3 x5 Kn Ke0 Kr h)))))
abbrev n16 (Kn Ke0 : T4) (Kr : T0) (h : H) : Prop :=
  Kn h
abbrev n11 (Kn Ke0 : T4) (Kr : T0) (h : H) : Prop :=
  cond x23 (n12 x3 x5 Kn Ke0 Kr h) (n16  Kn Ke0 Kr h)
abbrev Q7 (Kn : T8) (Ke0 : T4) (Kr : T0) := QX (D8 Kn) (D0 Kr) (exX 0 (D4 Ke0) noX)
abbrev n10 (Kn Ke0 : T4) (Kr : T0) (h : H) : Prop :=
  Spl (x10 = (2 : Int)) (n11 x3 x5 true Kn Ke0 Kr h) (n11 x3 x5 false Kn Ke0 Kr h)
abbrev n8 (Kn Ke0 : T4) (Kr : T0) (h : H) : Prop :=
  cond x11 (n9 x5 Kn Ke0 Kr h) (n10 x3 x5 x10 Kn Ke0 Kr h)
abbrev Q8 (Kn : T6) (Ke0 : T4) (Kr : T0) := QX (D6 Kn) (D0 Kr) (exX 0 (D4 Ke0) noX)
abbrev n7 (Kn Ke0 : T4) (Kr : T0) (h : H) : Prop :=
  Spl (x10 = (1 : Int)) (n8 x3 x5 x10 true Kn Ke0 Kr h) (n8 x3 x5 x10 false Kn Ke0 Kr h)
abbrev n6 (Kn : T4) (Kr : T0) (h : H) : Prop :=
  n7 x3 x5 x10 Kn Kn Kr h
abbrev Q9 (Kn : T5) (Kr : T0) := QX (D5 Kn) (D0 Kr) noX
abbrev n5 (Kn : T4) (Kr : T0) (h : H) : Prop :=
  n6 x3 x5 x0 Kn Kr h
abbrev n3 (Kn Kr : T0) (h : H) : Prop :=
  n5 x0 x3 x5 (fun  h => n4 Kn Kr h) Kr h
abbrev Q10 (Kn : T3) (Kr : T0) := QX (D3 Kn) (D0 Kr) noX
abbrev n2 (Kn Kr : T0) (h : H) : Prop :=
  ∃ s50, cell h (x3.add 1) = some (S s50) ∧ (n3 x0 x3 s50 Kn Kr h)
abbrev Q11 (Kn : T2) (Kr : T0) := QX (D2 Kn) (D0 Kr) noX
abbrev n1 (Kn Kr : T0) (h : H) : Prop :=
  newx h ⟨[(.int .u8 x1_0), (S x1_1), (.slice x1_2b x1_2n x1_2c), (.bool x1_3), (S x1_4)]⟩ 31 fun a51 h52 => n2 x0 a51 Kn Kr h52
variable {g} {h : H} {p : Prop}
variable {x0 x1_0 x1_1 x1_2b x1_2n x1_2c x1_3 x1_4 x3 x4 x5 x6 x10 x11 x23}
theorem D10_mk {K : T10} (hg : E10 g x3 x5 x6) (hk : K x3 x5 x6 h) : D10 K g h := by
  obtain ⟨e3, e5, e6, d⟩ := hg
  unfold D10
  rw [e3, e5, e6, d]
  exact hk
theorem D0_el {K : T0} (hq : D0 K g h) (f : ∀ {x4}, E0 g x4 → K x4 h → p) : p := nilDs_el hq fun d q => vInt_el q fun _ e4 q => f ⟨e4, d⟩ q
theorem D1_el {K : T1} (hq : D1 K g h) (f : ∀ {x0 x1_0 x1_1 x1_2b x1_2n x1_2c x1_3 x1_4}, E1 g x0 x1_0 x1_1 x1_2b x1_2n x1_2c x1_3 x1_4 → K x0 x1_0 x1_1 x1_2b x1_2n x1_2c x1_3 x1_4 h → p) : p := by
  obtain ⟨d, q0⟩ := nilDs_ok hq
  obtain ⟨_, e0, q1⟩ := vInt_ok q0
  obtain ⟨l, e1, q2⟩ := vAgg_ok q1
  obtain ⟨_, l, rfl, q3⟩ := uncI q2
  obtain ⟨_, l, rfl, q4⟩ := uncS q3
  obtain ⟨_, _, _, l, rfl, q5⟩ := uncL q4
  obtain ⟨_, l, rfl, q6⟩ := uncB q5
  obtain ⟨_, l, rfl, q7⟩ := uncS q6
  obtain ⟨rfl, q8⟩ := unnil_ok q7
  exact f ⟨e0, e1, d⟩ q8
theorem D2_el {K : T2} (hq : D2 K g h) (f : ∀ {x0 x3}, E2 g x0 x3 → K x0 x3 h → p) : p := nilDs_el hq fun d q => vInt_el q fun _ e0 q => vAddr_el q fun _ e3 q => f ⟨e0, e3, d⟩ q
theorem D3_el {K : T3} (hq : D3 K g h) (f : ∀ {x0 x3 x5}, E3 g x0 x3 x5 → K x0 x3 x5 h → p) : p := nilDs_el hq fun d q => vInt_el q fun _ e0 q => vAddr_el q fun _ e3 q => vStr_el q fun _ e5 q => f ⟨e0, e3, e5, d⟩ q
theorem D4_el {K : T4} (hq : D4 K g h) (f : E4 g → K  h → p) : p := nilDs_el hq fun d q => f d q
theorem n4_ok {Kn Kr : T0} (hg : E4 g) (hS : n4 Kn Kr h) : W c6 (Q0 Kn Kr) g h :=
  leafN (by kernel_rfl) (by kernel_rfl) hg hS (by kernel_rfl)
theorem D5_el {K : T5} (hq : D5 K g h) (f : ∀ {x3 x5 x10}, E5 g x3 x5 x10 → K x3 x5 x10 h → p) : p := nilDs_el hq fun d q => vAddr_el q fun _ e3 q => vStr_el q fun _ e5 q => vInt_el q fun _ e10 q => f ⟨e3, e5, e10, d⟩ q
theorem D6_el {K : T6} (hq : D6 K g h) (f : ∀ {x3 x5 x10 x11}, E6 g x3 x5 x10 x11 → K x3 x5 x10 x11 h → p) : p := nilDs_el hq fun d q => vAddr_el q fun _ e3 q => vStr_el q fun _ e5 q => vInt_el q fun _ e10 q => vBool_el q fun _ e11 q => f ⟨e3, e5, e10, e11, d⟩ q
theorem D7_el {K : T7} (hq : D7 K g h) (f : ∀ {x5}, E7 g x5 → K x5 h → p) : p := nilDs_el hq fun d q => vStr_el q fun _ e5 q => f ⟨e5, d⟩ q
theorem n9_ok {Kn Ke0 : T4} {Kr : T0} (hg : E7 g x5) (hS : n9 x5 Kn Ke0 Kr h) : W c12 (Q2 Kn Ke0 Kr) g h :=
  leafN (by kernel_rfl) (by kernel_rfl) hg hS (by kernel_rfl)
theorem D8_el {K : T8} (hq : D8 K g h) (f : ∀ {x3 x5 x23}, E8 g x3 x5 x23 → K x3 x5 x23 h → p) : p := nilDs_el hq fun d q => vAddr_el q fun _ e3 q => vStr_el q fun _ e5 q => vBool_el q fun _ e23 q => f ⟨e3, e5, e23, d⟩ q
theorem D9_el {K : T9} (hq : D9 K g h) (f : ∀ {x3 x5}, E9 g x3 x5 → K x3 x5 h → p) : p := nilDs_el hq fun d q => vAddr_el q fun _ e3 q => vStr_el q fun _ e5 q => f ⟨e3, e5, d⟩ q
theorem D10_el {K : T10} (hq : D10 K g h) (f : ∀ {x3 x5 x6}, E10 g x3 x5 x6 → K x3 x5 x6 h → p) : p := nilDs_el hq fun d q => vAddr_el q fun _ e3 q => vStr_el q fun _ e5 q => vInt_el q fun _ e6 q => f ⟨e3, e5, e6, d⟩ q
theorem n15_ok {Kn Ke1 Ke0 : T4} {Kr : T0} (hg : E10 g x3 x5 x6) (hS : n15 x3 x5 x6 Kn Ke1 Ke0 Kr h) : W c22 (Q3 Kn Ke1 Ke0 Kr) g h :=
  let ⟨N, hS⟩ := hS
  loopN (x := c23) (I := fun N => D10 (n15_L Kn Ke1 Ke0 Kr N)) (by kernel_rfl) (fun hq => D10_el hq fun _ hq => hq) (fun hq => D10_el hq fun hg hq => leafN (by kernel_rfl) (by kernel_rfl) hg hq (by kernel_rfl)) N (D10_mk hg hS)
theorem n14_ok {Kn Ke0 : T4} {Kr : T0} (hg : E10 g x3 x5 x6) (hS : n14 x3 x5 x6 Kn Ke0 Kr h) : W c21 (Q2 Kn Ke0 Kr) g h := blockN (by kernel_rfl) (n15_ok hg hS)
theorem n13_ok {Kn Ke0 : T4} {Kr : T0} (hg : E9 g x3 x5) (hS : n13 x3 x5 Kn Ke0 Kr h) : W c19 (Q2 Kn Ke0 Kr) g h :=
  seqN (x := c20) (N' := D10 (fun z3 z5 z6 h => n14 z3 z5 z6 Kn Ke0 Kr h)) (by kernel_rfl) (leafN (by kernel_rfl) (by kernel_rfl) hg hS (by kernel_rfl)) fun hq => D10_el hq n14_ok
theorem n12_ok {Kn Ke0 : T4} {Kr : T0} (hg : E9 g x3 x5) (hS : n12 x3 x5 Kn Ke0 Kr h) : W c16 (Q2 Kn Ke0 Kr) g h :=
  seqN (x := c18) (N' := D9 (fun z3 z5 h => n13 z3 z5 Kn Ke0 Kr h)) (by kernel_rfl) (leafN (by kernel_rfl) (by kernel_rfl) hg hS (by kernel_rfl)) fun hq => D9_el hq n13_ok
theorem n16_ok {Kn Ke0 : T4} {Kr : T0} (hg : E4 g) (hS : n16 Kn Ke0 Kr h) : W c17 (Q2 Kn Ke0 Kr) g h :=
  leafN (by kernel_rfl) (by kernel_rfl) hg hS (by kernel_rfl)
theorem n11_ok {Kn Ke0 : T4} {Kr : T0} (hg : E8 g x3 x5 x23) (hS : n11 x3 x5 x23 Kn Ke0 Kr h) : W c15 (Q2 Kn Ke0 Kr) g h :=
  let ⟨hg3, hg5, hg23, d⟩ := hg
  condN (by kernel_rfl) rfl hg23 hS (fun hS e => n12_ok ⟨hg3, hg5, d⟩ hS) (fun hS e => n16_ok d hS)
theorem n10_ok {Kn Ke0 : T4} {Kr : T0} (hg : E5 g x3 x5 x10) (hS : n10 x3 x5 x10 Kn Ke0 Kr h) : W c13 (Q2 Kn Ke0 Kr) g h :=
  seqN (x := c14) (N' := D8 (fun z3 z5 z23 h => n11 z3 z5 z23 Kn Ke0 Kr h)) (by kernel_rfl) (leafN (by kernel_rfl) (by kernel_rfl) hg hS (by kernel_rfl)) fun hq => D8_el hq n11_ok
theorem n8_ok {Kn Ke0 : T4} {Kr : T0} (hg : E6 g x3 x5 x10 x11) (hS : n8 x3 x5 x10 x11 Kn Ke0 Kr h) : W c11 (Q2 Kn Ke0 Kr) g h :=
  let ⟨hg3, hg5, hg10, hg11, d⟩ := hg
  condN (by kernel_rfl) rfl hg11 hS (fun hS e => n9_ok ⟨hg5, d⟩ hS) (fun hS e => n10_ok ⟨hg3, hg5, hg10, d⟩ hS)
theorem n7_ok {Kn Ke0 : T4} {Kr : T0} (hg : E5 g x3 x5 x10) (hS : n7 x3 x5 x10 Kn Ke0 Kr h) : W c9 (Q2 Kn Ke0 Kr) g h :=
  seqN (x := c10) (N' := D6 (fun z3 z5 z10 z11 h => n8 z3 z5 z10 z11 Kn Ke0 Kr h)) (by kernel_rfl) (leafN (by kernel_rfl) (by kernel_rfl) hg hS (by kernel_rfl)) fun hq => D6_el hq n8_ok
theorem n6_ok {Kn : T4} {Kr : T0} (hg : E5 g x3 x5 x10) (hS : n6 x3 x5 x10 Kn Kr h) : W c8 (Q1 Kn Kr) g h := blockN (by kernel_rfl) (n7_ok hg hS)
theorem n5_ok {Kn : T4} {Kr : T0} (hg : E3 g x0 x3 x5) (hS : n5 x0 x3 x5 Kn Kr h) : W c5 (Q1 Kn Kr) g h :=
  seqN (x := c7) (N' := D5 (fun z3 z5 z10 h => n6 z3 z5 z10 Kn Kr h)) (by kernel_rfl) (leafN (by kernel_rfl) (by kernel_rfl) hg hS (by kernel_rfl)) fun hq => D5_el hq n6_ok
theorem n3_ok {Kn Kr : T0} (hg : E3 g x0 x3 x5) (hS : n3 x0 x3 x5 Kn Kr h) : W c4 (Q0 Kn Kr) g h :=
  seqN (by kernel_rfl) (n5_ok hg hS) fun hq => D4_el hq n4_ok
theorem n2_ok {Kn Kr : T0} (hg : E2 g x0 x3) (hS : n2 x0 x3 Kn Kr h) : W c2 (Q0 Kn Kr) g h :=
  seqN (x := c3) (N' := D3 (fun z0 z3 z5 h => n3 z0 z3 z5 Kn Kr h)) (by kernel_rfl) (leafN (by kernel_rfl) (by kernel_rfl) hg hS (by kernel_rfl)) fun hq => D3_el hq n3_ok
theorem n1_ok {Kn Kr : T0} (hg : E1 g x0 x1_0 x1_1 x1_2b x1_2n x1_2c x1_3 x1_4) (hS : n1 x0 x1_0 x1_1 x1_2b x1_2n x1_2c x1_3 x1_4 Kn Kr h) : W code (Q0 Kn Kr) g h :=
  seqN (x := c1) (N' := D2 (fun z0 z3 h => n2 z0 z3 Kn Kr h)) (by kernel_rfl) (leafN (by kernel_rfl) (by kernel_rfl) hg hS (by kernel_rfl)) fun hq => D2_el hq n2_ok
/-- WHAT tympan/tympanref13.point ASKS -/
abbrev asks (x0 : Int) (x1_0 : Int) (x1_1 : List UInt8) (x1_2b : Option Addr) (x1_2n : Nat) (x1_2c : Nat) (x1_3 : Bool) (x1_4 : List UInt8) (K : Value → H → Prop) (h : H) : Prop := n1 x0 x1_0 x1_1 x1_2b x1_2n x1_2c x1_3 x1_4 (fun y4 h => K (.int .u8 y4) h) (fun y4 h => K (.int .u8 y4) h) h
theorem ok (x0 : Int) (x1_0 : Int) (x1_1 : List UInt8) (x1_2b : Option Addr) (x1_2n : Nat) (x1_2c : Nat) (x1_3 : Bool) (x1_4 : List UInt8) (K : Value → H → Prop) (h : H) (hS : asks x0 x1_0 x1_1 x1_2b x1_2n x1_2c x1_3 x1_4 K h) : HCalls Tryz.prog 35 ⟨[(.int .u8 x0), (.agg ⟨[(.int .u8 x1_0), (S x1_1), (.slice x1_2b x1_2n x1_2c), (.bool x1_3), (S x1_4)]⟩)]⟩ h K :=
  callsN (c := code) Tryz.func35 (by kernel_rfl) (by kernel_rfl) (n1_ok ⟨rfl, rfl, rfl⟩ hS) fun hq => D0_el hq fun hg hq => retN hg hq (by kernel_rfl)
end Sx.r13_point

/-! ### tympan/tympanref11.Until -/
namespace Sx.r11_Until
noncomputable def code : Code := bodyOf Tryz.f63
abbrev W := wpC none Tryz.prog 20
variable (g : Env) (x0b : Option Addr) (x0n x0c : Nat) (x1b : Option Addr) (x1n x1c : Nat) (x4 x5 : Int)
abbrev T0 := Int → H → Prop
abbrev E0 := Held g [(4, .int .i64 x4)]
def D0 (K : T0) (g : Env) (h : H) : Prop := nilDs g.ds (vInt .i64 (g.v 4) fun i1 => K i1 h)
abbrev Q0 (Kn Kr : T0) := QX (D0 Kn) (D0 Kr) noX
abbrev T1 := (Option Addr) → Nat → Nat → (Option Addr) → Nat → Nat → H → Prop
abbrev E1 := Held g [(0, .slice x0b x0n x0c), (1, .slice x1b x1n x1c)]
def D1 (K : T1) (g : Env) (h : H) : Prop := nilDs g.ds (vSlice (g.v 0) fun s2b s2n s2c => vSlice (g.v 1) fun s3b s3n s3c => K s2b s2n s2c s3b s3n s3c h)
noncomputable def c1 := cFst code
noncomputable def c2 := cSnd code
noncomputable def c3 := cFst c2
noncomputable def c4 := cSnd c2
abbrev T2 := H → Prop
abbrev E2 := Held g []
def D2 (K : T2) (g : Env) (h : H) : Prop := nilDs g.ds (K h)
abbrev n3 (Kn Kr : T0) (h : H) : Prop :=
  Kr (-1 : Int) h
abbrev Q1 (Kn : T2) (Kr : T0) := QX (D2 Kn) (D0 Kr) noX
noncomputable def c5 := cFst c3
noncomputable def c6 := cSnd c3
abbrev T3 := (Option Addr) → Nat → Nat → (Option Addr) → Nat → Nat → Int → H → Prop
abbrev E3 := Held g [(0, .slice x0b x0n x0c), (1, .slice x1b x1n x1c), (5, .int .i64 x5)]
def D3 (K : T3) (g : Env) (h : H) : Prop := nilDs g.ds (vSlice (g.v 0) fun s4b s4n s4c => vSlice (g.v 1) fun s5b s5n s5c => vInt .i64 (g.v 5) fun i6 => K s4b s4n s4c s5b s5n s5c i6 h)
noncomputable def c7 := cFst c6
abbrev Q2 (Kn Ke0 : T2) (Kr : T0) := QX (D2 Kn) (D0 Kr) (exX 0 (D2 Ke0) noX)
noncomputable def c8 := cFst c7
abbrev Q3 (Kn : T3) (Ke0 : T2) (Kr : T0) := QX (D3 Kn) (D0 Kr) (exX 0 (D2 Ke0) noX)
def n6_L (Kn Ke0 : T2) (Kr : T0) : Nat → T3
  | 0 => fun _ _ _ _ _ _ _ _ => False
  | N + 1 => fun x0b x0n x0c x1b x1n x1c x5 h => Spl (x5 ≥ (0 : Int)) ((0 ≤ x5 ∧ x5 < (x0n : Int)) ∧ (vSome x0b fun a7 => ∃ i8, cell h (((a7.add (Int.toNat x5 * 4))).add 0) = some (.int .i64 i8) ∧ (∃ i9, cell h (((a7.add (Int.toNat x5 * 4))).add 1) = some (.int .u8 i9) ∧ (∃ s10, cell h (((a7.add (Int.toNat x5 * 4))).add 2) = some (S s10) ∧ (∃ i11, cell h (((a7.add (Int.toNat x5 * 4))).add 3) = some (.int .u8 i11) ∧ (HCalls Tryz.prog 85 ⟨[(.agg ⟨[(.int .i64 i8), (.int .u8 i9), (S s10), (.int .u8 i11)]⟩), (.slice x1b x1n x1c)]⟩ h fun v12 h13 => vBool v12 fun b14 => cond b14 (Kr x5 h13) (Rng .i64 (x5 - (1 : Int)) ∧ (n6_L Kn Ke0 Kr N x0b x0n x0c x1b x1n x1c (x5 - (1 : Int)) h13)))))))) (Ke0 h)
abbrev n6 (Kn Ke0 : T2) (Kr : T0) (h : H) : Prop :=
  ∃ N, n6_L Kn Ke0 Kr N x0b x0n x0c x1b x1n x1c x5 h
abbrev n5 (Kn : T2) (Kr : T0) (h : H) : Prop :=
  n6 x0b x0n x0c x1b x1n x1c x5 Kn Kn Kr h
abbrev Q4 (Kn : T3) (Kr : T0) := QX (D3 Kn) (D0 Kr) noX
abbrev n4 (Kn : T2) (Kr : T0) (h : H) : Prop :=
  Rng .i64 ((x0n : Int) - (1 : Int)) ∧ (n5 x0b x0n x0c x1b x1n x1c ((x0n : Int) - (1 : Int)) Kn Kr h)
abbrev n2 (Kn Kr : T0) (h : H) : Prop :=
  n4 x0b x0n x0c x1b x1n x1c (fun  h => n3 Kn Kr h) Kr h
abbrev Q5 (Kn : T1) (Kr : T0) := QX (D1 Kn) (D0 Kr) noX
abbrev n1 (Kn Kr : T0) (h : H) : Prop :=
  n2 x0b x0n x0c x1b x1n x1c Kn Kr h
variable {g} {h : H} {p : Prop}
variable {x0b x0n x0c x1b x1n x1c x4 x5}
theorem D3_mk {K : T3} (hg : E3 g x0b x0n x0c x1b x1n x1c x5) (hk : K x0b x0n x0c x1b x1n x1c x5 h) : D3 K g h := by
  obtain ⟨e0, e1, e5, d⟩ := hg
  unfold D3
  rw [e0, e1, e5, d]
  exact hk
theorem D0_el {K : T0} (hq : D0 K g h) (f : ∀ {x4}, E0 g x4 → K x4 h → p) : p := nilDs_el hq fun d q => vInt_el q fun _ e4 q => f ⟨e4, d⟩ q
theorem D1_el {K : T1} (hq : D1 K g h) (f : ∀ {x0b x0n x0c x1b x1n x1c}, E1 g x0b x0n x0c x1b x1n x1c → K x0b x0n x0c x1b x1n x1c h → p) : p := nilDs_el hq fun d q => vSlice_el q fun _ _ _ e0 q => vSlice_el q fun _ _ _ e1 q => f ⟨e0, e1, d⟩ q
theorem D2_el {K : T2} (hq : D2 K g h) (f : E2 g → K  h → p) : p := nilDs_el hq fun d q => f d q
theorem n3_ok {Kn Kr : T0} (hg : E2 g) (hS : n3 Kn Kr h) : W c4 (Q0 Kn Kr) g h :=
  leafN (by kernel_rfl) (by kernel_rfl) hg hS (by kernel_rfl)
theorem D3_el {K : T3} (hq : D3 K g h) (f : ∀ {x0b x0n x0c x1b x1n x1c x5}, E3 g x0b x0n x0c x1b x1n x1c x5 → K x0b x0n x0c x1b x1n x1c x5 h → p) : p := nilDs_el hq fun d q => vSlice_el q fun _ _ _ e0 q => vSlice_el q fun _ _ _ e1 q => vInt_el q fun _ e5 q => f ⟨e0, e1, e5, d⟩ q
theorem n6_ok {Kn Ke0 : T2} {Kr : T0} (hg : E3 g x0b x0n x0c x1b x1n x1c x5) (hS : n6 x0b x0n x0c x1b x1n x1c x5 Kn Ke0 Kr h) : W c7 (Q2 Kn Ke0 Kr) g h :=
  let ⟨N, hS⟩ := hS
  loopN (x := c8) (I := fun N => D3 (n6_L Kn Ke0 Kr N)) (by kernel_rfl) (fun hq => D3_el hq fun _ hq => hq) (fun hq => D3_el hq fun hg hq => leafN (by kernel_rfl) (by kernel_rfl) hg hq (by kernel_rfl)) N (D3_mk hg hS)
theorem n5_ok {Kn : T2} {Kr : T0} (hg : E3 g x0b x0n x0c x1b x1n x1c x5) (hS : n5 x0b x0n x0c x1b x1n x1c x5 Kn Kr h) : W c6 (Q1 Kn Kr) g h := blockN (by kernel_rfl) (n6_ok hg hS)
theorem n4_ok {Kn : T2} {Kr : T0} (hg : E1 g x0b x0n x0c x1b x1n x1c) (hS : n4 x0b x0n x0c x1b x1n x1c Kn Kr h) : W c3 (Q1 Kn Kr) g h :=
  seqN (x := c5) (N' := D3 (fun z0b z0n z0c z1b z1n z1c z5 h => n5 z0b z0n z0c z1b z1n z1c z5 Kn Kr h)) (by kernel_rfl) (leafN (by kernel_rfl) (by kernel_rfl) hg hS (by kernel_rfl)) fun hq => D3_el hq n5_ok
theorem n2_ok {Kn Kr : T0} (hg : E1 g x0b x0n x0c x1b x1n x1c) (hS : n2 x0b x0n x0c x1b x1n x1c Kn Kr h) : W c2 (Q0 Kn Kr) g h :=
  seqN (by kernel_rfl) (n4_ok hg hS) fun hq => D2_el hq n3_ok
theorem n1_ok {Kn Kr : T0} (hg : E1 g x0b x0n x0c x1b x1n x1c) (hS : n1 x0b x0n x0c x1b x1n x1c Kn Kr h) : W code (Q0 Kn Kr) g h :=
  seqN (x := c1) (N' := D1 (fun z0b z0n z0c z1b z1n z1c h => n2 z0b z0n z0c z1b z1n z1c Kn Kr h)) (by kernel_rfl) (leafN (by kernel_rfl) (by kernel_rfl) hg hS (by kernel_rfl)) fun hq => D1_el hq n2_ok
/-- WHAT tympan/tympanref11.Until ASKS -/
abbrev asks (x0b : Option Addr) (x0n : Nat) (x0c : Nat) (x1b : Option Addr) (x1n : Nat) (x1c : Nat) (K : Value → H → Prop) (h : H) : Prop := n1 x0b x0n x0c x1b x1n x1c (fun y4 h => K (.int .i64 y4) h) (fun y4 h => K (.int .i64 y4) h) h
theorem ok (x0b : Option Addr) (x0n : Nat) (x0c : Nat) (x1b : Option Addr) (x1n : Nat) (x1c : Nat) (K : Value → H → Prop) (h : H) (hS : asks x0b x0n x0c x1b x1n x1c K h) : HCalls Tryz.prog 63 ⟨[(.slice x0b x0n x0c), (.slice x1b x1n x1c)]⟩ h K :=
  callsN (c := code) Tryz.func63 (by kernel_rfl) (by kernel_rfl) (n1_ok ⟨rfl, rfl, rfl⟩ hS) fun hq => D0_el hq fun hg hq => retN hg hq (by kernel_rfl)
end Sx.r11_Until

/-! ### tympan/tympanref11.one -/
namespace Sx.r11_one
noncomputable def code : Code := bodyOf Tryz.f85
abbrev W := wpC none Tryz.prog 14
variable (g : Env) (x0_0 x0_1 : Int) (x0_2 : List UInt8) (x0_3 : Int) (x1b : Option Addr) (x1n x1c : Nat) (x4 : Bool)
abbrev T0 := Bool → H → Prop
abbrev E0 := Held g [(4, .bool x4)]
def D0 (K : T0) (g : Env) (h : H) : Prop := nilDs g.ds (vBool (g.v 4) fun b1 => K b1 h)
abbrev Q0 (Kn Kr : T0) := QX (D0 Kn) (D0 Kr) noX
abbrev T1 := Int → Int → (List UInt8) → Int → (Option Addr) → Nat → Nat → H → Prop
abbrev E1 := Held g [(0, .agg ⟨[(.int .i64 x0_0), (.int .u8 x0_1), (S x0_2), (.int .u8 x0_3)]⟩), (1, .slice x1b x1n x1c)]
def D1 (K : T1) (g : Env) (h : H) : Prop := nilDs g.ds (vAgg (g.v 0) fun l2 => uncons l2 fun e3 l4 => vInt .i64 e3 fun i5 => uncons l4 fun e6 l7 => vInt .u8 e6 fun i8 => uncons l7 fun e9 l10 => vStr e9 fun s11 => uncons l10 fun e12 l13 => vInt .u8 e12 fun i14 => unnil l13 (vSlice (g.v 1) fun s15b s15n s15c => K i5 i8 s11 i14 s15b s15n s15c h))
abbrev n1 (Kn Kr : T0) (h : H) : Prop :=
  newx h ⟨[(.int .i64 x0_0), (.int .u8 x0_1), (S x0_2), (.int .u8 x0_3)]⟩ 36 fun a16 h17 => ∃ i18, cell h17 (a16.add 1) = some (.int .u8 i18) ∧ (Spl (i18 = (0 : Int)) (∃ s19, cell h17 (a16.add 2) = some (S s19) ∧ (HCalls Tryz.prog 92 ⟨[(.slice x1b x1n x1c), (S s19)]⟩ h17 fun v20 h21 => vBool v20 fun b22 => cond b22 (Kr true h21) (Kr false h21))) (Kr false h17))
variable {g} {h : H} {p : Prop}
variable {x0_0 x0_1 x0_2 x0_3 x1b x1n x1c x4}
theorem D0_el {K : T0} (hq : D0 K g h) (f : ∀ {x4}, E0 g x4 → K x4 h → p) : p := nilDs_el hq fun d q => vBool_el q fun _ e4 q => f ⟨e4, d⟩ q
theorem D1_el {K : T1} (hq : D1 K g h) (f : ∀ {x0_0 x0_1 x0_2 x0_3 x1b x1n x1c}, E1 g x0_0 x0_1 x0_2 x0_3 x1b x1n x1c → K x0_0 x0_1 x0_2 x0_3 x1b x1n x1c h → p) : p := by
  obtain ⟨d, q0⟩ := nilDs_ok hq
  obtain ⟨l, e0, q1⟩ := vAgg_ok q0
  obtain ⟨_, l, rfl, q2⟩ := uncI q1
  obtain ⟨_, l, rfl, q3⟩ := uncI q2
  obtain ⟨_, l, rfl, q4⟩ := uncS q3
  obtain ⟨_, l, rfl, q5⟩ := uncI q4
  obtain ⟨rfl, q6⟩ := unnil_ok q5
  obtain ⟨_, _, _, e1, q7⟩ := vSlice_ok q6
  exact f ⟨e0, e1, d⟩ q7
theorem n1_ok {Kn Kr : T0} (hg : E1 g x0_0 x0_1 x0_2 x0_3 x1b x1n x1c) (hS : n1 x0_0 x0_1 x0_2 x0_3 x1b x1n x1c Kn Kr h) : W code (Q0 Kn Kr) g h :=
  leafN (by kernel_rfl) (by kernel_rfl) hg hS (by kernel_rfl)
/-- WHAT tympan/tympanref11.one ASKS -/
abbrev asks (x0_0 : Int) (x0_1 : Int) (x0_2 : List UInt8) (x0_3 : Int) (x1b : Option Addr) (x1n : Nat) (x1c : Nat) (K : Value → H → Prop) (h : H) : Prop := n1 x0_0 x0_1 x0_2 x0_3 x1b x1n x1c (fun y4 h => K (.bool y4) h) (fun y4 h => K (.bool y4) h) h
theorem ok (x0_0 : Int) (x0_1 : Int) (x0_2 : List UInt8) (x0_3 : Int) (x1b : Option Addr) (x1n : Nat) (x1c : Nat) (K : Value → H → Prop) (h : H) (hS : asks x0_0 x0_1 x0_2 x0_3 x1b x1n x1c K h) : HCalls Tryz.prog 85 ⟨[(.agg ⟨[(.int .i64 x0_0), (.int .u8 x0_1), (S x0_2), (.int .u8 x0_3)]⟩), (.slice x1b x1n x1c)]⟩ h K :=
  callsN (c := code) Tryz.func85 (by kernel_rfl) (by kernel_rfl) (n1_ok ⟨rfl, rfl, rfl⟩ hS) fun hq => D0_el hq fun hg hq => retN hg hq (by kernel_rfl)
end Sx.r11_one

/-! ### tympan/tympanref11.in -/
namespace Sx.r11_in
noncomputable def code : Code := bodyOf Tryz.f92
abbrev W := wpC none Tryz.prog 18
variable (g : Env) (x0b : Option Addr) (x0n x0c : Nat) (x1 : List UInt8) (x4 : Bool) (x5 : Int)
abbrev T0 := Bool → H → Prop
abbrev E0 := Held g [(4, .bool x4)]
def D0 (K : T0) (g : Env) (h : H) : Prop := nilDs g.ds (vBool (g.v 4) fun b1 => K b1 h)
abbrev Q0 (Kn Kr : T0) := QX (D0 Kn) (D0 Kr) noX
abbrev T1 := (Option Addr) → Nat → Nat → (List UInt8) → H → Prop
abbrev E1 := Held g [(0, .slice x0b x0n x0c), (1, S x1)]
def D1 (K : T1) (g : Env) (h : H) : Prop := nilDs g.ds (vSlice (g.v 0) fun s2b s2n s2c => vStr (g.v 1) fun s3 => K s2b s2n s2c s3 h)
noncomputable def c1 := cFst code
noncomputable def c2 := cSnd code
noncomputable def c3 := cFst c2
noncomputable def c4 := cSnd c2
abbrev T2 := H → Prop
abbrev E2 := Held g []
def D2 (K : T2) (g : Env) (h : H) : Prop := nilDs g.ds (K h)
abbrev n3 (Kn Kr : T0) (h : H) : Prop :=
  Kr false h
abbrev Q1 (Kn : T2) (Kr : T0) := QX (D2 Kn) (D0 Kr) noX
noncomputable def c5 := cFst c3
noncomputable def c6 := cSnd c3
abbrev T3 := (Option Addr) → Nat → Nat → (List UInt8) → Int → H → Prop
abbrev E3 := Held g [(0, .slice x0b x0n x0c), (1, S x1), (5, .int .i64 x5)]
def D3 (K : T3) (g : Env) (h : H) : Prop := nilDs g.ds (vSlice (g.v 0) fun s4b s4n s4c => vStr (g.v 1) fun s5 => vInt .i64 (g.v 5) fun i6 => K s4b s4n s4c s5 i6 h)
noncomputable def c7 := cFst c6
abbrev Q2 (Kn Ke0 : T2) (Kr : T0) := QX (D2 Kn) (D0 Kr) (exX 0 (D2 Ke0) noX)
noncomputable def c8 := cFst c7
abbrev Q3 (Kn : T3) (Ke0 : T2) (Kr : T0) := QX (D3 Kn) (D0 Kr) (exX 0 (D2 Ke0) noX)
def n6_L (Kn Ke0 : T2) (Kr : T0) : Nat → T3
  | 0 => fun _ _ _ _ _ _ => False
  | N + 1 => fun x0b x0n x0c x1 x5 h => Spl (x5 < (x0n : Int)) ((0 ≤ x5 ∧ x5 < (x0n : Int)) ∧ (vSome x0b fun a7 => ∃ s8, cell h (a7.add (Int.toNat x5 * 1)) = some (S s8) ∧ (Spl (s8 = x1) (Kr true h) (Rng .i64 (x5 + (1 : Int)) ∧ (n6_L Kn Ke0 Kr N x0b x0n x0c x1 (x5 + (1 : Int)) h))))) (Ke0 h)
abbrev n6 (Kn Ke0 : T2) (Kr : T0) (h : H) : Prop :=
  ∃ N, n6_L Kn Ke0 Kr N x0b x0n x0c x1 x5 h
abbrev n5 (Kn : T2) (Kr : T0) (h : H) : Prop :=
  n6 x0b x0n x0c x1 x5 Kn Kn Kr h
abbrev Q4 (Kn : T3) (Kr : T0) := QX (D3 Kn) (D0 Kr) noX
abbrev n4 (Kn : T2) (Kr : T0) (h : H) : Prop :=
  n5 x0b x0n x0c x1 (0 : Int) Kn Kr h
abbrev n2 (Kn Kr : T0) (h : H) : Prop :=
  n4 x0b x0n x0c x1 (fun  h => n3 Kn Kr h) Kr h
abbrev Q5 (Kn : T1) (Kr : T0) := QX (D1 Kn) (D0 Kr) noX
abbrev n1 (Kn Kr : T0) (h : H) : Prop :=
  n2 x0b x0n x0c x1 Kn Kr h
variable {g} {h : H} {p : Prop}
variable {x0b x0n x0c x1 x4 x5}
theorem D3_mk {K : T3} (hg : E3 g x0b x0n x0c x1 x5) (hk : K x0b x0n x0c x1 x5 h) : D3 K g h := by
  obtain ⟨e0, e1, e5, d⟩ := hg
  unfold D3
  rw [e0, e1, e5, d]
  exact hk
theorem D0_el {K : T0} (hq : D0 K g h) (f : ∀ {x4}, E0 g x4 → K x4 h → p) : p := nilDs_el hq fun d q => vBool_el q fun _ e4 q => f ⟨e4, d⟩ q
theorem D1_el {K : T1} (hq : D1 K g h) (f : ∀ {x0b x0n x0c x1}, E1 g x0b x0n x0c x1 → K x0b x0n x0c x1 h → p) : p := nilDs_el hq fun d q => vSlice_el q fun _ _ _ e0 q => vStr_el q fun _ e1 q => f ⟨e0, e1, d⟩ q
theorem D2_el {K : T2} (hq : D2 K g h) (f : E2 g → K  h → p) : p := nilDs_el hq fun d q => f d q
theorem n3_ok {Kn Kr : T0} (hg : E2 g) (hS : n3 Kn Kr h) : W c4 (Q0 Kn Kr) g h :=
  leafN (by kernel_rfl) (by kernel_rfl) hg hS (by kernel_rfl)
theorem D3_el {K : T3} (hq : D3 K g h) (f : ∀ {x0b x0n x0c x1 x5}, E3 g x0b x0n x0c x1 x5 → K x0b x0n x0c x1 x5 h → p) : p := nilDs_el hq fun d q => vSlice_el q fun _ _ _ e0 q => vStr_el q fun _ e1 q => vInt_el q fun _ e5 q => f ⟨e0, e1, e5, d⟩ q
theorem n6_ok {Kn Ke0 : T2} {Kr : T0} (hg : E3 g x0b x0n x0c x1 x5) (hS : n6 x0b x0n x0c x1 x5 Kn Ke0 Kr h) : W c7 (Q2 Kn Ke0 Kr) g h :=
  let ⟨N, hS⟩ := hS
  loopN (x := c8) (I := fun N => D3 (n6_L Kn Ke0 Kr N)) (by kernel_rfl) (fun hq => D3_el hq fun _ hq => hq) (fun hq => D3_el hq fun hg hq => leafN (by kernel_rfl) (by kernel_rfl) hg hq (by kernel_rfl)) N (D3_mk hg hS)
theorem n5_ok {Kn : T2} {Kr : T0} (hg : E3 g x0b x0n x0c x1 x5) (hS : n5 x0b x0n x0c x1 x5 Kn Kr h) : W c6 (Q1 Kn Kr) g h := blockN (by kernel_rfl) (n6_ok hg hS)
theorem n4_ok {Kn : T2} {Kr : T0} (hg : E1 g x0b x0n x0c x1) (hS : n4 x0b x0n x0c x1 Kn Kr h) : W c3 (Q1 Kn Kr) g h :=
  seqN (x := c5) (N' := D3 (fun z0b z0n z0c z1 z5 h => n5 z0b z0n z0c z1 z5 Kn Kr h)) (by kernel_rfl) (leafN (by kernel_rfl) (by kernel_rfl) hg hS (by kernel_rfl)) fun hq => D3_el hq n5_ok
theorem n2_ok {Kn Kr : T0} (hg : E1 g x0b x0n x0c x1) (hS : n2 x0b x0n x0c x1 Kn Kr h) : W c2 (Q0 Kn Kr) g h :=
  seqN (by kernel_rfl) (n4_ok hg hS) fun hq => D2_el hq n3_ok
theorem n1_ok {Kn Kr : T0} (hg : E1 g x0b x0n x0c x1) (hS : n1 x0b x0n x0c x1 Kn Kr h) : W code (Q0 Kn Kr) g h :=
  seqN (x := c1) (N' := D1 (fun z0b z0n z0c z1 h => n2 z0b z0n z0c z1 Kn Kr h)) (by kernel_rfl) (leafN (by kernel_rfl) (by kernel_rfl) hg hS (by kernel_rfl)) fun hq => D1_el hq n2_ok
/-- WHAT tympan/tympanref11.in ASKS -/
abbrev asks (x0b : Option Addr) (x0n : Nat) (x0c : Nat) (x1 : List UInt8) (K : Value → H → Prop) (h : H) : Prop := n1 x0b x0n x0c x1 (fun y4 h => K (.bool y4) h) (fun y4 h => K (.bool y4) h) h
theorem ok (x0b : Option Addr) (x0n : Nat) (x0c : Nat) (x1 : List UInt8) (K : Value → H → Prop) (h : H) (hS : asks x0b x0n x0c x1 K h) : HCalls Tryz.prog 92 ⟨[(.slice x0b x0n x0c), (S x1)]⟩ h K :=
  callsN (c := code) Tryz.func92 (by kernel_rfl) (by kernel_rfl) (n1_ok ⟨rfl, rfl, rfl⟩ hS) fun hq => D0_el hq fun hg hq => retN hg hq (by kernel_rfl)
end Sx.r11_in

/-! ### tympan/tympanref02.Lower -/
namespace Sx.r02_Lower
noncomputable def code : Code := bodyOf Tryz.f71
abbrev W := wpC none Tryz.prog 29
variable (g : Env) (x0 x2 : List UInt8) (x3b : Option Addr) (x3n x3c : Nat) (x4 : Int)
abbrev T0 := (List UInt8) → H → Prop
abbrev E0 := Held g [(2, S x2)]
def D0 (K : T0) (g : Env) (h : H) : Prop := nilDs g.ds (vStr (g.v 2) fun s1 => K s1 h)
abbrev Q0 (Kn Kr : T0) := QX (D0 Kn) (D0 Kr) noX
abbrev T1 := (List UInt8) → H → Prop
abbrev E1 := Held g [(0, S x0)]
def D1 (K : T1) (g : Env) (h : H) : Prop := nilDs g.ds (vStr (g.v 0) fun s2 => K s2 h)
noncomputable def c1 := cFst code
noncomputable def c2 := cSnd code
noncomputable def c3 := cFst c2
noncomputable def c4 := cSnd c2
abbrev T2 := (List UInt8) → (Option Addr) → Nat → Nat → H → Prop
abbrev E2 := Held g [(0, S x0), (3, .slice x3b x3n x3c)]
def D2 (K : T2) (g : Env) (h : H) : Prop := nilDs g.ds (vStr (g.v 0) fun s3 => vSlice (g.v 3) fun s4b s4n s4c => K s3 s4b s4n s4c h)
noncomputable def c5 := cFst c4
noncomputable def c6 := cSnd c4
abbrev T3 := (Option Addr) → Nat → Nat → H → Prop
abbrev E3 := Held g [(3, .slice x3b x3n x3c)]
def D3 (K : T3) (g : Env) (h : H) : Prop := nilDs g.ds (vSlice (g.v 3) fun s5b s5n s5c => K s5b s5n s5c h)
abbrev n4 (Kn Kr : T0) (h : H) : Prop :=
  SemH Tryz.prog (convert 122 9 (.slice x3b x3n x3c)) h fun v6 h7 => vStr v6 fun s8 => Kr s8 h7
abbrev Q1 (Kn : T3) (Kr : T0) := QX (D3 Kn) (D0 Kr) noX
noncomputable def c7 := cFst c5
noncomputable def c8 := cSnd c5
abbrev T4 := (List UInt8) → (Option Addr) → Nat → Nat → Int → H → Prop
abbrev E4 := Held g [(0, S x0), (3, .slice x3b x3n x3c), (4, .int .i64 x4)]
def D4 (K : T4) (g : Env) (h : H) : Prop := nilDs g.ds (vStr (g.v 0) fun s9 => vSlice (g.v 3) fun s10b s10n s10c => vInt .i64 (g.v 4) fun i11 => K s9 s10b s10n s10c i11 h)
noncomputable def c9 := cFst c8
abbrev Q2 (Kn Ke0 : T3) (Kr : T0) := QX (D3 Kn) (D0 Kr) (exX 0 (D3 Ke0) noX)
noncomputable def c10 := cFst c9
abbrev Q3 (Kn : T4) (Ke0 : T3) (Kr : T0) := QX (D4 Kn) (D0 Kr) (exX 0 (D3 Ke0) noX)
noncomputable def c11 := cFst c10
noncomputable def c12 := cSnd c10
noncomputable def c13 := cFst c12
noncomputable def c14 := cSnd c12
abbrev n10 (Kn : T4) (Ke0 : T3) (Kr : T0) (h : H) : Prop :=
  Rng .i64 (x4 + (1 : Int)) ∧ (Kn x0 x3b x3n x3c (x4 + (1 : Int)) h)
abbrev n9 (Kn : T4) (Ke0 : T3) (Kr : T0) (h : H) : Prop :=
  (0 ≤ x4 ∧ x4 < (x0.length : Int)) ∧ (Spl (((List.getD x0 (Int.toNat x4) 0).toNat : Int) ≥ (65 : Int)) (Spl (((List.getD x0 (Int.toNat x4) 0).toNat : Int) ≤ (90 : Int)) (newx h #[(.int .u8 (IntKind.wrap .u8 (((List.getD x0 (Int.toNat x4) 0).toNat : Int) + (32 : Int))))] 5 fun a12 h13 => SemH Tryz.prog (Builtin.append_ #[122, 122] 122 ⟨[(.slice x3b x3n x3c), (.slice (some a12) 1 1)]⟩) h13 fun v14 h15 => vSlice v14 fun s16b s16n s16c => n10 x0 s16b s16n s16c x4 Kn Ke0 Kr h15) (newx h #[(.int .u8 ((List.getD x0 (Int.toNat x4) 0).toNat : Int))] 5 fun a17 h18 => SemH Tryz.prog (Builtin.append_ #[122, 122] 122 ⟨[(.slice x3b x3n x3c), (.slice (some a17) 1 1)]⟩) h18 fun v19 h20 => vSlice v19 fun s21b s21n s21c => n10 x0 s21b s21n s21c x4 Kn Ke0 Kr h20)) (newx h #[(.int .u8 ((List.getD x0 (Int.toNat x4) 0).toNat : Int))] 5 fun a22 h23 => SemH Tryz.prog (Builtin.append_ #[122, 122] 122 ⟨[(.slice x3b x3n x3c), (.slice (some a22) 1 1)]⟩) h23 fun v24 h25 => vSlice v24 fun s26b s26n s26c => n10 x0 s26b s26n s26c x4 Kn Ke0 Kr h25))
abbrev n8 (Kn : T4) (Ke0 : T3) (Kr : T0) (h : H) : Prop :=
  Spl (x4 < (x0.length : Int)) (n9 x0 x3b x3n x3c x4 Kn Ke0 Kr h) (Ke0 x3b x3n x3c h)
def n7_L (Kn Ke0 : T3) (Kr : T0) : Nat → T4
  | 0 => fun _ _ _ _ _ _ => False
  | N + 1 => fun x0 x3b x3n x3c x4 h => n8 x0 x3b x3n x3c x4 (fun z0 z3b z3n z3c z4 h => n7_L Kn Ke0 Kr N z0 z3b z3n z3c z4 h) Ke0 Kr h
abbrev n7 (Kn Ke0 : T3) (Kr : T0) (h : H) : Prop :=
  ∃ N, n7_L Kn Ke0 Kr N x0 x3b x3n x3c x4 h
abbrev n6 (Kn : T3) (Kr : T0) (h : H) : Prop :=
  n7 x0 x3b x3n x3c x4 Kn Kn Kr h
abbrev Q4 (Kn : T4) (Kr : T0) := QX (D4 Kn) (D0 Kr) noX
abbrev n5 (Kn : T3) (Kr : T0) (h : H) : Prop :=
  n6 x0 x3b x3n x3c (0 : Int) Kn Kr h
abbrev n3 (Kn Kr : T0) (h : H) : Prop :=
  n5 x0 x3b x3n x3c (fun z3b z3n z3c h => n4 z3b z3n z3c Kn Kr h) Kr h
abbrev Q5 (Kn : T2) (Kr : T0) := QX (D2 Kn) (D0 Kr) noX
abbrev n2 (Kn Kr : T0) (h : H) : Prop :=
  n3 x0 none 0 0 Kn Kr h
abbrev Q6 (Kn : T1) (Kr : T0) := QX (D1 Kn) (D0 Kr) noX
abbrev n1 (Kn Kr : T0) (h : H) : Prop :=
  n2 x0 Kn Kr h
variable {g} {h : H} {p : Prop}
variable {x0 x2 x3b x3n x3c x4}
theorem D4_mk {K : T4} (hg : E4 g x0 x3b x3n x3c x4) (hk : K x0 x3b x3n x3c x4 h) : D4 K g h := by
  obtain ⟨e0, e3, e4, d⟩ := hg
  unfold D4
  rw [e0, e3, e4, d]
  exact hk
theorem D0_el {K : T0} (hq : D0 K g h) (f : ∀ {x2}, E0 g x2 → K x2 h → p) : p := nilDs_el hq fun d q => vStr_el q fun _ e2 q => f ⟨e2, d⟩ q
theorem D1_el {K : T1} (hq : D1 K g h) (f : ∀ {x0}, E1 g x0 → K x0 h → p) : p := nilDs_el hq fun d q => vStr_el q fun _ e0 q => f ⟨e0, d⟩ q
theorem D2_el {K : T2} (hq : D2 K g h) (f : ∀ {x0 x3b x3n x3c}, E2 g x0 x3b x3n x3c → K x0 x3b x3n x3c h → p) : p := nilDs_el hq fun d q => vStr_el q fun _ e0 q => vSlice_el q fun _ _ _ e3 q => f ⟨e0, e3, d⟩ q
theorem D3_el {K : T3} (hq : D3 K g h) (f : ∀ {x3b x3n x3c}, E3 g x3b x3n x3c → K x3b x3n x3c h → p) : p := nilDs_el hq fun d q => vSlice_el q fun _ _ _ e3 q => f ⟨e3, d⟩ q
theorem n4_ok {Kn Kr : T0} (hg : E3 g x3b x3n x3c) (hS : n4 x3b x3n x3c Kn Kr h) : W c6 (Q0 Kn Kr) g h :=
  leafN (by kernel_rfl) (by kernel_rfl) hg hS (by kernel_rfl)
theorem D4_el {K : T4} (hq : D4 K g h) (f : ∀ {x0 x3b x3n x3c x4}, E4 g x0 x3b x3n x3c x4 → K x0 x3b x3n x3c x4 h → p) : p := nilDs_el hq fun d q => vStr_el q fun _ e0 q => vSlice_el q fun _ _ _ e3 q => vInt_el q fun _ e4 q => f ⟨e0, e3, e4, d⟩ q
theorem n10_ok {Kn : T4} {Ke0 : T3} {Kr : T0} (hg : E4 g x0 x3b x3n x3c x4) (hS : n10 x0 x3b x3n x3c x4 Kn Ke0 Kr h) : W c14 (Q3 Kn Ke0 Kr) g h :=
  leafN (by kernel_rfl) (by kernel_rfl) hg hS (by kernel_rfl)
theorem n9_ok {Kn : T4} {Ke0 : T3} {Kr : T0} (hg : E4 g x0 x3b x3n x3c x4) (hS : n9 x0 x3b x3n x3c x4 Kn Ke0 Kr h) : W c12 (Q3 Kn Ke0 Kr) g h :=
  seqN (x := c13) (N' := D4 (fun z0 z3b z3n z3c z4 h => n10 z0 z3b z3n z3c z4 Kn Ke0 Kr h)) (by kernel_rfl) (leafN (by kernel_rfl) (by kernel_rfl) hg hS (by kernel_rfl)) fun hq => D4_el hq n10_ok
theorem n8_ok {Kn : T4} {Ke0 : T3} {Kr : T0} (hg : E4 g x0 x3b x3n x3c x4) (hS : n8 x0 x3b x3n x3c x4 Kn Ke0 Kr h) : W c10 (Q3 Kn Ke0 Kr) g h :=
  seqN (x := c11) (N' := D4 (fun z0 z3b z3n z3c z4 h => n9 z0 z3b z3n z3c z4 Kn Ke0 Kr h)) (by kernel_rfl) (leafN (by kernel_rfl) (by kernel_rfl) hg hS (by kernel_rfl)) fun hq => D4_el hq n9_ok
theorem n7_ok {Kn Ke0 : T3} {Kr : T0} (hg : E4 g x0 x3b x3n x3c x4) (hS : n7 x0 x3b x3n x3c x4 Kn Ke0 Kr h) : W c9 (Q2 Kn Ke0 Kr) g h :=
  let ⟨N, hS⟩ := hS
  loopN (x := c10) (I := fun N => D4 (n7_L Kn Ke0 Kr N)) (by kernel_rfl) (fun hq => D4_el hq fun _ hq => hq) (fun hq => D4_el hq fun hg hq => n8_ok hg hq) N (D4_mk hg hS)
theorem n6_ok {Kn : T3} {Kr : T0} (hg : E4 g x0 x3b x3n x3c x4) (hS : n6 x0 x3b x3n x3c x4 Kn Kr h) : W c8 (Q1 Kn Kr) g h := blockN (by kernel_rfl) (n7_ok hg hS)
theorem n5_ok {Kn : T3} {Kr : T0} (hg : E2 g x0 x3b x3n x3c) (hS : n5 x0 x3b x3n x3c Kn Kr h) : W c5 (Q1 Kn Kr) g h :=
  seqN (x := c7) (N' := D4 (fun z0 z3b z3n z3c z4 h => n6 z0 z3b z3n z3c z4 Kn Kr h)) (by kernel_rfl) (leafN (by kernel_rfl) (by kernel_rfl) hg hS (by kernel_rfl)) fun hq => D4_el hq n6_ok
theorem n3_ok {Kn Kr : T0} (hg : E2 g x0 x3b x3n x3c) (hS : n3 x0 x3b x3n x3c Kn Kr h) : W c4 (Q0 Kn Kr) g h :=
  seqN (by kernel_rfl) (n5_ok hg hS) fun hq => D3_el hq n4_ok
theorem n2_ok {Kn Kr : T0} (hg : E1 g x0) (hS : n2 x0 Kn Kr h) : W c2 (Q0 Kn Kr) g h :=
  seqN (x := c3) (N' := D2 (fun z0 z3b z3n z3c h => n3 z0 z3b z3n z3c Kn Kr h)) (by kernel_rfl) (leafN (by kernel_rfl) (by kernel_rfl) hg hS (by kernel_rfl)) fun hq => D2_el hq n3_ok
theorem n1_ok {Kn Kr : T0} (hg : E1 g x0) (hS : n1 x0 Kn Kr h) : W code (Q0 Kn Kr) g h :=
  seqN (x := c1) (N' := D1 (fun z0 h => n2 z0 Kn Kr h)) (by kernel_rfl) (leafN (by kernel_rfl) (by kernel_rfl) hg hS (by kernel_rfl)) fun hq => D1_el hq n2_ok
/-- WHAT tympan/tympanref02.Lower ASKS -/
abbrev asks (x0 : List UInt8) (K : Value → H → Prop) (h : H) : Prop := n1 x0 (fun y2 h => K (S y2) h) (fun y2 h => K (S y2) h) h
theorem ok (x0 : List UInt8) (K : Value → H → Prop) (h : H) (hS : asks x0 K h) : HCalls Tryz.prog 71 ⟨[(S x0)]⟩ h K :=
  callsN (c := code) Tryz.func71 (by kernel_rfl) (by kernel_rfl) (n1_ok ⟨rfl, rfl⟩ hS) fun hq => D0_el hq fun hg hq => retN hg hq (by kernel_rfl)
end Sx.r02_Lower

/-! ### (*tympan/place.World).Note -/
namespace Sx.place_World_Note
noncomputable def code : Code := bodyOf Tryz.f14
abbrev W := wpC none Tryz.prog 27
variable (g : Env) (x0 : Option Addr) (x1 : List UInt8)
abbrev T0 := H → Prop
abbrev E0 := Held g []
def D0 (K : T0) (g : Env) (h : H) : Prop := nilDs g.ds (K h)
abbrev Q0 (Kn Kr : T0) := QX (D0 Kn) (D0 Kr) noX
abbrev T1 := (Option Addr) → (List UInt8) → H → Prop
abbrev E1 := Held g [(0, .pointer x0), (1, S x1)]
def D1 (K : T1) (g : Env) (h : H) : Prop := nilDs g.ds (vPtr (g.v 0) fun p1 => vStr (g.v 1) fun s2 => K p1 s2 h)
abbrev n1 (Kn Kr : T0) (h : H) : Prop :=
  HCalls Tryz.prog 25 ⟨[(.pointer x0)]⟩ h fun v3 h4 => vAgg v3 fun l5 => uncons l5 fun e6 l7 => vInt .i64 e6 fun i8 => uncons l7 fun e9 l10 => vInt .u8 e9 fun i11 => uncons l10 fun e12 l13 => vStr e12 fun s14 => uncons l13 fun e15 l16 => vInt .u8 e15 fun i17 => unnil l16 (HCalls Tryz.prog 28 ⟨[(.pointer x0), (.agg ⟨[(.int .i64 i8), (.int .u8 i11), (S s14), (.int .u8 i17)]⟩)]⟩ h4 fun v18 h19 => vTup v18 fun l20 => uncons l20 fun e21 l22 => vInt .i64 e21 fun i23 => uncons l22 fun e24 l25 => vInt .i64 e24 fun i26 => unnil l25 ((vSome x0 fun a27 => vSome x0 fun a28 => ∃ p29, cell h19 (a28.add 0) = some (.pointer p29) ∧ (HCalls Tryz.prog 29 ⟨[(.pointer p29), (.agg ⟨[(.int .u8 (3 : Int)), (.int .u8 (0 : Int)), (S ([] : List UInt8)), (.slice none 0 0), (S x1), (.slice none 0 0)]⟩)]⟩ h19 fun v30 h31 => vInt .i64 v30 fun i32 => ∃ p33, cell h31 (a27.add 0) = some (.pointer p33) ∧ (HCalls Tryz.prog 30 ⟨[(.pointer p33), (.int .i64 i23), (.int .i64 i26), (.int .i64 i32)]⟩ h31 fun v34 h35 => vBool v34 fun b36 => cond b36 (Kn h35) (Kn h35)))) ∧ (vSome x0 fun a37 => ∃ p38, cell h19 (a37.add 0) = some (.pointer p38) ∧ (vSome x0 fun a39 => ∃ p40, cell h19 (a39.add 0) = some (.pointer p40) ∧ (HCalls Tryz.prog 29 ⟨[(.pointer p40), (.agg ⟨[(.int .u8 (3 : Int)), (.int .u8 (0 : Int)), (S ([] : List UInt8)), (.slice none 0 0), (S x1), (.slice none 0 0)]⟩)]⟩ h19 fun v41 h42 => vInt .i64 v41 fun i43 => HCalls Tryz.prog 30 ⟨[(.pointer p38), (.int .i64 i23), (.int .i64 i26), (.int .i64 i43)]⟩ h42 fun v44 h45 => vBool v44 fun b46 => cond b46 (Kn h45) (Kn h45))))))
variable {g} {h : H} {p : Prop}
variable {x0 x1}
theorem D0_el {K : T0} (hq : D0 K g h) (f : E0 g → K  h → p) : p := nilDs_el hq fun d q => f d q
theorem D1_el {K : T1} (hq : D1 K g h) (f : ∀ {x0 x1}, E1 g x0 x1 → K x0 x1 h → p) : p := nilDs_el hq fun d q => vPtr_el q fun _ e0 q => vStr_el q fun _ e1 q => f ⟨e0, e1, d⟩ q
theorem n1_ok {Kn Kr : T0} (hg : E1 g x0 x1) (hS : n1 x0 x1 Kn Kr h) : W code (Q0 Kn Kr) g h :=
  leafN (by kernel_rfl) (by kernel_rfl) hg hS (by kernel_rfl)
/-- WHAT (*tympan/place.World).Note ASKS -/
abbrev asks (x0 : Option Addr) (x1 : List UInt8) (K : Value → H → Prop) (h : H) : Prop := n1 x0 x1 (fun h => K (.tuple ⟨[]⟩) h) (fun h => K (.tuple ⟨[]⟩) h) h
theorem ok (x0 : Option Addr) (x1 : List UInt8) (K : Value → H → Prop) (h : H) (hS : asks x0 x1 K h) : HCalls Tryz.prog 14 ⟨[(.pointer x0), (S x1)]⟩ h K :=
  callsN (c := code) Tryz.func14 (by kernel_rfl) (by kernel_rfl) (n1_ok ⟨rfl, rfl, rfl⟩ hS) fun hq => D0_el hq fun hg hq => retN hg hq (by kernel_rfl)
end Sx.place_World_Note

/-! ### (*tympan/place.World).Rebuild -/
namespace Sx.place_World_Rebuild
noncomputable def code : Code := bodyOf Tryz.f18
abbrev W := wpC none Tryz.prog 55
variable (g : Env) (x0 : Option Addr) (x2 x28 x29 : Int)
abbrev T0 := H → Prop
abbrev E0 := Held g []
def D0 (K : T0) (g : Env) (h : H) : Prop := nilDs g.ds (K h)
abbrev Q0 (Kn Kr : T0) := QX (D0 Kn) (D0 Kr) noX
abbrev T1 := (Option Addr) → H → Prop
abbrev E1 := Held g [(0, .pointer x0)]
def D1 (K : T1) (g : Env) (h : H) : Prop := nilDs g.ds (vPtr (g.v 0) fun p1 => K p1 h)
noncomputable def c1 := cFst code
noncomputable def c2 := cSnd code
abbrev T2 := (Option Addr) → Int → H → Prop
abbrev E2 := Held g [(0, .pointer x0), (2, .int .i64 x2)]
def D2 (K : T2) (g : Env) (h : H) : Prop := nilDs g.ds (vPtr (g.v 0) fun p2 => vInt .i64 (g.v 2) fun i3 => K p2 i3 h)
noncomputable def c3 := cFst c2
noncomputable def c4 := cSnd c2
noncomputable def c5 := cFst c4
noncomputable def c6 := cSnd c4
abbrev T3 := (Option Addr) → Int → Int → Int → H → Prop
abbrev E3 := Held g [(0, .pointer x0), (2, .int .i64 x2), (28, .int .i64 x28), (29, .int .i64 x29)]
def D3 (K : T3) (g : Env) (h : H) : Prop := nilDs g.ds (vPtr (g.v 0) fun p4 => vInt .i64 (g.v 2) fun i5 => vInt .i64 (g.v 28) fun i6 => vInt .i64 (g.v 29) fun i7 => K p4 i5 i6 i7 h)
noncomputable def c7 := cFst c6
abbrev Q1 (Kn Ke0 Kr : T0) := QX (D0 Kn) (D0 Kr) (exX 0 (D0 Ke0) noX)
noncomputable def c8 := cFst c7
abbrev Q2 (Kn : T3) (Ke0 Kr : T0) := QX (D3 Kn) (D0 Kr) (exX 0 (D0 Ke0) noX)
def n5_L (Kn Ke0 Kr : T0) : Nat → T3
  | 0 => fun _ _ _ _ _ => False
  | N + 1 => fun x0 x2 x28 x29 h => Spl (x29 < x28) (vSome x0 fun a8 => ∃ s9b s9n s9c, cell h (a8.add 2) = some (.slice s9b s9n s9c) ∧ (Rng .i64 (x2 + x29) ∧ ((0 ≤ (x2 + x29) ∧ (x2 + x29) < (s9n : Int)) ∧ (vSome s9b fun a10 => ∃ s11, cell h ((a10.add (Int.toNat (x2 + x29) * 3)).add 1) = some (S s11) ∧ (∃ s12b s12n s12c, cell h ((a10.add (Int.toNat (x2 + x29) * 3)).add 2) = some (.slice s12b s12n s12c) ∧ (HCalls Tryz.prog 8 ⟨[(.pointer x0), (.int .u8 (0 : Int)), (.agg ⟨[(.int .u8 (0 : Int)), (S s11), (.slice s12b s12n s12c), (.bool false), (S ([] : List UInt8))]⟩)]⟩ h fun v13 h14 => vInt .i64 v13 fun i15 => stL ((a10.add (Int.toNat (x2 + x29) * 3)).add 0) [(.int .i64 i15)] 0 h14 fun h16 => Rng .i64 (x29 + (1 : Int)) ∧ (n5_L Kn Ke0 Kr N x0 x2 x28 (x29 + (1 : Int)) h16))))))) (Ke0 h)
abbrev n5 (Kn Ke0 Kr : T0) (h : H) : Prop :=
  ∃ N, n5_L Kn Ke0 Kr N x0 x2 x28 x29 h
abbrev n4 (Kn Kr : T0) (h : H) : Prop :=
  n5 x0 x2 x28 x29 Kn Kn Kr h
abbrev Q3 (Kn : T3) (Kr : T0) := QX (D3 Kn) (D0 Kr) noX
abbrev n3 (Kn Kr : T0) (h : H) : Prop :=
  vSome x0 fun a17 => ∃ s18b s18n s18c, cell h (a17.add 2) = some (.slice s18b s18n s18c) ∧ ((0 ≤ x2 ∧ x2 ≤ (s18n : Int) ∧ (s18n : Int) ≤ (s18c : Int)) ∧ (n4 x0 x2 (((Int.toNat (s18n : Int) - Int.toNat x2) : Nat) : Int) (0 : Int) Kn Kr h))
abbrev Q4 (Kn : T2) (Kr : T0) := QX (D2 Kn) (D0 Kr) noX
abbrev n2 (Kn Kr : T0) (h : H) : Prop :=
  vSome x0 fun a19 => ∃ s20b s20n s20c, cell h (a19.add 2) = some (.slice s20b s20n s20c) ∧ (HCalls Tryz.prog 41 ⟨[(.slice s20b s20n s20c)]⟩ h fun v21 h22 => vSlice v21 fun s23b s23n s23c => vSome x0 fun a24 => stL (a24.add 2) [(.slice s23b s23n s23c)] 0 h22 fun h25 => n3 x0 x2 Kn Kr h25)
abbrev n1 (Kn Kr : T0) (h : H) : Prop :=
  vSome x0 fun a26 => ∃ s27b s27n s27c, cell h (a26.add 2) = some (.slice s27b s27n s27c) ∧ (vSome x0 fun a28 => ∃ s29b s29n s29c, cell h (a28.add 1) = some (.slice s29b s29n s29c) ∧ (HCalls Tryz.prog 40 ⟨[(.slice s27b s27n s27c), (.slice s29b s29n s29c)]⟩ h fun v30 h31 => vInt .i64 v30 fun i32 => n2 x0 i32 Kn Kr h31))
variable {g} {h : H} {p : Prop}
variable {x0 x2 x28 x29}
theorem D3_mk {K : T3} (hg : E3 g x0 x2 x28 x29) (hk : K x0 x2 x28 x29 h) : D3 K g h := by
  obtain ⟨e0, e2, e28, e29, d⟩ := hg
  unfold D3
  rw [e0, e2, e28, e29, d]
  exact hk
theorem D0_el {K : T0} (hq : D0 K g h) (f : E0 g → K  h → p) : p := nilDs_el hq fun d q => f d q
theorem D1_el {K : T1} (hq : D1 K g h) (f : ∀ {x0}, E1 g x0 → K x0 h → p) : p := nilDs_el hq fun d q => vPtr_el q fun _ e0 q => f ⟨e0, d⟩ q
theorem D2_el {K : T2} (hq : D2 K g h) (f : ∀ {x0 x2}, E2 g x0 x2 → K x0 x2 h → p) : p := nilDs_el hq fun d q => vPtr_el q fun _ e0 q => vInt_el q fun _ e2 q => f ⟨e0, e2, d⟩ q
theorem D3_el {K : T3} (hq : D3 K g h) (f : ∀ {x0 x2 x28 x29}, E3 g x0 x2 x28 x29 → K x0 x2 x28 x29 h → p) : p := nilDs_el hq fun d q => vPtr_el q fun _ e0 q => vInt_el q fun _ e2 q => vInt_el q fun _ e28 q => vInt_el q fun _ e29 q => f ⟨e0, e2, e28, e29, d⟩ q
theorem n5_ok {Kn Ke0 Kr : T0} (hg : E3 g x0 x2 x28 x29) (hS : n5 x0 x2 x28 x29 Kn Ke0 Kr h) : W c7 (Q1 Kn Ke0 Kr) g h :=
  let ⟨N, hS⟩ := hS
  loopN (x := c8) (I := fun N => D3 (n5_L Kn Ke0 Kr N)) (by kernel_rfl) (fun hq => D3_el hq fun _ hq => hq) (fun hq => D3_el hq fun hg hq => leafN (by kernel_rfl) (by kernel_rfl) hg hq (by kernel_rfl)) N (D3_mk hg hS)
theorem n4_ok {Kn Kr : T0} (hg : E3 g x0 x2 x28 x29) (hS : n4 x0 x2 x28 x29 Kn Kr h) : W c6 (Q0 Kn Kr) g h := blockN (by kernel_rfl) (n5_ok hg hS)
theorem n3_ok {Kn Kr : T0} (hg : E2 g x0 x2) (hS : n3 x0 x2 Kn Kr h) : W c4 (Q0 Kn Kr) g h :=
  seqN (x := c5) (N' := D3 (fun z0 z2 z28 z29 h => n4 z0 z2 z28 z29 Kn Kr h)) (by kernel_rfl) (leafN (by kernel_rfl) (by kernel_rfl) hg hS (by kernel_rfl)) fun hq => D3_el hq n4_ok
theorem n2_ok {Kn Kr : T0} (hg : E2 g x0 x2) (hS : n2 x0 x2 Kn Kr h) : W c2 (Q0 Kn Kr) g h :=
  seqN (x := c3) (N' := D2 (fun z0 z2 h => n3 z0 z2 Kn Kr h)) (by kernel_rfl) (leafN (by kernel_rfl) (by kernel_rfl) hg hS (by kernel_rfl)) fun hq => D2_el hq n3_ok
theorem n1_ok {Kn Kr : T0} (hg : E1 g x0) (hS : n1 x0 Kn Kr h) : W code (Q0 Kn Kr) g h :=
  seqN (x := c1) (N' := D2 (fun z0 z2 h => n2 z0 z2 Kn Kr h)) (by kernel_rfl) (leafN (by kernel_rfl) (by kernel_rfl) hg hS (by kernel_rfl)) fun hq => D2_el hq n2_ok
/-- WHAT (*tympan/place.World).Rebuild ASKS -/
abbrev asks (x0 : Option Addr) (K : Value → H → Prop) (h : H) : Prop := n1 x0 (fun h => K (.tuple ⟨[]⟩) h) (fun h => K (.tuple ⟨[]⟩) h) h
theorem ok (x0 : Option Addr) (K : Value → H → Prop) (h : H) (hS : asks x0 K h) : HCalls Tryz.prog 18 ⟨[(.pointer x0)]⟩ h K :=
  callsN (c := code) Tryz.func18 (by kernel_rfl) (by kernel_rfl) (n1_ok ⟨rfl, rfl⟩ hS) fun hq => D0_el hq fun hg hq => retN hg hq (by kernel_rfl)
end Sx.place_World_Rebuild

/-! ### (*tympan/place.World).Drop -/
namespace Sx.place_World_Drop
noncomputable def code : Code := bodyOf Tryz.f20
abbrev W := wpC none Tryz.prog 25
variable (g : Env) (x0 : Option Addr) (x1 : Int) (x3 : Addr) (x4 : Int) (x12 : Bool)
abbrev T0 := H → Prop
abbrev E0 := Held g []
def D0 (K : T0) (g : Env) (h : H) : Prop := nilDs g.ds (K h)
abbrev Q0 (Kn Kr : T0) := QX (D0 Kn) (D0 Kr) noX
abbrev T1 := (Option Addr) → Int → H → Prop
abbrev E1 := Held g [(0, .pointer x0), (1, .int .i64 x1)]
def D1 (K : T1) (g : Env) (h : H) : Prop := nilDs g.ds (vPtr (g.v 0) fun p1 => vInt .i64 (g.v 1) fun i2 => K p1 i2 h)
noncomputable def c1 := cFst code
noncomputable def c2 := cSnd code
abbrev T2 := (Option Addr) → Addr → H → Prop
abbrev E2 := Held g [(0, .pointer x0), (3, .pointer (some x3))]
def D2 (K : T2) (g : Env) (h : H) : Prop := nilDs g.ds (vPtr (g.v 0) fun p3 => vAddr (g.v 3) fun a4 => K p3 a4 h)
noncomputable def c3 := cFst c2
noncomputable def c4 := cSnd c2
abbrev T3 := (Option Addr) → Int → H → Prop
abbrev E3 := Held g [(0, .pointer x0), (4, .int .i64 x4)]
def D3 (K : T3) (g : Env) (h : H) : Prop := nilDs g.ds (vPtr (g.v 0) fun p5 => vInt .i64 (g.v 4) fun i6 => K p5 i6 h)
noncomputable def c5 := cFst c4
noncomputable def c6 := cSnd c4
abbrev T4 := (Option Addr) → Int → Bool → H → Prop
abbrev E4 := Held g [(0, .pointer x0), (4, .int .i64 x4), (12, .bool x12)]
def D4 (K : T4) (g : Env) (h : H) : Prop := nilDs g.ds (vPtr (g.v 0) fun p7 => vInt .i64 (g.v 4) fun i8 => vBool (g.v 12) fun b9 => K p7 i8 b9 h)
abbrev n4 (Kn Kr : T0) (h : H) : Prop :=
  cond x12 (vSome x0 fun a10 => ∃ s11b s11n s11c, cell h (a10.add 1) = some (.slice s11b s11n s11c) ∧ (HCalls Tryz.prog 46 ⟨[(.slice s11b s11n s11c)]⟩ h fun v12 h13 => vSlice v12 fun s14b s14n s14c => Rng .i64 (x4 + (1 : Int)) ∧ (HCalls Tryz.prog 45 ⟨[(.slice s14b s14n s14c), (.int .i64 x4), (.int .i64 (x4 + (1 : Int)))]⟩ h13 fun v15 h16 => vSlice v15 fun s17b s17n s17c => vSome x0 fun a18 => stL (a18.add 1) [(.slice s17b s17n s17c)] 0 h16 fun h19 => Kn h19))) (Kn h)
abbrev Q1 (Kn : T4) (Kr : T0) := QX (D4 Kn) (D0 Kr) noX
abbrev n3 (Kn Kr : T0) (h : H) : Prop :=
  Spl (x4 > (0 : Int)) (n4 x0 x4 true Kn Kr h) (n4 x0 x4 false Kn Kr h)
abbrev Q2 (Kn : T3) (Kr : T0) := QX (D3 Kn) (D0 Kr) noX
abbrev n2 (Kn Kr : T0) (h : H) : Prop :=
  vSome x0 fun a20 => ∃ s21b s21n s21c, cell h (a20.add 1) = some (.slice s21b s21n s21c) ∧ (HCalls Tryz.prog 43 ⟨[(.slice s21b s21n s21c), (.func (.func 44) ⟨[]⟩ ⟨[(.pointer (some x3))]⟩)]⟩ h fun v22 h23 => vInt .i64 v22 fun i24 => n3 x0 i24 Kn Kr h23)
abbrev Q3 (Kn : T2) (Kr : T0) := QX (D2 Kn) (D0 Kr) noX
abbrev n1 (Kn Kr : T0) (h : H) : Prop :=
  newx h #[(.int .i64 x1)] 3 fun a25 h26 => n2 x0 a25 Kn Kr h26
variable {g} {h : H} {p : Prop}
variable {x0 x1 x3 x4 x12}
theorem D0_el {K : T0} (hq : D0 K g h) (f : E0 g → K  h → p) : p := nilDs_el hq fun d q => f d q
theorem D1_el {K : T1} (hq : D1 K g h) (f : ∀ {x0 x1}, E1 g x0 x1 → K x0 x1 h → p) : p := nilDs_el hq fun d q => vPtr_el q fun _ e0 q => vInt_el q fun _ e1 q => f ⟨e0, e1, d⟩ q
theorem D2_el {K : T2} (hq : D2 K g h) (f : ∀ {x0 x3}, E2 g x0 x3 → K x0 x3 h → p) : p := nilDs_el hq fun d q => vPtr_el q fun _ e0 q => vAddr_el q fun _ e3 q => f ⟨e0, e3, d⟩ q
theorem D3_el {K : T3} (hq : D3 K g h) (f : ∀ {x0 x4}, E3 g x0 x4 → K x0 x4 h → p) : p := nilDs_el hq fun d q => vPtr_el q fun _ e0 q => vInt_el q fun _ e4 q => f ⟨e0, e4, d⟩ q
theorem D4_el {K : T4} (hq : D4 K g h) (f : ∀ {x0 x4 x12}, E4 g x0 x4 x12 → K x0 x4 x12 h → p) : p := nilDs_el hq fun d q => vPtr_el q fun _ e0 q => vInt_el q fun _ e4 q => vBool_el q fun _ e12 q => f ⟨e0, e4, e12, d⟩ q
theorem n4_ok {Kn Kr : T0} (hg : E4 g x0 x4 x12) (hS : n4 x0 x4 x12 Kn Kr h) : W c6 (Q0 Kn Kr) g h :=
  leafN (by kernel_rfl) (by kernel_rfl) hg hS (by kernel_rfl)
theorem n3_ok {Kn Kr : T0} (hg : E3 g x0 x4) (hS : n3 x0 x4 Kn Kr h) : W c4 (Q0 Kn Kr) g h :=
  seqN (x := c5) (N' := D4 (fun z0 z4 z12 h => n4 z0 z4 z12 Kn Kr h)) (by kernel_rfl) (leafN (by kernel_rfl) (by kernel_rfl) hg hS (by kernel_rfl)) fun hq => D4_el hq n4_ok
theorem n2_ok {Kn Kr : T0} (hg : E2 g x0 x3) (hS : n2 x0 x3 Kn Kr h) : W c2 (Q0 Kn Kr) g h :=
  seqN (x := c3) (N' := D3 (fun z0 z4 h => n3 z0 z4 Kn Kr h)) (by kernel_rfl) (leafN (by kernel_rfl) (by kernel_rfl) hg hS (by kernel_rfl)) fun hq => D3_el hq n3_ok
theorem n1_ok {Kn Kr : T0} (hg : E1 g x0 x1) (hS : n1 x0 x1 Kn Kr h) : W code (Q0 Kn Kr) g h :=
  seqN (x := c1) (N' := D2 (fun z0 z3 h => n2 z0 z3 Kn Kr h)) (by kernel_rfl) (leafN (by kernel_rfl) (by kernel_rfl) hg hS (by kernel_rfl)) fun hq => D2_el hq n2_ok
/-- WHAT (*tympan/place.World).Drop ASKS -/
abbrev asks (x0 : Option Addr) (x1 : Int) (K : Value → H → Prop) (h : H) : Prop := n1 x0 x1 (fun h => K (.tuple ⟨[]⟩) h) (fun h => K (.tuple ⟨[]⟩) h) h
theorem ok (x0 : Option Addr) (x1 : Int) (K : Value → H → Prop) (h : H) (hS : asks x0 x1 K h) : HCalls Tryz.prog 20 ⟨[(.pointer x0), (.int .i64 x1)]⟩ h K :=
  callsN (c := code) Tryz.func20 (by kernel_rfl) (by kernel_rfl) (n1_ok ⟨rfl, rfl, rfl⟩ hS) fun hq => D0_el hq fun hg hq => retN hg hq (by kernel_rfl)
end Sx.place_World_Drop

/-! ### slices.IndexFunc[[]tympan/api.Open,tympan/api.Open] -/
namespace Sx.slices_IndexFunc_apiOpen
noncomputable def code : Code := bodyOf Tryz.f43
abbrev W := wpC none Tryz.prog 19
variable (g : Env) (x0b : Option Addr) (x0n x0c : Nat) (x1 : Value) (x4 x7 x8 : Int)
abbrev T0 := Int → H → Prop
abbrev E0 := Held g [(4, .int .i64 x4)]
def D0 (K : T0) (g : Env) (h : H) : Prop := nilDs g.ds (vInt .i64 (g.v 4) fun i1 => K i1 h)
abbrev Q0 (Kn Kr : T0) := QX (D0 Kn) (D0 Kr) noX
abbrev T1 := (Option Addr) → Nat → Nat → Value → H → Prop
abbrev E1 := Held g [(0, .slice x0b x0n x0c), (1, x1)]
def D1 (K : T1) (g : Env) (h : H) : Prop := nilDs g.ds (vSlice (g.v 0) fun s2b s2n s2c => K s2b s2n s2c (g.v 1) h)
noncomputable def c1 := cFst code
noncomputable def c2 := cSnd code
noncomputable def c3 := cFst c2
noncomputable def c4 := cSnd c2
abbrev T2 := H → Prop
abbrev E2 := Held g []
def D2 (K : T2) (g : Env) (h : H) : Prop := nilDs g.ds (K h)
abbrev n3 (Kn Kr : T0) (h : H) : Prop :=
  Kr (-1 : Int) h
abbrev Q1 (Kn : T2) (Kr : T0) := QX (D2 Kn) (D0 Kr) noX
noncomputable def c5 := cFst c3
noncomputable def c6 := cSnd c3
abbrev T3 := (Option Addr) → Nat → Nat → Value → Int → Int → H → Prop
abbrev E3 := Held g [(0, .slice x0b x0n x0c), (1, x1), (7, .int .i64 x7), (8, .int .i64 x8)]
def D3 (K : T3) (g : Env) (h : H) : Prop := nilDs g.ds (vSlice (g.v 0) fun s3b s3n s3c => vInt .i64 (g.v 7) fun i4 => vInt .i64 (g.v 8) fun i5 => K s3b s3n s3c (g.v 1) i4 i5 h)
noncomputable def c7 := cFst c6
abbrev Q2 (Kn Ke0 : T2) (Kr : T0) := QX (D2 Kn) (D0 Kr) (exX 0 (D2 Ke0) noX)
noncomputable def c8 := cFst c7
abbrev Q3 (Kn : T3) (Ke0 : T2) (Kr : T0) := QX (D3 Kn) (D0 Kr) (exX 0 (D2 Ke0) noX)
def n6_L (Kn Ke0 : T2) (Kr : T0) : Nat → T3
  | 0 => fun _ _ _ _ _ _ _ => False
  | N + 1 => fun x0b x0n x0c x1 x7 x8 h => Spl (x8 < x7) ((0 ≤ x8 ∧ x8 < (x0n : Int)) ∧ (vSome x0b fun a6 => ∃ i7, cell h (((a6.add (Int.toNat x8 * 4))).add 0) = some (.int .i64 i7) ∧ (∃ i8, cell h (((a6.add (Int.toNat x8 * 4))).add 1) = some (.int .u8 i8) ∧ (∃ s9, cell h (((a6.add (Int.toNat x8 * 4))).add 2) = some (S s9) ∧ (∃ i10, cell h (((a6.add (Int.toNat x8 * 4))).add 3) = some (.int .u8 i10) ∧ (CallV Tryz.prog 4 x1 ⟨[(.agg ⟨[(.int .i64 i7), (.int .u8 i8), (S s9), (.int .u8 i10)]⟩)]⟩ h fun v11 h12 => vBool v11 fun b13 => cond b13 (Kr x8 h12) (Rng .i64 (x8 + (1 : Int)) ∧ (n6_L Kn Ke0 Kr N x0b x0n x0c x1 x7 (x8 + (1 : Int)) h12)))))))) (Ke0 h)
abbrev n6 (Kn Ke0 : T2) (Kr : T0) (h : H) : Prop :=
  ∃ N, n6_L Kn Ke0 Kr N x0b x0n x0c x1 x7 x8 h
abbrev n5 (Kn : T2) (Kr : T0) (h : H) : Prop :=
  n6 x0b x0n x0c x1 x7 x8 Kn Kn Kr h
abbrev Q4 (Kn : T3) (Kr : T0) := QX (D3 Kn) (D0 Kr) noX
abbrev n4 (Kn : T2) (Kr : T0) (h : H) : Prop :=
  n5 x0b x0n x0c x1 (x0n : Int) (0 : Int) Kn Kr h
abbrev n2 (Kn Kr : T0) (h : H) : Prop :=
  n4 x0b x0n x0c x1 (fun  h => n3 Kn Kr h) Kr h
abbrev Q5 (Kn : T1) (Kr : T0) := QX (D1 Kn) (D0 Kr) noX
abbrev n1 (Kn Kr : T0) (h : H) : Prop :=
  n2 x0b x0n x0c x1 Kn Kr h
variable {g} {h : H} {p : Prop}
variable {x0b x0n x0c x1 x4 x7 x8}
theorem D3_mk {K : T3} (hg : E3 g x0b x0n x0c x1 x7 x8) (hk : K x0b x0n x0c x1 x7 x8 h) : D3 K g h := by
  obtain ⟨e0, e1, e7, e8, d⟩ := hg
  unfold D3
  rw [e0, e1, e7, e8, d]
  exact hk
theorem D0_el {K : T0} (hq : D0 K g h) (f : ∀ {x4}, E0 g x4 → K x4 h → p) : p := nilDs_el hq fun d q => vInt_el q fun _ e4 q => f ⟨e4, d⟩ q
theorem D1_el {K : T1} (hq : D1 K g h) (f : ∀ {x0b x0n x0c x1}, E1 g x0b x0n x0c x1 → K x0b x0n x0c x1 h → p) : p := nilDs_el hq fun d q => vSlice_el q fun _ _ _ e0 q => f ⟨e0, rfl, d⟩ q
theorem D2_el {K : T2} (hq : D2 K g h) (f : E2 g → K  h → p) : p := nilDs_el hq fun d q => f d q
theorem n3_ok {Kn Kr : T0} (hg : E2 g) (hS : n3 Kn Kr h) : W c4 (Q0 Kn Kr) g h :=
  leafN (by kernel_rfl) (by kernel_rfl) hg hS (by kernel_rfl)
theorem D3_el {K : T3} (hq : D3 K g h) (f : ∀ {x0b x0n x0c x1 x7 x8}, E3 g x0b x0n x0c x1 x7 x8 → K x0b x0n x0c x1 x7 x8 h → p) : p := nilDs_el hq fun d q => vSlice_el q fun _ _ _ e0 q => vInt_el q fun _ e7 q => vInt_el q fun _ e8 q => f ⟨e0, rfl, e7, e8, d⟩ q
theorem n6_ok {Kn Ke0 : T2} {Kr : T0} (hg : E3 g x0b x0n x0c x1 x7 x8) (hS : n6 x0b x0n x0c x1 x7 x8 Kn Ke0 Kr h) : W c7 (Q2 Kn Ke0 Kr) g h :=
  let ⟨N, hS⟩ := hS
  loopN (x := c8) (I := fun N => D3 (n6_L Kn Ke0 Kr N)) (by kernel_rfl) (fun hq => D3_el hq fun _ hq => hq) (fun hq => D3_el hq fun hg hq => leafN (by kernel_rfl) (by kernel_rfl) hg hq (by kernel_rfl)) N (D3_mk hg hS)
theorem n5_ok {Kn : T2} {Kr : T0} (hg : E3 g x0b x0n x0c x1 x7 x8) (hS : n5 x0b x0n x0c x1 x7 x8 Kn Kr h) : W c6 (Q1 Kn Kr) g h := blockN (by kernel_rfl) (n6_ok hg hS)
theorem n4_ok {Kn : T2} {Kr : T0} (hg : E1 g x0b x0n x0c x1) (hS : n4 x0b x0n x0c x1 Kn Kr h) : W c3 (Q1 Kn Kr) g h :=
  seqN (x := c5) (N' := D3 (fun z0b z0n z0c z1 z7 z8 h => n5 z0b z0n z0c z1 z7 z8 Kn Kr h)) (by kernel_rfl) (leafN (by kernel_rfl) (by kernel_rfl) hg hS (by kernel_rfl)) fun hq => D3_el hq n5_ok
theorem n2_ok {Kn Kr : T0} (hg : E1 g x0b x0n x0c x1) (hS : n2 x0b x0n x0c x1 Kn Kr h) : W c2 (Q0 Kn Kr) g h :=
  seqN (by kernel_rfl) (n4_ok hg hS) fun hq => D2_el hq n3_ok
theorem n1_ok {Kn Kr : T0} (hg : E1 g x0b x0n x0c x1) (hS : n1 x0b x0n x0c x1 Kn Kr h) : W code (Q0 Kn Kr) g h :=
  seqN (x := c1) (N' := D1 (fun z0b z0n z0c z1 h => n2 z0b z0n z0c z1 Kn Kr h)) (by kernel_rfl) (leafN (by kernel_rfl) (by kernel_rfl) hg hS (by kernel_rfl)) fun hq => D1_el hq n2_ok
/-- WHAT slices.IndexFunc[[]tympan/api.Open,tympan/api.Open] ASKS -/
abbrev asks (x0b : Option Addr) (x0n : Nat) (x0c : Nat) (x1 : Value) (K : Value → H → Prop) (h : H) : Prop := n1 x0b x0n x0c x1 (fun y4 h => K (.int .i64 y4) h) (fun y4 h => K (.int .i64 y4) h) h
theorem ok (x0b : Option Addr) (x0n : Nat) (x0c : Nat) (x1 : Value) (K : Value → H → Prop) (h : H) (hS : asks x0b x0n x0c x1 K h) : HCalls Tryz.prog 43 ⟨[(.slice x0b x0n x0c), x1]⟩ h K :=
  callsN (c := code) Tryz.func43 (by kernel_rfl) (by kernel_rfl) (n1_ok ⟨rfl, rfl, rfl⟩ hS) fun hq => D0_el hq fun hg hq => retN hg hq (by kernel_rfl)
end Sx.slices_IndexFunc_apiOpen

/-! ### (*tympan/place.World).Drop$1 -/
namespace Sx.place_World_Drop_1
noncomputable def code : Code := bodyOf Tryz.f44
abbrev W := wpC none Tryz.prog 8
variable (g : Env) (x0_0 x0_1 : Int) (x0_2 : List UInt8) (x0_3 : Int) (x1 : Addr) (x3 : Bool)
abbrev T0 := Bool → H → Prop
abbrev E0 := Held g [(3, .bool x3)]
def D0 (K : T0) (g : Env) (h : H) : Prop := nilDs g.ds (vBool (g.v 3) fun b1 => K b1 h)
abbrev Q0 (Kn Kr : T0) := QX (D0 Kn) (D0 Kr) noX
abbrev T1 := Int → Int → (List UInt8) → Int → Addr → H → Prop
abbrev E1 := Held g [(0, .agg ⟨[(.int .i64 x0_0), (.int .u8 x0_1), (S x0_2), (.int .u8 x0_3)]⟩), (1, .pointer (some x1))]
def D1 (K : T1) (g : Env) (h : H) : Prop := nilDs g.ds (vAgg (g.v 0) fun l2 => uncons l2 fun e3 l4 => vInt .i64 e3 fun i5 => uncons l4 fun e6 l7 => vInt .u8 e6 fun i8 => uncons l7 fun e9 l10 => vStr e9 fun s11 => uncons l10 fun e12 l13 => vInt .u8 e12 fun i14 => unnil l13 (vAddr (g.v 1) fun a15 => K i5 i8 s11 i14 a15 h))
abbrev n1 (Kn Kr : T0) (h : H) : Prop :=
  newx h ⟨[(.int .i64 x0_0), (.int .u8 x0_1), (S x0_2), (.int .u8 x0_3)]⟩ 36 fun a16 h17 => ∃ i18, cell h17 (a16.add 0) = some (.int .i64 i18) ∧ (∃ i19, cell h17 x1 = some (.int .i64 i19) ∧ (Spl (i18 = i19) (Kr true h17) (Kr false h17)))
variable {g} {h : H} {p : Prop}
variable {x0_0 x0_1 x0_2 x0_3 x1 x3}
theorem D0_el {K : T0} (hq : D0 K g h) (f : ∀ {x3}, E0 g x3 → K x3 h → p) : p := nilDs_el hq fun d q => vBool_el q fun _ e3 q => f ⟨e3, d⟩ q
theorem D1_el {K : T1} (hq : D1 K g h) (f : ∀ {x0_0 x0_1 x0_2 x0_3 x1}, E1 g x0_0 x0_1 x0_2 x0_3 x1 → K x0_0 x0_1 x0_2 x0_3 x1 h → p) : p := by
  obtain ⟨d, q0⟩ := nilDs_ok hq
  obtain ⟨l, e0, q1⟩ := vAgg_ok q0
  obtain ⟨_, l, rfl, q2⟩ := uncI q1
  obtain ⟨_, l, rfl, q3⟩ := uncI q2
  obtain ⟨_, l, rfl, q4⟩ := uncS q3
  obtain ⟨_, l, rfl, q5⟩ := uncI q4
  obtain ⟨rfl, q6⟩ := unnil_ok q5
  obtain ⟨_, e1, q7⟩ := vAddr_ok q6
  exact f ⟨e0, e1, d⟩ q7
theorem n1_ok {Kn Kr : T0} (hg : E1 g x0_0 x0_1 x0_2 x0_3 x1) (hS : n1 x0_0 x0_1 x0_2 x0_3 x1 Kn Kr h) : W code (Q0 Kn Kr) g h :=
  leafN (by kernel_rfl) (by kernel_rfl) hg hS (by kernel_rfl)
/-- WHAT (*tympan/place.World).Drop$1 ASKS -/
abbrev asks (x0_0 : Int) (x0_1 : Int) (x0_2 : List UInt8) (x0_3 : Int) (x1 : Addr) (K : Value → H → Prop) (h : H) : Prop := n1 x0_0 x0_1 x0_2 x0_3 x1 (fun y3 h => K (.bool y3) h) (fun y3 h => K (.bool y3) h) h
theorem ok (x0_0 : Int) (x0_1 : Int) (x0_2 : List UInt8) (x0_3 : Int) (x1 : Addr) (K : Value → H → Prop) (h : H) (hS : asks x0_0 x0_1 x0_2 x0_3 x1 K h) : HCalls Tryz.prog 44 ⟨[(.agg ⟨[(.int .i64 x0_0), (.int .u8 x0_1), (S x0_2), (.int .u8 x0_3)]⟩), (.pointer (some x1))]⟩ h K :=
  callsN (c := code) Tryz.func44 (by kernel_rfl) (by kernel_rfl) (n1_ok ⟨rfl, rfl, rfl⟩ hS) fun hq => D0_el hq fun hg hq => retN hg hq (by kernel_rfl)
end Sx.place_World_Drop_1

/-! ### slices.Delete[[]tympan/api.Open,tympan/api.Open] -/
namespace Sx.slices_Delete_apiOpen
noncomputable def code : Code := bodyOf Tryz.f45
abbrev W := wpC none Tryz.prog 33
variable (g : Env) (x0b : Option Addr) (x0n x0c : Nat) (x1 x2 : Int) (x6b : Option Addr) (x6n x6c : Nat)
abbrev T0 := (Option Addr) → Nat → Nat → H → Prop
abbrev E0 := Held g [(6, .slice x6b x6n x6c)]
def D0 (K : T0) (g : Env) (h : H) : Prop := nilDs g.ds (vSlice (g.v 6) fun s1b s1n s1c => K s1b s1n s1c h)
abbrev Q0 (Kn Kr : T0) := QX (D0 Kn) (D0 Kr) noX
abbrev T1 := (Option Addr) → Nat → Nat → Int → Int → H → Prop
abbrev E1 := Held g [(0, .slice x0b x0n x0c), (1, .int .i64 x1), (2, .int .i64 x2)]
def D1 (K : T1) (g : Env) (h : H) : Prop := nilDs g.ds (vSlice (g.v 0) fun s2b s2n s2c => vInt .i64 (g.v 1) fun i3 => vInt .i64 (g.v 2) fun i4 => K s2b s2n s2c i3 i4 h)
abbrev n1 (Kn Kr : T0) (h : H) : Prop :=
  (0 ≤ x1 ∧ x1 ≤ x2 ∧ x2 ≤ (x0n : Int) ∧ (x0n : Int) ≤ (x0c : Int)) ∧ (Spl (x1 = x2) (Kr x0b x0n x0c h) ((0 ≤ (0 : Int) ∧ (0 : Int) ≤ x1 ∧ x1 ≤ (x0c : Int)) ∧ ((0 ≤ x2 ∧ x2 ≤ (x0n : Int) ∧ (x0n : Int) ≤ (x0c : Int)) ∧ (SemH Tryz.prog (Builtin.append_ #[43, 43] 43 ⟨[(.slice (if x0c = Int.toNat (0 : Int) then x0b else Option.map (fun q => q.add (Int.toNat (0 : Int) * 4)) x0b) (Int.toNat x1 - Int.toNat (0 : Int)) (x0c - Int.toNat (0 : Int))), (.slice (if x0c = Int.toNat x2 then x0b else Option.map (fun q => q.add (Int.toNat x2 * 4)) x0b) (Int.toNat (x0n : Int) - Int.toNat x2) (x0c - Int.toNat x2))]⟩) h fun v5 h6 => vSlice v5 fun s7b s7n s7c => (0 ≤ (s7n : Int) ∧ (s7n : Int) ≤ (x0n : Int) ∧ (x0n : Int) ≤ (s7c : Int)) ∧ (SemH Tryz.prog (Builtin.clear_ #[43] 0 ⟨[(.slice (if s7c = Int.toNat (s7n : Int) then s7b else Option.map (fun q => q.add (Int.toNat (s7n : Int) * 4)) s7b) (Int.toNat (x0n : Int) - Int.toNat (s7n : Int)) (s7c - Int.toNat (s7n : Int)))]⟩) h6 fun v8 h9 => Kr s7b s7n s7c h9)))))
variable {g} {h : H} {p : Prop}
variable {x0b x0n x0c x1 x2 x6b x6n x6c}
theorem D0_el {K : T0} (hq : D0 K g h) (f : ∀ {x6b x6n x6c}, E0 g x6b x6n x6c → K x6b x6n x6c h → p) : p := nilDs_el hq fun d q => vSlice_el q fun _ _ _ e6 q => f ⟨e6, d⟩ q
theorem D1_el {K : T1} (hq : D1 K g h) (f : ∀ {x0b x0n x0c x1 x2}, E1 g x0b x0n x0c x1 x2 → K x0b x0n x0c x1 x2 h → p) : p := nilDs_el hq fun d q => vSlice_el q fun _ _ _ e0 q => vInt_el q fun _ e1 q => vInt_el q fun _ e2 q => f ⟨e0, e1, e2, d⟩ q
theorem n1_ok {Kn Kr : T0} (hg : E1 g x0b x0n x0c x1 x2) (hS : n1 x0b x0n x0c x1 x2 Kn Kr h) : W code (Q0 Kn Kr) g h :=
  leafN (by kernel_rfl) (by kernel_rfl) hg hS (by kernel_rfl)
/-- WHAT slices.Delete[[]tympan/api.Open,tympan/api.Open] ASKS -/
abbrev asks (x0b : Option Addr) (x0n : Nat) (x0c : Nat) (x1 : Int) (x2 : Int) (K : Value → H → Prop) (h : H) : Prop := n1 x0b x0n x0c x1 x2 (fun y6b y6n y6c h => K (.slice y6b y6n y6c) h) (fun y6b y6n y6c h => K (.slice y6b y6n y6c) h) h
theorem ok (x0b : Option Addr) (x0n : Nat) (x0c : Nat) (x1 : Int) (x2 : Int) (K : Value → H → Prop) (h : H) (hS : asks x0b x0n x0c x1 x2 K h) : HCalls Tryz.prog 45 ⟨[(.slice x0b x0n x0c), (.int .i64 x1), (.int .i64 x2)]⟩ h K :=
  callsN (c := code) Tryz.func45 (by kernel_rfl) (by kernel_rfl) (n1_ok ⟨rfl, rfl, rfl, rfl⟩ hS) fun hq => D0_el hq fun hg hq => retN hg hq (by kernel_rfl)
end Sx.slices_Delete_apiOpen

/-! ### slices.Clone[[]tympan/api.Open,tympan/api.Open] -/
namespace Sx.slices_Clone_apiOpen
noncomputable def code : Code := bodyOf Tryz.f46
abbrev W := wpC none Tryz.prog 8
variable (g : Env) (x0b : Option Addr) (x0n x0c : Nat) (x2b : Option Addr) (x2n x2c : Nat)
abbrev T0 := (Option Addr) → Nat → Nat → H → Prop
abbrev E0 := Held g [(2, .slice x2b x2n x2c)]
def D0 (K : T0) (g : Env) (h : H) : Prop := nilDs g.ds (vSlice (g.v 2) fun s1b s1n s1c => K s1b s1n s1c h)
abbrev Q0 (Kn Kr : T0) := QX (D0 Kn) (D0 Kr) noX
abbrev T1 := (Option Addr) → Nat → Nat → H → Prop
abbrev E1 := Held g [(0, .slice x0b x0n x0c)]
def D1 (K : T1) (g : Env) (h : H) : Prop := nilDs g.ds (vSlice (g.v 0) fun s2b s2n s2c => K s2b s2n s2c h)
abbrev n1 (Kn Kr : T0) (h : H) : Prop :=
  SemH Tryz.prog (binS .eql 43 (.tmp 3) (.const (.slice none 0 0)) (.slice x0b x0n x0c) (.slice none 0 0)) h fun v3 h4 => vBool v3 fun b5 => cond b5 (Kr none 0 0 h4) (newx h4 #[] 36 fun a6 h7 => SemH Tryz.prog (Builtin.append_ #[43, 43] 43 ⟨[(.slice (some a6) 0 0), (.slice x0b x0n x0c)]⟩) h7 fun v8 h9 => vSlice v8 fun s10b s10n s10c => Kr s10b s10n s10c h9)
variable {g} {h : H} {p : Prop}
variable {x0b x0n x0c x2b x2n x2c}
theorem D0_el {K : T0} (hq : D0 K g h) (f : ∀ {x2b x2n x2c}, E0 g x2b x2n x2c → K x2b x2n x2c h → p) : p := nilDs_el hq fun d q => vSlice_el q fun _ _ _ e2 q => f ⟨e2, d⟩ q
theorem D1_el {K : T1} (hq : D1 K g h) (f : ∀ {x0b x0n x0c}, E1 g x0b x0n x0c → K x0b x0n x0c h → p) : p := nilDs_el hq fun d q => vSlice_el q fun _ _ _ e0 q => f ⟨e0, d⟩ q
theorem n1_ok {Kn Kr : T0} (hg : E1 g x0b x0n x0c) (hS : n1 x0b x0n x0c Kn Kr h) : W code (Q0 Kn Kr) g h :=
  leafN (by kernel_rfl) (by kernel_rfl) hg hS (by kernel_rfl)
/-- WHAT slices.Clone[[]tympan/api.Open,tympan/api.Open] ASKS -/
abbrev asks (x0b : Option Addr) (x0n : Nat) (x0c : Nat) (K : Value → H → Prop) (h : H) : Prop := n1 x0b x0n x0c (fun y2b y2n y2c h => K (.slice y2b y2n y2c) h) (fun y2b y2n y2c h => K (.slice y2b y2n y2c) h) h
theorem ok (x0b : Option Addr) (x0n : Nat) (x0c : Nat) (K : Value → H → Prop) (h : H) (hS : asks x0b x0n x0c K h) : HCalls Tryz.prog 46 ⟨[(.slice x0b x0n x0c)]⟩ h K :=
  callsN (c := code) Tryz.func46 (by kernel_rfl) (by kernel_rfl) (n1_ok ⟨rfl, rfl⟩ hS) fun hq => D0_el hq fun hg hq => retN hg hq (by kernel_rfl)
end Sx.slices_Clone_apiOpen

/-! ### (*tympan/tympanref13.World).Rebuild -/
namespace Sx.r13_World_Rebuild
noncomputable def code : Code := bodyOf Tryz.f19
abbrev W := wpC none Tryz.prog 63
variable (g : Env) (x0 : Option Addr) (x2 : Int)
abbrev T0 := H → Prop
abbrev E0 := Held g []
def D0 (K : T0) (g : Env) (h : H) : Prop := nilDs g.ds (K h)
abbrev Q0 (Kn Kr : T0) := QX (D0 Kn) (D0 Kr) noX
abbrev T1 := (Option Addr) → H → Prop
abbrev E1 := Held g [(0, .pointer x0)]
def D1 (K : T1) (g : Env) (h : H) : Prop := nilDs g.ds (vPtr (g.v 0) fun p1 => K p1 h)
noncomputable def c1 := cFst code
noncomputable def c2 := cSnd code
abbrev T2 := (Option Addr) → Int → H → Prop
abbrev E2 := Held g [(0, .pointer x0), (2, .int .i64 x2)]
def D2 (K : T2) (g : Env) (h : H) : Prop := nilDs g.ds (vPtr (g.v 0) fun p2 => vInt .i64 (g.v 2) fun i3 => K p2 i3 h)
noncomputable def c3 := cFst c2
abbrev Q1 (Kn Ke0 Kr : T0) := QX (D0 Kn) (D0 Kr) (exX 0 (D0 Ke0) noX)
noncomputable def c4 := cFst c3
abbrev Q2 (Kn : T2) (Ke0 Kr : T0) := QX (D2 Kn) (D0 Kr) (exX 0 (D0 Ke0) noX)
def n3_L (Kn Ke0 Kr : T0) : Nat → T2
  | 0 => fun _ _ _ => False
  | N + 1 => fun x0 x2 h => vSome x0 fun a4 => ∃ s5b s5n s5c, cell h (a4.add 2) = some (.slice s5b s5n s5c) ∧ (Spl (x2 < (s5n : Int)) (vSome x0 fun a6 => ∃ s7b s7n s7c, cell h (a6.add 2) = some (.slice s7b s7n s7c) ∧ ((0 ≤ x2 ∧ x2 < (s7n : Int)) ∧ (vSome s7b fun a8 => ∃ i9, cell h (((a8.add (Int.toNat x2 * 3))).add 0) = some (.int .i64 i9) ∧ (∃ s10, cell h (((a8.add (Int.toNat x2 * 3))).add 1) = some (S s10) ∧ (∃ s11b s11n s11c, cell h (((a8.add (Int.toNat x2 * 3))).add 2) = some (.slice s11b s11n s11c) ∧ (newx h ⟨[(.int .i64 (0 : Int)), (S ([] : List UInt8)), (.slice none 0 0)]⟩ 39 fun a12 h13 => stL a12 [(.int .i64 i9), (S s10), (.slice s11b s11n s11c)] 0 h13 fun h14 => ∃ s15, cell h14 (a12.add 1) = some (S s15) ∧ (∃ s16b s16n s16c, cell h14 (a12.add 2) = some (.slice s16b s16n s16c) ∧ (HCalls Tryz.prog 9 ⟨[(.pointer x0), (.int .u8 (0 : Int)), (.agg ⟨[(.int .u8 (0 : Int)), (S s15), (.slice s16b s16n s16c), (.bool false), (S ([] : List UInt8))]⟩)]⟩ h14 fun v17 h18 => vInt .i64 v17 fun i19 => stL (a12.add 0) [(.int .i64 i19)] 0 h18 fun h20 => vSome x0 fun a21 => ∃ s22b s22n s22c, cell h20 (a21.add 2) = some (.slice s22b s22n s22c) ∧ ((0 ≤ (0 : Int) ∧ (0 : Int) ≤ x2 ∧ x2 ≤ (s22c : Int)) ∧ (SemH Tryz.prog (Builtin.append_ #[40, 40] 40 ⟨[(.slice none 0 0), (.slice (if s22c = Int.toNat (0 : Int) then s22b else Option.map (fun q => q.add (Int.toNat (0 : Int) * 3)) s22b) (Int.toNat x2 - Int.toNat (0 : Int)) (s22c - Int.toNat (0 : Int)))]⟩) h20 fun v23 h24 => vSlice v23 fun s25b s25n s25c => ∃ i26, cell h24 ((a12).add 0) = some (.int .i64 i26) ∧ (∃ s27, cell h24 ((a12).add 1) = some (S s27) ∧ (∃ s28b s28n s28c, cell h24 ((a12).add 2) = some (.slice s28b s28n s28c) ∧ (newx h24 #[(.int .i64 i26), (S s27), (.slice s28b s28n s28c)] 39 fun a29 h30 => SemH Tryz.prog (Builtin.append_ #[40, 40] 40 ⟨[(.slice s25b s25n s25c), (.slice (some a29) 1 1)]⟩) h30 fun v31 h32 => vSlice v31 fun s33b s33n s33c => vSome x0 fun a34 => ∃ s35b s35n s35c, cell h32 (a34.add 2) = some (.slice s35b s35n s35c) ∧ (Rng .i64 (x2 + (1 : Int)) ∧ ((0 ≤ (x2 + (1 : Int)) ∧ (x2 + (1 : Int)) ≤ (s35n : Int) ∧ (s35n : Int) ≤ (s35c : Int)) ∧ (SemH Tryz.prog (Builtin.append_ #[40, 40] 40 ⟨[(.slice s33b s33n s33c), (.slice (if s35c = Int.toNat (x2 + (1 : Int)) then s35b else Option.map (fun q => q.add (Int.toNat (x2 + (1 : Int)) * 3)) s35b) (Int.toNat (s35n : Int) - Int.toNat (x2 + (1 : Int))) (s35c - Int.toNat (x2 + (1 : Int))))]⟩) h32 fun v36 h37 => vSlice v36 fun s38b s38n s38c => vSome x0 fun a39 => stL (a39.add 2) [(.slice s38b s38n s38c)] 0 h37 fun h40 => Rng .i64 (x2 + (1 : Int)) ∧ (n3_L Kn Ke0 Kr N x0 (x2 + (1 : Int)) h40))))))))))))))))) (Ke0 h))
abbrev n3 (Kn Ke0 Kr : T0) (h : H) : Prop :=
  ∃ N, n3_L Kn Ke0 Kr N x0 x2 h
abbrev n2 (Kn Kr : T0) (h : H) : Prop :=
  n3 x0 x2 Kn Kn Kr h
abbrev Q3 (Kn : T2) (Kr : T0) := QX (D2 Kn) (D0 Kr) noX
abbrev n1 (Kn Kr : T0) (h : H) : Prop :=
  vSome x0 fun a41 => ∃ s42b s42n s42c, cell h (a41.add 2) = some (.slice s42b s42n s42c) ∧ (vSome x0 fun a43 => ∃ s44b s44n s44c, cell h (a43.add 1) = some (.slice s44b s44n s44c) ∧ (HCalls Tryz.prog 42 ⟨[(.slice s42b s42n s42c), (.slice s44b s44n s44c)]⟩ h fun v45 h46 => vInt .i64 v45 fun i47 => n2 x0 i47 Kn Kr h46))
variable {g} {h : H} {p : Prop}
variable {x0 x2}
theorem D2_mk {K : T2} (hg : E2 g x0 x2) (hk : K x0 x2 h) : D2 K g h := by
  obtain ⟨e0, e2, d⟩ := hg
  unfold D2
  rw [e0, e2, d]
  exact hk
theorem D0_el {K : T0} (hq : D0 K g h) (f : E0 g → K  h → p) : p := nilDs_el hq fun d q => f d q
theorem D1_el {K : T1} (hq : D1 K g h) (f : ∀ {x0}, E1 g x0 → K x0 h → p) : p := nilDs_el hq fun d q => vPtr_el q fun _ e0 q => f ⟨e0, d⟩ q
theorem D2_el {K : T2} (hq : D2 K g h) (f : ∀ {x0 x2}, E2 g x0 x2 → K x0 x2 h → p) : p := nilDs_el hq fun d q => vPtr_el q fun _ e0 q => vInt_el q fun _ e2 q => f ⟨e0, e2, d⟩ q
theorem n3_ok {Kn Ke0 Kr : T0} (hg : E2 g x0 x2) (hS : n3 x0 x2 Kn Ke0 Kr h) : W c3 (Q1 Kn Ke0 Kr) g h :=
  let ⟨N, hS⟩ := hS
  loopN (x := c4) (I := fun N => D2 (n3_L Kn Ke0 Kr N)) (by kernel_rfl) (fun hq => D2_el hq fun _ hq => hq) (fun hq => D2_el hq fun hg hq => leafN (by kernel_rfl) (by kernel_rfl) hg hq (by kernel_rfl)) N (D2_mk hg hS)
theorem n2_ok {Kn Kr : T0} (hg : E2 g x0 x2) (hS : n2 x0 x2 Kn Kr h) : W c2 (Q0 Kn Kr) g h := blockN (by kernel_rfl) (n3_ok hg hS)
theorem n1_ok {Kn Kr : T0} (hg : E1 g x0) (hS : n1 x0 Kn Kr h) : W code (Q0 Kn Kr) g h :=
  seqN (x := c1) (N' := D2 (fun z0 z2 h => n2 z0 z2 Kn Kr h)) (by kernel_rfl) (leafN (by kernel_rfl) (by kernel_rfl) hg hS (by kernel_rfl)) fun hq => D2_el hq n2_ok
/-- WHAT (*tympan/tympanref13.World).Rebuild ASKS -/
abbrev asks (x0 : Option Addr) (K : Value → H → Prop) (h : H) : Prop := n1 x0 (fun h => K (.tuple ⟨[]⟩) h) (fun h => K (.tuple ⟨[]⟩) h) h
theorem ok (x0 : Option Addr) (K : Value → H → Prop) (h : H) (hS : asks x0 K h) : HCalls Tryz.prog 19 ⟨[(.pointer x0)]⟩ h K :=
  callsN (c := code) Tryz.func19 (by kernel_rfl) (by kernel_rfl) (n1_ok ⟨rfl, rfl⟩ hS) fun hq => D0_el hq fun hg hq => retN hg hq (by kernel_rfl)
end Sx.r13_World_Rebuild

/-! ### (*tympan/tympanref13.World).Drop -/
namespace Sx.r13_World_Drop
noncomputable def code : Code := bodyOf Tryz.f21
abbrev W := wpC none Tryz.prog 43
variable (g : Env) (x0 : Option Addr) (x1 : Int) (x4b : Option Addr) (x4n x4c : Nat) (x5 : Int) (x28 : Bool)
abbrev T0 := H → Prop
abbrev E0 := Held g []
def D0 (K : T0) (g : Env) (h : H) : Prop := nilDs g.ds (K h)
abbrev Q0 (Kn Kr : T0) := QX (D0 Kn) (D0 Kr) noX
abbrev T1 := (Option Addr) → Int → H → Prop
abbrev E1 := Held g [(0, .pointer x0), (1, .int .i64 x1)]
def D1 (K : T1) (g : Env) (h : H) : Prop := nilDs g.ds (vPtr (g.v 0) fun p1 => vInt .i64 (g.v 1) fun i2 => K p1 i2 h)
noncomputable def c1 := cFst code
noncomputable def c2 := cSnd code
abbrev T2 := (Option Addr) → Int → (Option Addr) → Nat → Nat → H → Prop
abbrev E2 := Held g [(0, .pointer x0), (1, .int .i64 x1), (4, .slice x4b x4n x4c)]
def D2 (K : T2) (g : Env) (h : H) : Prop := nilDs g.ds (vPtr (g.v 0) fun p3 => vInt .i64 (g.v 1) fun i4 => vSlice (g.v 4) fun s5b s5n s5c => K p3 i4 s5b s5n s5c h)
noncomputable def c3 := cFst c2
noncomputable def c4 := cSnd c2
abbrev T3 := (Option Addr) → (Option Addr) → Nat → Nat → H → Prop
abbrev E3 := Held g [(0, .pointer x0), (4, .slice x4b x4n x4c)]
def D3 (K : T3) (g : Env) (h : H) : Prop := nilDs g.ds (vPtr (g.v 0) fun p6 => vSlice (g.v 4) fun s7b s7n s7c => K p6 s7b s7n s7c h)
abbrev n3 (Kn Kr : T0) (h : H) : Prop :=
  vSome x0 fun a8 => stL (a8.add 1) [(.slice x4b x4n x4c)] 0 h fun h9 => Kn h9
abbrev Q1 (Kn : T3) (Kr : T0) := QX (D3 Kn) (D0 Kr) noX
noncomputable def c5 := cFst c3
noncomputable def c6 := cSnd c3
abbrev T4 := (Option Addr) → Int → (Option Addr) → Nat → Nat → Int → H → Prop
abbrev E4 := Held g [(0, .pointer x0), (1, .int .i64 x1), (4, .slice x4b x4n x4c), (5, .int .i64 x5)]
def D4 (K : T4) (g : Env) (h : H) : Prop := nilDs g.ds (vPtr (g.v 0) fun p10 => vInt .i64 (g.v 1) fun i11 => vSlice (g.v 4) fun s12b s12n s12c => vInt .i64 (g.v 5) fun i13 => K p10 i11 s12b s12n s12c i13 h)
noncomputable def c7 := cFst c6
abbrev Q2 (Kn Ke0 : T3) (Kr : T0) := QX (D3 Kn) (D0 Kr) (exX 0 (D3 Ke0) noX)
noncomputable def c8 := cFst c7
abbrev Q3 (Kn : T4) (Ke0 : T3) (Kr : T0) := QX (D4 Kn) (D0 Kr) (exX 0 (D3 Ke0) noX)
noncomputable def c9 := cFst c8
noncomputable def c10 := cSnd c8
noncomputable def c11 := cFst c10
noncomputable def c12 := cSnd c10
abbrev n9 (Kn : T4) (Ke0 : T3) (Kr : T0) (h : H) : Prop :=
  Rng .i64 (x5 + (1 : Int)) ∧ (Kn x0 x1 x4b x4n x4c (x5 + (1 : Int)) h)
noncomputable def c13 := cFst c11
abbrev Q4 (Kn Ke1 : T4) (Ke0 : T3) (Kr : T0) := QX (D4 Kn) (D0 Kr) (exX 1 (D4 Ke1) (exX 0 (D3 Ke0) noX))
noncomputable def c14 := cFst c13
noncomputable def c15 := cSnd c13
abbrev T5 := (Option Addr) → Int → (Option Addr) → Nat → Nat → Int → Bool → H → Prop
abbrev E5 := Held g [(0, .pointer x0), (1, .int .i64 x1), (4, .slice x4b x4n x4c), (5, .int .i64 x5), (28, .bool x28)]
def D5 (K : T5) (g : Env) (h : H) : Prop := nilDs g.ds (vPtr (g.v 0) fun p14 => vInt .i64 (g.v 1) fun i15 => vSlice (g.v 4) fun s16b s16n s16c => vInt .i64 (g.v 5) fun i17 => vBool (g.v 28) fun b18 => K p14 i15 s16b s16n s16c i17 b18 h)
abbrev n12 (Kn Ke1 : T4) (Ke0 : T3) (Kr : T0) (h : H) : Prop :=
  cond x28 (vSome x0 fun a19 => ∃ s20b s20n s20c, cell h (a19.add 1) = some (.slice s20b s20n s20c) ∧ ((0 ≤ x5 ∧ x5 < (s20n : Int)) ∧ (vSome s20b fun a21 => ∃ i22, cell h (((a21.add (Int.toNat x5 * 4))).add 0) = some (.int .i64 i22) ∧ (∃ i23, cell h (((a21.add (Int.toNat x5 * 4))).add 1) = some (.int .u8 i23) ∧ (∃ s24, cell h (((a21.add (Int.toNat x5 * 4))).add 2) = some (S s24) ∧ (∃ i25, cell h (((a21.add (Int.toNat x5 * 4))).add 3) = some (.int .u8 i25) ∧ (newx h #[(.int .i64 i22), (.int .u8 i23), (S s24), (.int .u8 i25)] 36 fun a26 h27 => SemH Tryz.prog (Builtin.append_ #[43, 43] 43 ⟨[(.slice x4b x4n x4c), (.slice (some a26) 1 1)]⟩) h27 fun v28 h29 => vSlice v28 fun s30b s30n s30c => Kn x0 x1 s30b s30n s30c x5 h29))))))) (Kn x0 x1 x4b x4n x4c x5 h)
abbrev Q5 (Kn : T5) (Ke1 : T4) (Ke0 : T3) (Kr : T0) := QX (D5 Kn) (D0 Kr) (exX 1 (D4 Ke1) (exX 0 (D3 Ke0) noX))
abbrev n11 (Kn Ke1 : T4) (Ke0 : T3) (Kr : T0) (h : H) : Prop :=
  Spl (x5 = (0 : Int)) (n12 x0 x1 x4b x4n x4c x5 true Kn Ke1 Ke0 Kr h) (vSome x0 fun a31 => ∃ s32b s32n s32c, cell h (a31.add 1) = some (.slice s32b s32n s32c) ∧ ((0 ≤ x5 ∧ x5 < (s32n : Int)) ∧ (vSome s32b fun a33 => ∃ i34, cell h ((a33.add (Int.toNat x5 * 4)).add 0) = some (.int .i64 i34) ∧ (Spl (i34 = x1) (n12 x0 x1 x4b x4n x4c x5 false Kn Ke1 Ke0 Kr h) (n12 x0 x1 x4b x4n x4c x5 true Kn Ke1 Ke0 Kr h)))))
abbrev n10 (Kn : T4) (Ke0 : T3) (Kr : T0) (h : H) : Prop :=
  n11 x0 x1 x4b x4n x4c x5 Kn Kn Ke0 Kr h
abbrev n8 (Kn : T4) (Ke0 : T3) (Kr : T0) (h : H) : Prop :=
  n10 x0 x1 x4b x4n x4c x5 (fun z0 z1 z4b z4n z4c z5 h => n9 z0 z1 z4b z4n z4c z5 Kn Ke0 Kr h) Ke0 Kr h
abbrev n7 (Kn : T4) (Ke0 : T3) (Kr : T0) (h : H) : Prop :=
  vSome x0 fun a35 => ∃ s36b s36n s36c, cell h (a35.add 1) = some (.slice s36b s36n s36c) ∧ (Spl (x5 < (s36n : Int)) (n8 x0 x1 x4b x4n x4c x5 Kn Ke0 Kr h) (Ke0 x0 x4b x4n x4c h))
def n6_L (Kn Ke0 : T3) (Kr : T0) : Nat → T4
  | 0 => fun _ _ _ _ _ _ _ => False
  | N + 1 => fun x0 x1 x4b x4n x4c x5 h => n7 x0 x1 x4b x4n x4c x5 (fun z0 z1 z4b z4n z4c z5 h => n6_L Kn Ke0 Kr N z0 z1 z4b z4n z4c z5 h) Ke0 Kr h
abbrev n6 (Kn Ke0 : T3) (Kr : T0) (h : H) : Prop :=
  ∃ N, n6_L Kn Ke0 Kr N x0 x1 x4b x4n x4c x5 h
abbrev n5 (Kn : T3) (Kr : T0) (h : H) : Prop :=
  n6 x0 x1 x4b x4n x4c x5 Kn Kn Kr h
abbrev Q6 (Kn : T4) (Kr : T0) := QX (D4 Kn) (D0 Kr) noX
abbrev n4 (Kn : T3) (Kr : T0) (h : H) : Prop :=
  n5 x0 x1 x4b x4n x4c (0 : Int) Kn Kr h
abbrev n2 (Kn Kr : T0) (h : H) : Prop :=
  n4 x0 x1 x4b x4n x4c (fun z0 z4b z4n z4c h => n3 z0 z4b z4n z4c Kn Kr h) Kr h
abbrev Q7 (Kn : T2) (Kr : T0) := QX (D2 Kn) (D0 Kr) noX
abbrev n1 (Kn Kr : T0) (h : H) : Prop :=
  n2 x0 x1 none 0 0 Kn Kr h
variable {g} {h : H} {p : Prop}
variable {x0 x1 x4b x4n x4c x5 x28}
theorem D4_mk {K : T4} (hg : E4 g x0 x1 x4b x4n x4c x5) (hk : K x0 x1 x4b x4n x4c x5 h) : D4 K g h := by
  obtain ⟨e0, e1, e4, e5, d⟩ := hg
  unfold D4
  rw [e0, e1, e4, e5, d]
  exact hk
theorem D0_el {K : T0} (hq : D0 K g h) (f : E0 g → K  h → p) : p := nilDs_el hq fun d q => f d q
theorem D1_el {K : T1} (hq : D1 K g h) (f : ∀ {x0 x1}, E1 g x0 x1 → K x0 x1 h → p) : p := nilDs_el hq fun d q => vPtr_el q fun _ e0 q => vInt_el q fun _ e1 q => f ⟨e0, e1, d⟩ q
theorem D2_el {K : T2} (hq : D2 K g h) (f : ∀ {x0 x1 x4b x4n x4c}, E2 g x0 x1 x4b x4n x4c → K x0 x1 x4b x4n x4c h → p) : p := nilDs_el hq fun d q => vPtr_el q fun _ e0 q => vInt_el q fun _ e1 q => vSlice_el q fun _ _ _ e4 q => f ⟨e0, e1, e4, d⟩ q
theorem D3_el {K : T3} (hq : D3 K g h) (f : ∀ {x0 x4b x4n x4c}, E3 g x0 x4b x4n x4c → K x0 x4b x4n x4c h → p) : p := nilDs_el hq fun d q => vPtr_el q fun _ e0 q => vSlice_el q fun _ _ _ e4 q => f ⟨e0, e4, d⟩ q
theorem n3_ok {Kn Kr : T0} (hg : E3 g x0 x4b x4n x4c) (hS : n3 x0 x4b x4n x4c Kn Kr h) : W c4 (Q0 Kn Kr) g h :=
  leafN (by kernel_rfl) (by kernel_rfl) hg hS (by kernel_rfl)
theorem D4_el {K : T4} (hq : D4 K g h) (f : ∀ {x0 x1 x4b x4n x4c x5}, E4 g x0 x1 x4b x4n x4c x5 → K x0 x1 x4b x4n x4c x5 h → p) : p := nilDs_el hq fun d q => vPtr_el q fun _ e0 q => vInt_el q fun _ e1 q => vSlice_el q fun _ _ _ e4 q => vInt_el q fun _ e5 q => f ⟨e0, e1, e4, e5, d⟩ q
theorem n9_ok {Kn : T4} {Ke0 : T3} {Kr : T0} (hg : E4 g x0 x1 x4b x4n x4c x5) (hS : n9 x0 x1 x4b x4n x4c x5 Kn Ke0 Kr h) : W c12 (Q3 Kn Ke0 Kr) g h :=
  leafN (by kernel_rfl) (by kernel_rfl) hg hS (by kernel_rfl)
theorem D5_el {K : T5} (hq : D5 K g h) (f : ∀ {x0 x1 x4b x4n x4c x5 x28}, E5 g x0 x1 x4b x4n x4c x5 x28 → K x0 x1 x4b x4n x4c x5 x28 h → p) : p := nilDs_el hq fun d q => vPtr_el q fun _ e0 q => vInt_el q fun _ e1 q => vSlice_el q fun _ _ _ e4 q => vInt_el q fun _ e5 q => vBool_el q fun _ e28 q => f ⟨e0, e1, e4, e5, e28, d⟩ q
theorem n12_ok {Kn Ke1 : T4} {Ke0 : T3} {Kr : T0} (hg : E5 g x0 x1 x4b x4n x4c x5 x28) (hS : n12 x0 x1 x4b x4n x4c x5 x28 Kn Ke1 Ke0 Kr h) : W c15 (Q4 Kn Ke1 Ke0 Kr) g h :=
  leafN (by kernel_rfl) (by kernel_rfl) hg hS (by kernel_rfl)
theorem n11_ok {Kn Ke1 : T4} {Ke0 : T3} {Kr : T0} (hg : E4 g x0 x1 x4b x4n x4c x5) (hS : n11 x0 x1 x4b x4n x4c x5 Kn Ke1 Ke0 Kr h) : W c13 (Q4 Kn Ke1 Ke0 Kr) g h :=
  seqN (x := c14) (N' := D5 (fun z0 z1 z4b z4n z4c z5 z28 h => n12 z0 z1 z4b z4n z4c z5 z28 Kn Ke1 Ke0 Kr h)) (by kernel_rfl) (leafN (by kernel_rfl) (by kernel_rfl) hg hS (by kernel_rfl)) fun hq => D5_el hq n12_ok
theorem n10_ok {Kn : T4} {Ke0 : T3} {Kr : T0} (hg : E4 g x0 x1 x4b x4n x4c x5) (hS : n10 x0 x1 x4b x4n x4c x5 Kn Ke0 Kr h) : W c11 (Q3 Kn Ke0 Kr) g h := blockN (by kernel_rfl) (n11_ok hg hS)
theorem n8_ok {Kn : T4} {Ke0 : T3} {Kr : T0} (hg : E4 g x0 x1 x4b x4n x4c x5) (hS : n8 x0 x1 x4b x4n x4c x5 Kn Ke0 Kr h) : W c10 (Q3 Kn Ke0 Kr) g h :=
  seqN (by kernel_rfl) (n10_ok hg hS) fun hq => D4_el hq n9_ok
theorem n7_ok {Kn : T4} {Ke0 : T3} {Kr : T0} (hg : E4 g x0 x1 x4b x4n x4c x5) (hS : n7 x0 x1 x4b x4n x4c x5 Kn Ke0 Kr h) : W c8 (Q3 Kn Ke0 Kr) g h :=
  seqN (x := c9) (N' := D4 (fun z0 z1 z4b z4n z4c z5 h => n8 z0 z1 z4b z4n z4c z5 Kn Ke0 Kr h)) (by kernel_rfl) (leafN (by kernel_rfl) (by kernel_rfl) hg hS (by kernel_rfl)) fun hq => D4_el hq n8_ok
theorem n6_ok {Kn Ke0 : T3} {Kr : T0} (hg : E4 g x0 x1 x4b x4n x4c x5) (hS : n6 x0 x1 x4b x4n x4c x5 Kn Ke0 Kr h) : W c7 (Q2 Kn Ke0 Kr) g h :=
  let ⟨N, hS⟩ := hS
  loopN (x := c8) (I := fun N => D4 (n6_L Kn Ke0 Kr N)) (by kernel_rfl) (fun hq => D4_el hq fun _ hq => hq) (fun hq => D4_el hq fun hg hq => n7_ok hg hq) N (D4_mk hg hS)
theorem n5_ok {Kn : T3} {Kr : T0} (hg : E4 g x0 x1 x4b x4n x4c x5) (hS : n5 x0 x1 x4b x4n x4c x5 Kn Kr h) : W c6 (Q1 Kn Kr) g h := blockN (by kernel_rfl) (n6_ok hg hS)
theorem n4_ok {Kn : T3} {Kr : T0} (hg : E2 g x0 x1 x4b x4n x4c) (hS : n4 x0 x1 x4b x4n x4c Kn Kr h) : W c3 (Q1 Kn Kr) g h :=
  seqN (x := c5) (N' := D4 (fun z0 z1 z4b z4n z4c z5 h => n5 z0 z1 z4b z4n z4c z5 Kn Kr h)) (by kernel_rfl) (leafN (by kernel_rfl) (by kernel_rfl) hg hS (by kernel_rfl)) fun hq => D4_el hq n5_ok
theorem n2_ok {Kn Kr : T0} (hg : E2 g x0 x1 x4b x4n x4c) (hS : n2 x0 x1 x4b x4n x4c Kn Kr h) : W c2 (Q0 Kn Kr) g h :=
  seqN (by kernel_rfl) (n4_ok hg hS) fun hq => D3_el hq n3_ok
theorem n1_ok {Kn Kr : T0} (hg : E1 g x0 x1) (hS : n1 x0 x1 Kn Kr h) : W code (Q0 Kn Kr) g h :=
  seqN (x := c1) (N' := D2 (fun z0 z1 z4b z4n z4c h => n2 z0 z1 z4b z4n z4c Kn Kr h)) (by kernel_rfl) (leafN (by kernel_rfl) (by kernel_rfl) hg hS (by kernel_rfl)) fun hq => D2_el hq n2_ok
/-- WHAT (*tympan/tympanref13.World).Drop ASKS -/
abbrev asks (x0 : Option Addr) (x1 : Int) (K : Value → H → Prop) (h : H) : Prop := n1 x0 x1 (fun h => K (.tuple ⟨[]⟩) h) (fun h => K (.tuple ⟨[]⟩) h) h
theorem ok (x0 : Option Addr) (x1 : Int) (K : Value → H → Prop) (h : H) (hS : asks x0 x1 K h) : HCalls Tryz.prog 21 ⟨[(.pointer x0), (.int .i64 x1)]⟩ h K :=
  callsN (c := code) Tryz.func21 (by kernel_rfl) (by kernel_rfl) (n1_ok ⟨rfl, rfl, rfl⟩ hS) fun hq => D0_el hq fun hg hq => retN hg hq (by kernel_rfl)
end Sx.r13_World_Drop

/-! ### tympan/tympanlaw13.PlaceDoes -/
namespace Sx.l13_PlaceDoes
noncomputable def code : Code := bodyOf Tryz.f3
abbrev W := wpC none Tryz.prog 189
variable (g : Env) (x0b : Option Addr) (x0n x0c : Nat) (x2 : Bool) (x3 x4 : Option Addr) (x5 : Int) (x6 : Addr) (x7 x35 : Int) (x37 x72 x91 x120 x132 x144 x154 x160 : Bool)
abbrev T0 := Bool → H → Prop
abbrev E0 := Held g [(2, .bool x2)]
def D0 (K : T0) (g : Env) (h : H) : Prop := nilDs g.ds (vBool (g.v 2) fun b1 => K b1 h)
abbrev Q0 (Kn Kr : T0) := QX (D0 Kn) (D0 Kr) noX
abbrev T1 := (Option Addr) → Nat → Nat → H → Prop
abbrev E1 := Held g [(0, .slice x0b x0n x0c)]
def D1 (K : T1) (g : Env) (h : H) : Prop := nilDs g.ds (vSlice (g.v 0) fun s2b s2n s2c => K s2b s2n s2c h)
noncomputable def c1 := cFst code
noncomputable def c2 := cSnd code
noncomputable def c3 := cFst c2
noncomputable def c4 := cSnd c2
noncomputable def c5 := cFst c4
noncomputable def c6 := cSnd c4
abbrev T2 := (Option Addr) → Nat → Nat → (Option Addr) → H → Prop
abbrev E2 := Held g [(0, .slice x0b x0n x0c), (3, .pointer x3)]
def D2 (K : T2) (g : Env) (h : H) : Prop := nilDs g.ds (vSlice (g.v 0) fun s3b s3n s3c => vPtr (g.v 3) fun p4 => K s3b s3n s3c p4 h)
noncomputable def c7 := cFst c6
noncomputable def c8 := cSnd c6
abbrev T3 := (Option Addr) → Nat → Nat → (Option Addr) → (Option Addr) → H → Prop
abbrev E3 := Held g [(0, .slice x0b x0n x0c), (3, .pointer x3), (4, .pointer x4)]
def D3 (K : T3) (g : Env) (h : H) : Prop := nilDs g.ds (vSlice (g.v 0) fun s5b s5n s5c => vPtr (g.v 3) fun p6 => vPtr (g.v 4) fun p7 => K s5b s5n s5c p6 p7 h)
noncomputable def c9 := cFst c8
noncomputable def c10 := cSnd c8
abbrev T4 := H → Prop
abbrev E4 := Held g []
def D4 (K : T4) (g : Env) (h : H) : Prop := nilDs g.ds (K h)
abbrev n6 (Kn Kr : T0) (h : H) : Prop :=
  Kr true h
abbrev Q1 (Kn : T4) (Kr : T0) := QX (D4 Kn) (D0 Kr) noX
noncomputable def c11 := cFst c9
noncomputable def c12 := cSnd c9
abbrev T5 := (Option Addr) → Nat → Nat → (Option Addr) → (Option Addr) → Int → H → Prop
abbrev E5 := Held g [(0, .slice x0b x0n x0c), (3, .pointer x3), (4, .pointer x4), (5, .int .i64 x5)]
def D5 (K : T5) (g : Env) (h : H) : Prop := nilDs g.ds (vSlice (g.v 0) fun s8b s8n s8c => vPtr (g.v 3) fun p9 => vPtr (g.v 4) fun p10 => vInt .i64 (g.v 5) fun i11 => K s8b s8n s8c p9 p10 i11 h)
noncomputable def c13 := cFst c12
abbrev Q2 (Kn Ke0 : T4) (Kr : T0) := QX (D4 Kn) (D0 Kr) (exX 0 (D4 Ke0) noX)
noncomputable def c14 := cFst c13
abbrev Q3 (Kn : T5) (Ke0 : T4) (Kr : T0) := QX (D5 Kn) (D0 Kr) (exX 0 (D4 Ke0) noX)
noncomputable def c15 := cFst c14
noncomputable def c16 := cSnd c14
noncomputable def c17 := cFst c16
noncomputable def c18 := cSnd c16
abbrev n12 (Kn : T5) (Ke0 : T4) (Kr : T0) (h : H) : Prop :=
  Rng .i64 (x5 + (1 : Int)) ∧ (Kn x0b x0n x0c x3 x4 (x5 + (1 : Int)) h)
noncomputable def c19 := cFst c17
abbrev Q4 (Kn Ke1 : T5) (Ke0 : T4) (Kr : T0) := QX (D5 Kn) (D0 Kr) (exX 1 (D5 Ke1) (exX 0 (D4 Ke0) noX))
noncomputable def c20 := cFst c19
noncomputable def c21 := cSnd c19
abbrev T6 := (Option Addr) → Nat → Nat → (Option Addr) → (Option Addr) → Int → Addr → H → Prop
abbrev E6 := Held g [(0, .slice x0b x0n x0c), (3, .pointer x3), (4, .pointer x4), (5, .int .i64 x5), (6, .pointer (some x6))]
def D6 (K : T6) (g : Env) (h : H) : Prop := nilDs g.ds (vSlice (g.v 0) fun s12b s12n s12c => vPtr (g.v 3) fun p13 => vPtr (g.v 4) fun p14 => vInt .i64 (g.v 5) fun i15 => vAddr (g.v 6) fun a16 => K s12b s12n s12c p13 p14 i15 a16 h)
noncomputable def c22 := cFst c21
noncomputable def c23 := cSnd c21
abbrev T7 := (Option Addr) → Nat → Nat → (Option Addr) → (Option Addr) → Int → Addr → Int → H → Prop
abbrev E7 := Held g [(0, .slice x0b x0n x0c), (3, .pointer x3), (4, .pointer x4), (5, .int .i64 x5), (6, .pointer (some x6)), (7, .int .u8 x7)]
def D7 (K : T7) (g : Env) (h : H) : Prop := nilDs g.ds (vSlice (g.v 0) fun s17b s17n s17c => vPtr (g.v 3) fun p18 => vPtr (g.v 4) fun p19 => vInt .i64 (g.v 5) fun i20 => vAddr (g.v 6) fun a21 => vInt .u8 (g.v 7) fun i22 => K s17b s17n s17c p18 p19 i20 a21 i22 h)
noncomputable def c24 := cFst c23
noncomputable def c25 := cSnd c23
abbrev n17 (Kn Ke1 : T5) (Ke0 : T4) (Kr : T0) (h : H) : Prop :=
  HCalls Tryz.prog 22 ⟨[(.pointer x3), (.pointer x4)]⟩ h fun v23 h24 => vBool v23 fun b25 => cond b25 (Kn x0b x0n x0c x3 x4 x5 h24) (Kr false h24)
noncomputable def c26 := cFst c24
noncomputable def c27 := cSnd c24
abbrev T8 := (Option Addr) → Nat → Nat → (Option Addr) → (Option Addr) → Int → Addr → Int → Int → H → Prop
abbrev E8 := Held g [(0, .slice x0b x0n x0c), (3, .pointer x3), (4, .pointer x4), (5, .int .i64 x5), (6, .pointer (some x6)), (7, .int .u8 x7), (35, .int .u8 x35)]
def D8 (K : T8) (g : Env) (h : H) : Prop := nilDs g.ds (vSlice (g.v 0) fun s26b s26n s26c => vPtr (g.v 3) fun p27 => vPtr (g.v 4) fun p28 => vInt .i64 (g.v 5) fun i29 => vAddr (g.v 6) fun a30 => vInt .u8 (g.v 7) fun i31 => vInt .u8 (g.v 35) fun i32 => K s26b s26n s26c p27 p28 i29 a30 i31 i32 h)
noncomputable def c28 := cFst c27
abbrev Q5 (Kn Ke2 Ke1 : T5) (Ke0 : T4) (Kr : T0) := QX (D5 Kn) (D0 Kr) (exX 2 (D5 Ke2) (exX 1 (D5 Ke1) (exX 0 (D4 Ke0) noX)))
noncomputable def c29 := cFst c28
noncomputable def c30 := cSnd c28
abbrev T9 := (Option Addr) → Nat → Nat → (Option Addr) → (Option Addr) → Int → Addr → Int → Int → Bool → H → Prop
abbrev E9 := Held g [(0, .slice x0b x0n x0c), (3, .pointer x3), (4, .pointer x4), (5, .int .i64 x5), (6, .pointer (some x6)), (7, .int .u8 x7), (35, .int .u8 x35), (72, .bool x72)]
def D9 (K : T9) (g : Env) (h : H) : Prop := nilDs g.ds (vSlice (g.v 0) fun s33b s33n s33c => vPtr (g.v 3) fun p34 => vPtr (g.v 4) fun p35 => vInt .i64 (g.v 5) fun i36 => vAddr (g.v 6) fun a37 => vInt .u8 (g.v 7) fun i38 => vInt .u8 (g.v 35) fun i39 => vBool (g.v 72) fun b40 => K s33b s33n s33c p34 p35 i36 a37 i38 i39 b40 h)
noncomputable def c31 := cFst c30
noncomputable def c32 := cSnd c30
noncomputable def c33 := cFst c31
noncomputable def c34 := cSnd c31
noncomputable def c35 := cFst c34
noncomputable def c36 := cSnd c34
abbrev T10 := (Option Addr) → Nat → Nat → (Option Addr) → (Option Addr) → Int → Addr → Bool → H → Prop
abbrev E10 := Held g [(0, .slice x0b x0n x0c), (3, .pointer x3), (4, .pointer x4), (5, .int .i64 x5), (6, .pointer (some x6)), (91, .bool x91)]
def D10 (K : T10) (g : Env) (h : H) : Prop := nilDs g.ds (vSlice (g.v 0) fun s41b s41n s41c => vPtr (g.v 3) fun p42 => vPtr (g.v 4) fun p43 => vInt .i64 (g.v 5) fun i44 => vAddr (g.v 6) fun a45 => vBool (g.v 91) fun b46 => K s41b s41n s41c p42 p43 i44 a45 b46 h)
abbrev n24 (Kn Ke2 Ke1 : T5) (Ke0 : T4) (Kr : T0) (h : H) : Prop :=
  cond x91 ((∃ s47, cell h ((x6.add 2).add 1) = some (S s47) ∧ (∃ s48b s48n s48c, cell h ((x6.add 2).add 2) = some (.slice s48b s48n s48c) ∧ (HCalls Tryz.prog 10 ⟨[(.pointer x4)]⟩ h fun v49 h50 => vAgg v49 fun l51 => uncons l51 fun e52 l53 => vInt .i64 e52 fun i54 => uncons l53 fun e55 l56 => vInt .u8 e55 fun i57 => uncons l56 fun e58 l59 => vStr e58 fun s60 => uncons l59 fun e61 l62 => vInt .u8 e61 fun i63 => unnil l62 (ExtH h h50 ∧ (newx h50 ⟨[(.int .i64 (0 : Int)), (S ([] : List UInt8)), (.slice none 0 0)]⟩ 39 fun a64 h65 => ExtH h50 h65 ∧ (stL a64 [(.int .i64 i54), (S s47), (.slice s48b s48n s48c)] 0 h65 fun h66 => vSome x4 fun a67 => ∃ s68b s68n s68c, cell h66 (a67.add 2) = some (.slice s68b s68n s68c) ∧ (∃ i69, cell h66 ((a64).add 0) = some (.int .i64 i69) ∧ (∃ s70, cell h66 ((a64).add 1) = some (S s70) ∧ (∃ s71b s71n s71c, cell h66 ((a64).add 2) = some (.slice s71b s71n s71c) ∧ (HCalls Tryz.prog 11 ⟨[(.slice s68b s68n s68c), (.agg ⟨[(.int .i64 i69), (S s70), (.slice s71b s71n s71c)]⟩)]⟩ h66 fun v72 h73 => vSlice v72 fun s74b s74n s74c => vSome x3 fun a75 => stL (a75.add 2) [(.slice s74b s74n s74c)] 0 h73 fun h76 => vSome x4 fun a77 => ∃ s78b s78n s78c, cell h76 (a77.add 2) = some (.slice s78b s78n s78c) ∧ (∃ i79, cell h76 ((a64).add 0) = some (.int .i64 i79) ∧ (∃ s80, cell h76 ((a64).add 1) = some (S s80) ∧ (∃ s81b s81n s81c, cell h76 ((a64).add 2) = some (.slice s81b s81n s81c) ∧ (HCalls Tryz.prog 11 ⟨[(.slice s78b s78n s78c), (.agg ⟨[(.int .i64 i79), (S s80), (.slice s81b s81n s81c)]⟩)]⟩ h76 fun v82 h83 => vSlice v82 fun s84b s84n s84c => vSome x4 fun a85 => stL (a85.add 2) [(.slice s84b s84n s84c)] 0 h83 fun h86 => Kn x0b x0n x0c x3 x4 x5 h86)))))))))))))) ∧ (∃ s87, cell h ((x6.add 2).add 1) = some (S s87) ∧ (∃ s88b s88n s88c, cell h ((x6.add 2).add 2) = some (.slice s88b s88n s88c) ∧ (newx h ⟨[(.int .i64 (0 : Int)), (S ([] : List UInt8)), (.slice none 0 0)]⟩ 39 fun a89 h90 => ExtH h h90 ∧ (HCalls Tryz.prog 10 ⟨[(.pointer x4)]⟩ h90 fun v91 h92 => vAgg v91 fun l93 => uncons l93 fun e94 l95 => vInt .i64 e94 fun i96 => uncons l95 fun e97 l98 => vInt .u8 e97 fun i99 => uncons l98 fun e100 l101 => vStr e100 fun s102 => uncons l101 fun e103 l104 => vInt .u8 e103 fun i105 => unnil l104 (ExtH h90 h92 ∧ (stL a89 [(.int .i64 i96), (S s87), (.slice s88b s88n s88c)] 0 h92 fun h106 => vSome x4 fun a107 => ∃ s108b s108n s108c, cell h106 (a107.add 2) = some (.slice s108b s108n s108c) ∧ (∃ i109, cell h106 ((a89).add 0) = some (.int .i64 i109) ∧ (∃ s110, cell h106 ((a89).add 1) = some (S s110) ∧ (∃ s111b s111n s111c, cell h106 ((a89).add 2) = some (.slice s111b s111n s111c) ∧ (HCalls Tryz.prog 11 ⟨[(.slice s108b s108n s108c), (.agg ⟨[(.int .i64 i109), (S s110), (.slice s111b s111n s111c)]⟩)]⟩ h106 fun v112 h113 => vSlice v112 fun s114b s114n s114c => vSome x3 fun a115 => stL (a115.add 2) [(.slice s114b s114n s114c)] 0 h113 fun h116 => vSome x4 fun a117 => ∃ s118b s118n s118c, cell h116 (a117.add 2) = some (.slice s118b s118n s118c) ∧ (∃ i119, cell h116 ((a89).add 0) = some (.int .i64 i119) ∧ (∃ s120, cell h116 ((a89).add 1) = some (S s120) ∧ (∃ s121b s121n s121c, cell h116 ((a89).add 2) = some (.slice s121b s121n s121c) ∧ (HCalls Tryz.prog 11 ⟨[(.slice s118b s118n s118c), (.agg ⟨[(.int .i64 i119), (S s120), (.slice s121b s121n s121c)]⟩)]⟩ h116 fun v122 h123 => vSlice v122 fun s124b s124n s124c => vSome x4 fun a125 => stL (a125.add 2) [(.slice s124b s124n s124c)] 0 h123 fun h126 => Kn x0b x0n x0c x3 x4 x5 h126))))))))))))))) (Kn x0b x0n x0c x3 x4 x5 h)
abbrev Q6 (Kn : T10) (Ke2 Ke1 : T5) (Ke0 : T4) (Kr : T0) := QX (D10 Kn) (D0 Kr) (exX 2 (D5 Ke2) (exX 1 (D5 Ke1) (exX 0 (D4 Ke0) noX)))
abbrev n23 (Kn Ke2 Ke1 : T5) (Ke0 : T4) (Kr : T0) (h : H) : Prop :=
  ∃ i127, cell h (x6.add 0) = some (.int .u8 i127) ∧ ((10 : Int) ≠ 0 ∧ (Spl ((Int.tmod i127 (10 : Int)) = (3 : Int)) (n24 x0b x0n x0c x3 x4 x5 x6 true Kn Ke2 Ke1 Ke0 Kr h) (n24 x0b x0n x0c x3 x4 x5 x6 false Kn Ke2 Ke1 Ke0 Kr h)))
abbrev Q7 (Kn : T6) (Ke2 Ke1 : T5) (Ke0 : T4) (Kr : T0) := QX (D6 Kn) (D0 Kr) (exX 2 (D5 Ke2) (exX 1 (D5 Ke1) (exX 0 (D4 Ke0) noX)))
abbrev n22 (Kn Ke2 Ke1 : T5) (Ke0 : T4) (Kr : T0) (h : H) : Prop :=
  (∃ i128, cell h (((x6.add 2)).add 0) = some (.int .u8 i128) ∧ (∃ s129, cell h (((x6.add 2)).add 1) = some (S s129) ∧ (∃ s130b s130n s130c, cell h (((x6.add 2)).add 2) = some (.slice s130b s130n s130c) ∧ (∃ b131, cell h (((x6.add 2)).add 3) = some (.bool b131) ∧ (∃ s132, cell h (((x6.add 2)).add 4) = some (S s132) ∧ (HCalls Tryz.prog 8 ⟨[(.pointer x3), (.int .u8 x7), (.agg ⟨[(.int .u8 i128), (S s129), (.slice s130b s130n s130c), (.bool b131), (S s132)]⟩)]⟩ h fun v133 h134 => vInt .i64 v133 fun i135 => ∃ i136, cell h134 (((x6.add 2)).add 0) = some (.int .u8 i136) ∧ (∃ s137, cell h134 (((x6.add 2)).add 1) = some (S s137) ∧ (∃ s138b s138n s138c, cell h134 (((x6.add 2)).add 2) = some (.slice s138b s138n s138c) ∧ (∃ b139, cell h134 (((x6.add 2)).add 3) = some (.bool b139) ∧ (∃ s140, cell h134 (((x6.add 2)).add 4) = some (S s140) ∧ (HCalls Tryz.prog 9 ⟨[(.pointer x4), (.int .u8 x7), (.agg ⟨[(.int .u8 i136), (S s137), (.slice s138b s138n s138c), (.bool b139), (S s140)]⟩)]⟩ h134 fun v141 h142 => vInt .i64 v141 fun i143 => Spl (i135 = i143) (n23 x0b x0n x0c x3 x4 x5 x6 Kn Ke2 Ke1 Ke0 Kr h142) (Kr false h142)))))))))))) ∧ (∃ i144, cell h (((x6.add 2)).add 0) = some (.int .u8 i144) ∧ (∃ s145, cell h (((x6.add 2)).add 1) = some (S s145) ∧ (∃ s146b s146n s146c, cell h (((x6.add 2)).add 2) = some (.slice s146b s146n s146c) ∧ (∃ b147, cell h (((x6.add 2)).add 3) = some (.bool b147) ∧ (∃ s148, cell h (((x6.add 2)).add 4) = some (S s148) ∧ (∃ i149, cell h (((x6.add 2)).add 0) = some (.int .u8 i149) ∧ (∃ s150, cell h (((x6.add 2)).add 1) = some (S s150) ∧ (∃ s151b s151n s151c, cell h (((x6.add 2)).add 2) = some (.slice s151b s151n s151c) ∧ (∃ b152, cell h (((x6.add 2)).add 3) = some (.bool b152) ∧ (∃ s153, cell h (((x6.add 2)).add 4) = some (S s153) ∧ (HCalls Tryz.prog 8 ⟨[(.pointer x3), (.int .u8 x7), (.agg ⟨[(.int .u8 i144), (S s145), (.slice s146b s146n s146c), (.bool b147), (S s148)]⟩)]⟩ h fun v154 h155 => vInt .i64 v154 fun i156 => HCalls Tryz.prog 9 ⟨[(.pointer x4), (.int .u8 x7), (.agg ⟨[(.int .u8 i149), (S s150), (.slice s151b s151n s151c), (.bool b152), (S s153)]⟩)]⟩ h155 fun v157 h158 => vInt .i64 v157 fun i159 => Spl (i156 = i159) (n23 x0b x0n x0c x3 x4 x5 x6 Kn Ke2 Ke1 Ke0 Kr h158) (Kr false h158))))))))))))
abbrev T11 := (Option Addr) → Nat → Nat → (Option Addr) → (Option Addr) → Int → Addr → Int → H → Prop
abbrev E11 := Held g [(0, .slice x0b x0n x0c), (3, .pointer x3), (4, .pointer x4), (5, .int .i64 x5), (6, .pointer (some x6)), (35, .int .u8 x35)]
def D11 (K : T11) (g : Env) (h : H) : Prop := nilDs g.ds (vSlice (g.v 0) fun s160b s160n s160c => vPtr (g.v 3) fun p161 => vPtr (g.v 4) fun p162 => vInt .i64 (g.v 5) fun i163 => vAddr (g.v 6) fun a164 => vInt .u8 (g.v 35) fun i165 => K s160b s160n s160c p161 p162 i163 a164 i165 h)
noncomputable def c37 := cFst c32
noncomputable def c38 := cSnd c32
abbrev T12 := (Option Addr) → Nat → Nat → (Option Addr) → (Option Addr) → Int → Addr → Int → Bool → H → Prop
abbrev E12 := Held g [(0, .slice x0b x0n x0c), (3, .pointer x3), (4, .pointer x4), (5, .int .i64 x5), (6, .pointer (some x6)), (35, .int .u8 x35), (120, .bool x120)]
def D12 (K : T12) (g : Env) (h : H) : Prop := nilDs g.ds (vSlice (g.v 0) fun s166b s166n s166c => vPtr (g.v 3) fun p167 => vPtr (g.v 4) fun p168 => vInt .i64 (g.v 5) fun i169 => vAddr (g.v 6) fun a170 => vInt .u8 (g.v 35) fun i171 => vBool (g.v 120) fun b172 => K s166b s166n s166c p167 p168 i169 a170 i171 b172 h)
noncomputable def c39 := cFst c38
noncomputable def c40 := cSnd c38
abbrev n27 (Kn Ke2 Ke1 : T5) (Ke0 : T4) (Kr : T0) (h : H) : Prop :=
  ∃ s173, cell h ((x6.add 2).add 4) = some (S s173) ∧ (HCalls Tryz.prog 12 ⟨[(.pointer x3), (S s173)]⟩ h fun v174 h175 => ∃ s176, cell h175 ((x6.add 2).add 4) = some (S s176) ∧ (HCalls Tryz.prog 13 ⟨[(.pointer x4), (S s176)]⟩ h175 fun v177 h178 => Kn x0b x0n x0c x3 x4 x5 h178))
noncomputable def c41 := cFst c40
noncomputable def c42 := cSnd c40
abbrev T13 := (Option Addr) → Nat → Nat → (Option Addr) → (Option Addr) → Int → Addr → Int → Bool → H → Prop
abbrev E13 := Held g [(0, .slice x0b x0n x0c), (3, .pointer x3), (4, .pointer x4), (5, .int .i64 x5), (6, .pointer (some x6)), (35, .int .u8 x35), (132, .bool x132)]
def D13 (K : T13) (g : Env) (h : H) : Prop := nilDs g.ds (vSlice (g.v 0) fun s179b s179n s179c => vPtr (g.v 3) fun p180 => vPtr (g.v 4) fun p181 => vInt .i64 (g.v 5) fun i182 => vAddr (g.v 6) fun a183 => vInt .u8 (g.v 35) fun i184 => vBool (g.v 132) fun b185 => K s179b s179n s179c p180 p181 i182 a183 i184 b185 h)
noncomputable def c43 := cFst c42
noncomputable def c44 := cSnd c42
abbrev n30 (Kn Ke2 Ke1 : T5) (Ke0 : T4) (Kr : T0) (h : H) : Prop :=
  ∃ s186, cell h ((x6.add 2).add 4) = some (S s186) ∧ (HCalls Tryz.prog 14 ⟨[(.pointer x3), (S s186)]⟩ h fun v187 h188 => ∃ s189, cell h188 ((x6.add 2).add 4) = some (S s189) ∧ (HCalls Tryz.prog 15 ⟨[(.pointer x4), (S s189)]⟩ h188 fun v190 h191 => Kn x0b x0n x0c x3 x4 x5 h191))
noncomputable def c45 := cFst c44
noncomputable def c46 := cSnd c44
abbrev T14 := (Option Addr) → Nat → Nat → (Option Addr) → (Option Addr) → Int → Addr → Int → Bool → H → Prop
abbrev E14 := Held g [(0, .slice x0b x0n x0c), (3, .pointer x3), (4, .pointer x4), (5, .int .i64 x5), (6, .pointer (some x6)), (35, .int .u8 x35), (144, .bool x144)]
def D14 (K : T14) (g : Env) (h : H) : Prop := nilDs g.ds (vSlice (g.v 0) fun s192b s192n s192c => vPtr (g.v 3) fun p193 => vPtr (g.v 4) fun p194 => vInt .i64 (g.v 5) fun i195 => vAddr (g.v 6) fun a196 => vInt .u8 (g.v 35) fun i197 => vBool (g.v 144) fun b198 => K s192b s192n s192c p193 p194 i195 a196 i197 b198 h)
noncomputable def c47 := cFst c46
noncomputable def c48 := cSnd c46
abbrev n33 (Kn Ke2 Ke1 : T5) (Ke0 : T4) (Kr : T0) (h : H) : Prop :=
  ∃ i199, cell h (x6.add 7) = some (.int .i64 i199) ∧ (HCalls Tryz.prog 16 ⟨[(.pointer x3), (.int .i64 i199)]⟩ h fun v200 h201 => ∃ i202, cell h201 (x6.add 7) = some (.int .i64 i202) ∧ (HCalls Tryz.prog 17 ⟨[(.pointer x4), (.int .i64 i202)]⟩ h201 fun v203 h204 => Kn x0b x0n x0c x3 x4 x5 h204))
noncomputable def c49 := cFst c48
noncomputable def c50 := cSnd c48
abbrev T15 := (Option Addr) → Nat → Nat → (Option Addr) → (Option Addr) → Int → Addr → Int → Bool → H → Prop
abbrev E15 := Held g [(0, .slice x0b x0n x0c), (3, .pointer x3), (4, .pointer x4), (5, .int .i64 x5), (6, .pointer (some x6)), (35, .int .u8 x35), (154, .bool x154)]
def D15 (K : T15) (g : Env) (h : H) : Prop := nilDs g.ds (vSlice (g.v 0) fun s205b s205n s205c => vPtr (g.v 3) fun p206 => vPtr (g.v 4) fun p207 => vInt .i64 (g.v 5) fun i208 => vAddr (g.v 6) fun a209 => vInt .u8 (g.v 35) fun i210 => vBool (g.v 154) fun b211 => K s205b s205n s205c p206 p207 i208 a209 i210 b211 h)
noncomputable def c51 := cFst c50
noncomputable def c52 := cSnd c50
abbrev n36 (Kn Ke2 Ke1 : T5) (Ke0 : T4) (Kr : T0) (h : H) : Prop :=
  HCalls Tryz.prog 18 ⟨[(.pointer x3)]⟩ h fun v212 h213 => HCalls Tryz.prog 19 ⟨[(.pointer x4)]⟩ h213 fun v214 h215 => Kn x0b x0n x0c x3 x4 x5 h215
noncomputable def c53 := cFst c52
noncomputable def c54 := cSnd c52
abbrev T16 := (Option Addr) → Nat → Nat → (Option Addr) → (Option Addr) → Int → Addr → Bool → H → Prop
abbrev E16 := Held g [(0, .slice x0b x0n x0c), (3, .pointer x3), (4, .pointer x4), (5, .int .i64 x5), (6, .pointer (some x6)), (160, .bool x160)]
def D16 (K : T16) (g : Env) (h : H) : Prop := nilDs g.ds (vSlice (g.v 0) fun s216b s216n s216c => vPtr (g.v 3) fun p217 => vPtr (g.v 4) fun p218 => vInt .i64 (g.v 5) fun i219 => vAddr (g.v 6) fun a220 => vBool (g.v 160) fun b221 => K s216b s216n s216c p217 p218 i219 a220 b221 h)
noncomputable def c55 := cFst c54
noncomputable def c56 := cSnd c54
abbrev n39 (Kn Ke2 Ke1 : T5) (Ke0 : T4) (Kr : T0) (h : H) : Prop :=
  vSome x4 fun a222 => ∃ s223b s223n s223c, cell h (a222.add 1) = some (.slice s223b s223n s223c) ∧ (∃ i224, cell h (x6.add 7) = some (.int .i64 i224) ∧ (vSome x4 fun a225 => ∃ s226b s226n s226c, cell h (a225.add 1) = some (.slice s226b s226n s226c) ∧ ((s226n : Int) ≠ 0 ∧ ((0 ≤ (Int.tmod (if (0 : Int) > i224 then (0 : Int) else i224) (s226n : Int)) ∧ (Int.tmod (if (0 : Int) > i224 then (0 : Int) else i224) (s226n : Int)) < (s223n : Int)) ∧ (vSome s223b fun a227 => ∃ i228, cell h ((a227.add (Int.toNat (Int.tmod (if (0 : Int) > i224 then (0 : Int) else i224) (s226n : Int)) * 4)).add 0) = some (.int .i64 i228) ∧ (HCalls Tryz.prog 20 ⟨[(.pointer x3), (.int .i64 i228)]⟩ h fun v229 h230 => HCalls Tryz.prog 21 ⟨[(.pointer x4), (.int .i64 i228)]⟩ h230 fun v231 h232 => Kn x0b x0n x0c x3 x4 x5 h232))))))
noncomputable def c57 := cFst c56
noncomputable def c58 := cSnd c56
abbrev T17 := (Option Addr) → Nat → Nat → (Option Addr) → (Option Addr) → Int → Bool → H → Prop
abbrev E17 := Held g [(0, .slice x0b x0n x0c), (3, .pointer x3), (4, .pointer x4), (5, .int .i64 x5), (37, .bool x37)]
def D17 (K : T17) (g : Env) (h : H) : Prop := nilDs g.ds (vSlice (g.v 0) fun s233b s233n s233c => vPtr (g.v 3) fun p234 => vPtr (g.v 4) fun p235 => vInt .i64 (g.v 5) fun i236 => vBool (g.v 37) fun b237 => K s233b s233n s233c p234 p235 i236 b237 h)
abbrev n41 (Kn Ke2 Ke1 : T5) (Ke0 : T4) (Kr : T0) (h : H) : Prop :=
  cond x37 (vSome x3 fun a238 => ∃ b239, cell h (a238.add 3) = some (.bool b239) ∧ (cond b239 (vSome x3 fun a240 => stL (a240.add 3) [(.bool false)] 0 h fun h241 => vSome x4 fun a242 => ∃ b243, cell h241 (a242.add 3) = some (.bool b243) ∧ (cond b243 (vSome x4 fun a244 => stL (a244.add 3) [(.bool false)] 0 h241 fun h245 => Kn x0b x0n x0c x3 x4 x5 h245) (vSome x4 fun a246 => stL (a246.add 3) [(.bool true)] 0 h241 fun h247 => Kn x0b x0n x0c x3 x4 x5 h247))) (vSome x3 fun a248 => stL (a248.add 3) [(.bool true)] 0 h fun h249 => vSome x4 fun a250 => ∃ b251, cell h249 (a250.add 3) = some (.bool b251) ∧ (cond b251 (vSome x4 fun a252 => stL (a252.add 3) [(.bool false)] 0 h249 fun h253 => Kn x0b x0n x0c x3 x4 x5 h253) (vSome x4 fun a254 => stL (a254.add 3) [(.bool true)] 0 h249 fun h255 => Kn x0b x0n x0c x3 x4 x5 h255))))) (vSome x4 fun a256 => ∃ s257b s257n s257c, cell h (a256.add 2) = some (.slice s257b s257n s257c) ∧ (HCalls Tryz.prog 11 ⟨[(.slice s257b s257n s257c), (.agg ⟨[(.int .i64 (-1 : Int)), (S ([] : List UInt8)), (.slice none 0 0)]⟩)]⟩ h fun v258 h259 => vSlice v258 fun s260b s260n s260c => vSome x3 fun a261 => stL (a261.add 2) [(.slice s260b s260n s260c)] 0 h259 fun h262 => vSome x4 fun a263 => ∃ s264b s264n s264c, cell h262 (a263.add 2) = some (.slice s264b s264n s264c) ∧ (HCalls Tryz.prog 11 ⟨[(.slice s264b s264n s264c), (.agg ⟨[(.int .i64 (-1 : Int)), (S ([] : List UInt8)), (.slice none 0 0)]⟩)]⟩ h262 fun v265 h266 => vSlice v265 fun s267b s267n s267c => vSome x4 fun a268 => stL (a268.add 2) [(.slice s267b s267n s267c)] 0 h266 fun h269 => Kn x0b x0n x0c x3 x4 x5 h269)))
abbrev Q8 (Kn : T17) (Ke2 Ke1 : T5) (Ke0 : T4) (Kr : T0) := QX (D17 Kn) (D0 Kr) (exX 2 (D5 Ke2) (exX 1 (D5 Ke1) (exX 0 (D4 Ke0) noX)))
abbrev n40 (Kn Ke2 Ke1 : T5) (Ke0 : T4) (Kr : T0) (h : H) : Prop :=
  ∃ b270, cell h (x6.add 8) = some (.bool b270) ∧ (cond b270 (n41 x0b x0n x0c x3 x4 x5 true Kn Ke2 Ke1 Ke0 Kr h) (n41 x0b x0n x0c x3 x4 x5 false Kn Ke2 Ke1 Ke0 Kr h))
abbrev n38 (Kn Ke2 Ke1 : T5) (Ke0 : T4) (Kr : T0) (h : H) : Prop :=
  cond x160 (n39 x0b x0n x0c x3 x4 x5 x6 Kn Ke2 Ke1 Ke0 Kr h) (n40 x0b x0n x0c x3 x4 x5 x6 Kn Ke2 Ke1 Ke0 Kr h)
abbrev Q9 (Kn : T16) (Ke2 Ke1 : T5) (Ke0 : T4) (Kr : T0) := QX (D16 Kn) (D0 Kr) (exX 2 (D5 Ke2) (exX 1 (D5 Ke1) (exX 0 (D4 Ke0) noX)))
abbrev n37 (Kn Ke2 Ke1 : T5) (Ke0 : T4) (Kr : T0) (h : H) : Prop :=
  Spl (x35 = (8 : Int)) (n38 x0b x0n x0c x3 x4 x5 x6 true Kn Ke2 Ke1 Ke0 Kr h) (n38 x0b x0n x0c x3 x4 x5 x6 false Kn Ke2 Ke1 Ke0 Kr h)
abbrev n35 (Kn Ke2 Ke1 : T5) (Ke0 : T4) (Kr : T0) (h : H) : Prop :=
  cond x154 (n36 x0b x0n x0c x3 x4 x5 Kn Ke2 Ke1 Ke0 Kr h) (n37 x0b x0n x0c x3 x4 x5 x6 x35 Kn Ke2 Ke1 Ke0 Kr h)
abbrev Q10 (Kn : T15) (Ke2 Ke1 : T5) (Ke0 : T4) (Kr : T0) := QX (D15 Kn) (D0 Kr) (exX 2 (D5 Ke2) (exX 1 (D5 Ke1) (exX 0 (D4 Ke0) noX)))
abbrev n34 (Kn Ke2 Ke1 : T5) (Ke0 : T4) (Kr : T0) (h : H) : Prop :=
  Spl (x35 = (7 : Int)) (n35 x0b x0n x0c x3 x4 x5 x6 x35 true Kn Ke2 Ke1 Ke0 Kr h) (n35 x0b x0n x0c x3 x4 x5 x6 x35 false Kn Ke2 Ke1 Ke0 Kr h)
abbrev n32 (Kn Ke2 Ke1 : T5) (Ke0 : T4) (Kr : T0) (h : H) : Prop :=
  cond x144 (n33 x0b x0n x0c x3 x4 x5 x6 Kn Ke2 Ke1 Ke0 Kr h) (n34 x0b x0n x0c x3 x4 x5 x6 x35 Kn Ke2 Ke1 Ke0 Kr h)
abbrev Q11 (Kn : T14) (Ke2 Ke1 : T5) (Ke0 : T4) (Kr : T0) := QX (D14 Kn) (D0 Kr) (exX 2 (D5 Ke2) (exX 1 (D5 Ke1) (exX 0 (D4 Ke0) noX)))
abbrev n31 (Kn Ke2 Ke1 : T5) (Ke0 : T4) (Kr : T0) (h : H) : Prop :=
  Spl (x35 = (6 : Int)) (n32 x0b x0n x0c x3 x4 x5 x6 x35 true Kn Ke2 Ke1 Ke0 Kr h) (n32 x0b x0n x0c x3 x4 x5 x6 x35 false Kn Ke2 Ke1 Ke0 Kr h)
abbrev n29 (Kn Ke2 Ke1 : T5) (Ke0 : T4) (Kr : T0) (h : H) : Prop :=
  cond x132 (n30 x0b x0n x0c x3 x4 x5 x6 Kn Ke2 Ke1 Ke0 Kr h) (n31 x0b x0n x0c x3 x4 x5 x6 x35 Kn Ke2 Ke1 Ke0 Kr h)
abbrev Q12 (Kn : T13) (Ke2 Ke1 : T5) (Ke0 : T4) (Kr : T0) := QX (D13 Kn) (D0 Kr) (exX 2 (D5 Ke2) (exX 1 (D5 Ke1) (exX 0 (D4 Ke0) noX)))
abbrev n28 (Kn Ke2 Ke1 : T5) (Ke0 : T4) (Kr : T0) (h : H) : Prop :=
  Spl (x35 = (5 : Int)) (n29 x0b x0n x0c x3 x4 x5 x6 x35 true Kn Ke2 Ke1 Ke0 Kr h) (n29 x0b x0n x0c x3 x4 x5 x6 x35 false Kn Ke2 Ke1 Ke0 Kr h)
abbrev n26 (Kn Ke2 Ke1 : T5) (Ke0 : T4) (Kr : T0) (h : H) : Prop :=
  cond x120 (n27 x0b x0n x0c x3 x4 x5 x6 Kn Ke2 Ke1 Ke0 Kr h) (n28 x0b x0n x0c x3 x4 x5 x6 x35 Kn Ke2 Ke1 Ke0 Kr h)
abbrev Q13 (Kn : T12) (Ke2 Ke1 : T5) (Ke0 : T4) (Kr : T0) := QX (D12 Kn) (D0 Kr) (exX 2 (D5 Ke2) (exX 1 (D5 Ke1) (exX 0 (D4 Ke0) noX)))
abbrev n25 (Kn Ke2 Ke1 : T5) (Ke0 : T4) (Kr : T0) (h : H) : Prop :=
  Spl (x35 = (4 : Int)) (n26 x0b x0n x0c x3 x4 x5 x6 x35 true Kn Ke2 Ke1 Ke0 Kr h) (n26 x0b x0n x0c x3 x4 x5 x6 x35 false Kn Ke2 Ke1 Ke0 Kr h)
abbrev n21 (Kn Ke2 Ke1 : T5) (Ke0 : T4) (Kr : T0) (h : H) : Prop :=
  cond x72 (n22 x0b x0n x0c x3 x4 x5 x6 x7 Kn Ke2 Ke1 Ke0 Kr h) (n25 x0b x0n x0c x3 x4 x5 x6 x35 Kn Ke2 Ke1 Ke0 Kr h)
abbrev Q14 (Kn : T9) (Ke2 Ke1 : T5) (Ke0 : T4) (Kr : T0) := QX (D9 Kn) (D0 Kr) (exX 2 (D5 Ke2) (exX 1 (D5 Ke1) (exX 0 (D4 Ke0) noX)))
abbrev n20 (Kn Ke2 Ke1 : T5) (Ke0 : T4) (Kr : T0) (h : H) : Prop :=
  Spl (x35 = (0 : Int)) (n21 x0b x0n x0c x3 x4 x5 x6 x7 x35 true Kn Ke2 Ke1 Ke0 Kr h) (Spl (x35 = (1 : Int)) (n21 x0b x0n x0c x3 x4 x5 x6 x7 x35 true Kn Ke2 Ke1 Ke0 Kr h) (Spl (x35 = (2 : Int)) (n21 x0b x0n x0c x3 x4 x5 x6 x7 x35 true Kn Ke2 Ke1 Ke0 Kr h) (Spl (x35 = (3 : Int)) (n21 x0b x0n x0c x3 x4 x5 x6 x7 x35 true Kn Ke2 Ke1 Ke0 Kr h) (n21 x0b x0n x0c x3 x4 x5 x6 x7 x35 false Kn Ke2 Ke1 Ke0 Kr h))))
abbrev n19 (Kn Ke1 : T5) (Ke0 : T4) (Kr : T0) (h : H) : Prop :=
  n20 x0b x0n x0c x3 x4 x5 x6 x7 x35 Kn Kn Ke1 Ke0 Kr h
abbrev Q15 (Kn : T8) (Ke1 : T5) (Ke0 : T4) (Kr : T0) := QX (D8 Kn) (D0 Kr) (exX 1 (D5 Ke1) (exX 0 (D4 Ke0) noX))
abbrev n18 (Kn Ke1 : T5) (Ke0 : T4) (Kr : T0) (h : H) : Prop :=
  ∃ i271, cell h (x6.add 0) = some (.int .u8 i271) ∧ ((10 : Int) ≠ 0 ∧ (n19 x0b x0n x0c x3 x4 x5 x6 x7 (Int.tmod i271 (10 : Int)) Kn Ke1 Ke0 Kr h))
abbrev n16 (Kn Ke1 : T5) (Ke0 : T4) (Kr : T0) (h : H) : Prop :=
  n18 x0b x0n x0c x3 x4 x5 x6 x7 (fun z0b z0n z0c z3 z4 z5 h => n17 z0b z0n z0c z3 z4 z5 Kn Ke1 Ke0 Kr h) Ke1 Ke0 Kr h
abbrev Q16 (Kn : T7) (Ke1 : T5) (Ke0 : T4) (Kr : T0) := QX (D7 Kn) (D0 Kr) (exX 1 (D5 Ke1) (exX 0 (D4 Ke0) noX))
abbrev n15 (Kn Ke1 : T5) (Ke0 : T4) (Kr : T0) (h : H) : Prop :=
  ∃ i272, cell h (x6.add 1) = some (.int .u8 i272) ∧ ((3 : Int) ≠ 0 ∧ (n16 x0b x0n x0c x3 x4 x5 x6 (Int.tmod i272 (3 : Int)) Kn Ke1 Ke0 Kr h))
abbrev Q17 (Kn : T6) (Ke1 : T5) (Ke0 : T4) (Kr : T0) := QX (D6 Kn) (D0 Kr) (exX 1 (D5 Ke1) (exX 0 (D4 Ke0) noX))
abbrev n14 (Kn Ke1 : T5) (Ke0 : T4) (Kr : T0) (h : H) : Prop :=
  (0 ≤ x5 ∧ x5 < (x0n : Int)) ∧ (vSome x0b fun a273 => ∃ i274, cell h (((a273.add (Int.toNat x5 * 9))).add 0) = some (.int .u8 i274) ∧ (∃ i275, cell h (((a273.add (Int.toNat x5 * 9))).add 1) = some (.int .u8 i275) ∧ (∃ i276, cell h (((a273.add (Int.toNat x5 * 9))).add 2) = some (.int .u8 i276) ∧ (∃ s277, cell h (((a273.add (Int.toNat x5 * 9))).add 3) = some (S s277) ∧ (∃ s278b s278n s278c, cell h (((a273.add (Int.toNat x5 * 9))).add 4) = some (.slice s278b s278n s278c) ∧ (∃ b279, cell h (((a273.add (Int.toNat x5 * 9))).add 5) = some (.bool b279) ∧ (∃ s280, cell h (((a273.add (Int.toNat x5 * 9))).add 6) = some (S s280) ∧ (∃ i281, cell h (((a273.add (Int.toNat x5 * 9))).add 7) = some (.int .i64 i281) ∧ (∃ b282, cell h (((a273.add (Int.toNat x5 * 9))).add 8) = some (.bool b282) ∧ (newx h ⟨[(.int .u8 (0 : Int)), (.int .u8 (0 : Int)), (.int .u8 (0 : Int)), (S ([] : List UInt8)), (.slice none 0 0), (.bool false), (S ([] : List UInt8)), (.int .i64 (0 : Int)), (.bool false)]⟩ 33 fun a283 h284 => stL a283 [(.int .u8 i274), (.int .u8 i275), (.int .u8 i276), (S s277), (.slice s278b s278n s278c), (.bool b279), (S s280), (.int .i64 i281), (.bool b282)] 0 h284 fun h285 => n15 x0b x0n x0c x3 x4 x5 a283 Kn Ke1 Ke0 Kr h285))))))))))
abbrev n13 (Kn : T5) (Ke0 : T4) (Kr : T0) (h : H) : Prop :=
  n14 x0b x0n x0c x3 x4 x5 Kn Kn Ke0 Kr h
abbrev n11 (Kn : T5) (Ke0 : T4) (Kr : T0) (h : H) : Prop :=
  n13 x0b x0n x0c x3 x4 x5 (fun z0b z0n z0c z3 z4 z5 h => n12 z0b z0n z0c z3 z4 z5 Kn Ke0 Kr h) Ke0 Kr h
abbrev n10 (Kn : T5) (Ke0 : T4) (Kr : T0) (h : H) : Prop :=
  Spl (x5 < (x0n : Int)) (n11 x0b x0n x0c x3 x4 x5 Kn Ke0 Kr h) (Ke0 h)
def n9_L (Kn Ke0 : T4) (Kr : T0) : Nat → T5
  | 0 => fun _ _ _ _ _ _ _ => False
  | N + 1 => fun x0b x0n x0c x3 x4 x5 h => n10 x0b x0n x0c x3 x4 x5 (fun z0b z0n z0c z3 z4 z5 h => n9_L Kn Ke0 Kr N z0b z0n z0c z3 z4 z5 h) Ke0 Kr h
abbrev n9 (Kn Ke0 : T4) (Kr : T0) (h : H) : Prop :=
  ∃ N, n9_L Kn Ke0 Kr N x0b x0n x0c x3 x4 x5 h
abbrev n8 (Kn : T4) (Kr : T0) (h : H) : Prop :=
  n9 x0b x0n x0c x3 x4 x5 Kn Kn Kr h
abbrev Q18 (Kn : T5) (Kr : T0) := QX (D5 Kn) (D0 Kr) noX
abbrev n7 (Kn : T4) (Kr : T0) (h : H) : Prop :=
  n8 x0b x0n x0c x3 x4 (0 : Int) Kn Kr h
abbrev n5 (Kn Kr : T0) (h : H) : Prop :=
  n7 x0b x0n x0c x3 x4 (fun  h => n6 Kn Kr h) Kr h
abbrev Q19 (Kn : T3) (Kr : T0) := QX (D3 Kn) (D0 Kr) noX
abbrev n4 (Kn Kr : T0) (h : H) : Prop :=
  HCalls Tryz.prog 7 ⟨[]⟩ h fun v286 h287 => vPtr v286 fun p288 => n5 x0b x0n x0c x3 p288 Kn Kr h287
abbrev Q20 (Kn : T2) (Kr : T0) := QX (D2 Kn) (D0 Kr) noX
abbrev n3 (Kn Kr : T0) (h : H) : Prop :=
  HCalls Tryz.prog 6 ⟨[]⟩ h fun v289 h290 => vPtr v289 fun p291 => n4 x0b x0n x0c p291 Kn Kr h290
abbrev Q21 (Kn : T1) (Kr : T0) := QX (D1 Kn) (D0 Kr) noX
abbrev n2 (Kn Kr : T0) (h : H) : Prop :=
  HCalls Tryz.prog 4 ⟨[(.slice x0b x0n x0c)]⟩ h fun v292 h293 => vBool v292 fun b294 => cond b294 (HCalls Tryz.prog 5 ⟨[]⟩ h293 fun v295 h296 => vBool v295 fun b297 => cond b297 (Kr true h296) (Kr false h296)) (HCalls Tryz.prog 5 ⟨[]⟩ h293 fun v298 h299 => vBool v298 fun b300 => cond b300 (n3 x0b x0n x0c Kn Kr h299) (HCalls Tryz.prog 5 ⟨[]⟩ h299 fun v301 h302 => vBool v301 fun b303 => cond b303 (Kr true h302) (Kr false h302)))
abbrev n1 (Kn Kr : T0) (h : H) : Prop :=
  n2 x0b x0n x0c Kn Kr h
variable {g} {h : H} {p : Prop}
variable {x0b x0n x0c x2 x3 x4 x5 x6 x7 x35 x37 x72 x91 x120 x132 x144 x154 x160}
theorem D5_mk {K : T5} (hg : E5 g x0b x0n x0c x3 x4 x5) (hk : K x0b x0n x0c x3 x4 x5 h) : D5 K g h := by
  obtain ⟨e0, e3, e4, e5, d⟩ := hg
  unfold D5
  rw [e0, e3, e4, e5, d]
  exact hk
theorem D0_el {K : T0} (hq : D0 K g h) (f : ∀ {x2}, E0 g x2 → K x2 h → p) : p := nilDs_el hq fun d q => vBool_el q fun _ e2 q => f ⟨e2, d⟩ q
theorem D1_el {K : T1} (hq : D1 K g h) (f : ∀ {x0b x0n x0c}, E1 g x0b x0n x0c → K x0b x0n x0c h → p) : p := nilDs_el hq fun d q => vSlice_el q fun _ _ _ e0 q => f ⟨e0, d⟩ q
theorem D2_el {K : T2} (hq : D2 K g h) (f : ∀ {x0b x0n x0c x3}, E2 g x0b x0n x0c x3 → K x0b x0n x0c x3 h → p) : p := nilDs_el hq fun d q => vSlice_el q fun _ _ _ e0 q => vPtr_el q fun _ e3 q => f ⟨e0, e3, d⟩ q
theorem D3_el {K : T3} (hq : D3 K g h) (f : ∀ {x0b x0n x0c x3 x4}, E3 g x0b x0n x0c x3 x4 → K x0b x0n x0c x3 x4 h → p) : p := nilDs_el hq fun d q => vSlice_el q fun _ _ _ e0 q => vPtr_el q fun _ e3 q => vPtr_el q fun _ e4 q => f ⟨e0, e3, e4, d⟩ q
theorem D4_el {K : T4} (hq : D4 K g h) (f : E4 g → K  h → p) : p := nilDs_el hq fun d q => f d q
theorem n6_ok {Kn Kr : T0} (hg : E4 g) (hS : n6 Kn Kr h) : W c10 (Q0 Kn Kr) g h :=
  leafN (by kernel_rfl) (by kernel_rfl) hg hS (by kernel_rfl)
theorem D5_el {K : T5} (hq : D5 K g h) (f : ∀ {x0b x0n x0c x3 x4 x5}, E5 g x0b x0n x0c x3 x4 x5 → K x0b x0n x0c x3 x4 x5 h → p) : p := nilDs_el hq fun d q => vSlice_el q fun _ _ _ e0 q => vPtr_el q fun _ e3 q => vPtr_el q fun _ e4 q => vInt_el q fun _ e5 q => f ⟨e0, e3, e4, e5, d⟩ q
theorem n12_ok {Kn : T5} {Ke0 : T4} {Kr : T0} (hg : E5 g x0b x0n x0c x3 x4 x5) (hS : n12 x0b x0n x0c x3 x4 x5 Kn Ke0 Kr h) : W c18 (Q3 Kn Ke0 Kr) g h :=
  leafN (by kernel_rfl) (by kernel_rfl) hg hS (by kernel_rfl)
theorem D6_el {K : T6} (hq : D6 K g h) (f : ∀ {x0b x0n x0c x3 x4 x5 x6}, E6 g x0b x0n x0c x3 x4 x5 x6 → K x0b x0n x0c x3 x4 x5 x6 h → p) : p := nilDs_el hq fun d q => vSlice_el q fun _ _ _ e0 q => vPtr_el q fun _ e3 q => vPtr_el q fun _ e4 q => vInt_el q fun _ e5 q => vAddr_el q fun _ e6 q => f ⟨e0, e3, e4, e5, e6, d⟩ q
theorem D7_el {K : T7} (hq : D7 K g h) (f : ∀ {x0b x0n x0c x3 x4 x5 x6 x7}, E7 g x0b x0n x0c x3 x4 x5 x6 x7 → K x0b x0n x0c x3 x4 x5 x6 x7 h → p) : p := nilDs_el hq fun d q => vSlice_el q fun _ _ _ e0 q => vPtr_el q fun _ e3 q => vPtr_el q fun _ e4 q => vInt_el q fun _ e5 q => vAddr_el q fun _ e6 q => vInt_el q fun _ e7 q => f ⟨e0, e3, e4, e5, e6, e7, d⟩ q
theorem n17_ok {Kn Ke1 : T5} {Ke0 : T4} {Kr : T0} (hg : E5 g x0b x0n x0c x3 x4 x5) (hS : n17 x0b x0n x0c x3 x4 x5 Kn Ke1 Ke0 Kr h) : W c25 (Q4 Kn Ke1 Ke0 Kr) g h :=
  leafN (by kernel_rfl) (by kernel_rfl) hg hS (by kernel_rfl)
theorem D8_el {K : T8} (hq : D8 K g h) (f : ∀ {x0b x0n x0c x3 x4 x5 x6 x7 x35}, E8 g x0b x0n x0c x3 x4 x5 x6 x7 x35 → K x0b x0n x0c x3 x4 x5 x6 x7 x35 h → p) : p := nilDs_el hq fun d q => vSlice_el q fun _ _ _ e0 q => vPtr_el q fun _ e3 q => vPtr_el q fun _ e4 q => vInt_el q fun _ e5 q => vAddr_el q fun _ e6 q => vInt_el q fun _ e7 q => vInt_el q fun _ e35 q => f ⟨e0, e3, e4, e5, e6, e7, e35, d⟩ q
theorem D9_el {K : T9} (hq : D9 K g h) (f : ∀ {x0b x0n x0c x3 x4 x5 x6 x7 x35 x72}, E9 g x0b x0n x0c x3 x4 x5 x6 x7 x35 x72 → K x0b x0n x0c x3 x4 x5 x6 x7 x35 x72 h → p) : p := nilDs_el hq fun d q => vSlice_el q fun _ _ _ e0 q => vPtr_el q fun _ e3 q => vPtr_el q fun _ e4 q => vInt_el q fun _ e5 q => vAddr_el q fun _ e6 q => vInt_el q fun _ e7 q => vInt_el q fun _ e35 q => vBool_el q fun _ e72 q => f ⟨e0, e3, e4, e5, e6, e7, e35, e72, d⟩ q
theorem D10_el {K : T10} (hq : D10 K g h) (f : ∀ {x0b x0n x0c x3 x4 x5 x6 x91}, E10 g x0b x0n x0c x3 x4 x5 x6 x91 → K x0b x0n x0c x3 x4 x5 x6 x91 h → p) : p := nilDs_el hq fun d q => vSlice_el q fun _ _ _ e0 q => vPtr_el q fun _ e3 q => vPtr_el q fun _ e4 q => vInt_el q fun _ e5 q => vAddr_el q fun _ e6 q => vBool_el q fun _ e91 q => f ⟨e0, e3, e4, e5, e6, e91, d⟩ q
theorem n24_ok {Kn Ke2 Ke1 : T5} {Ke0 : T4} {Kr : T0} (hg : E10 g x0b x0n x0c x3 x4 x5 x6 x91) (hS : n24 x0b x0n x0c x3 x4 x5 x6 x91 Kn Ke2 Ke1 Ke0 Kr h) : W c36 (Q5 Kn Ke2 Ke1 Ke0 Kr) g h :=
  leafN (by kernel_rfl) (by kernel_rfl) hg hS (by kernel_rfl)
theorem n23_ok {Kn Ke2 Ke1 : T5} {Ke0 : T4} {Kr : T0} (hg : E6 g x0b x0n x0c x3 x4 x5 x6) (hS : n23 x0b x0n x0c x3 x4 x5 x6 Kn Ke2 Ke1 Ke0 Kr h) : W c34 (Q5 Kn Ke2 Ke1 Ke0 Kr) g h :=
  seqN (x := c35) (N' := D10 (fun z0b z0n z0c z3 z4 z5 z6 z91 h => n24 z0b z0n z0c z3 z4 z5 z6 z91 Kn Ke2 Ke1 Ke0 Kr h)) (by kernel_rfl) (leafN (by kernel_rfl) (by kernel_rfl) hg hS (by kernel_rfl)) fun hq => D10_el hq n24_ok
theorem n22_ok {Kn Ke2 Ke1 : T5} {Ke0 : T4} {Kr : T0} (hg : E7 g x0b x0n x0c x3 x4 x5 x6 x7) (hS : n22 x0b x0n x0c x3 x4 x5 x6 x7 Kn Ke2 Ke1 Ke0 Kr h) : W c31 (Q5 Kn Ke2 Ke1 Ke0 Kr) g h :=
  seqN (x := c33) (N' := D6 (fun z0b z0n z0c z3 z4 z5 z6 h => n23 z0b z0n z0c z3 z4 z5 z6 Kn Ke2 Ke1 Ke0 Kr h)) (by kernel_rfl) (leafN (by kernel_rfl) (by kernel_rfl) hg hS (by kernel_rfl)) fun hq => D6_el hq n23_ok
theorem D11_el {K : T11} (hq : D11 K g h) (f : ∀ {x0b x0n x0c x3 x4 x5 x6 x35}, E11 g x0b x0n x0c x3 x4 x5 x6 x35 → K x0b x0n x0c x3 x4 x5 x6 x35 h → p) : p := nilDs_el hq fun d q => vSlice_el q fun _ _ _ e0 q => vPtr_el q fun _ e3 q => vPtr_el q fun _ e4 q => vInt_el q fun _ e5 q => vAddr_el q fun _ e6 q => vInt_el q fun _ e35 q => f ⟨e0, e3, e4, e5, e6, e35, d⟩ q
theorem D12_el {K : T12} (hq : D12 K g h) (f : ∀ {x0b x0n x0c x3 x4 x5 x6 x35 x120}, E12 g x0b x0n x0c x3 x4 x5 x6 x35 x120 → K x0b x0n x0c x3 x4 x5 x6 x35 x120 h → p) : p := nilDs_el hq fun d q => vSlice_el q fun _ _ _ e0 q => vPtr_el q fun _ e3 q => vPtr_el q fun _ e4 q => vInt_el q fun _ e5 q => vAddr_el q fun _ e6 q => vInt_el q fun _ e35 q => vBool_el q fun _ e120 q => f ⟨e0, e3, e4, e5, e6, e35, e120, d⟩ q
theorem n27_ok {Kn Ke2 Ke1 : T5} {Ke0 : T4} {Kr : T0} (hg : E6 g x0b x0n x0c x3 x4 x5 x6) (hS : n27 x0b x0n x0c x3 x4 x5 x6 Kn Ke2 Ke1 Ke0 Kr h) : W c39 (Q5 Kn Ke2 Ke1 Ke0 Kr) g h :=
  leafN (by kernel_rfl) (by kernel_rfl) hg hS (by kernel_rfl)
theorem D13_el {K : T13} (hq : D13 K g h) (f : ∀ {x0b x0n x0c x3 x4 x5 x6 x35 x132}, E13 g x0b x0n x0c x3 x4 x5 x6 x35 x132 → K x0b x0n x0c x3 x4 x5 x6 x35 x132 h → p) : p := nilDs_el hq fun d q => vSlice_el q fun _ _ _ e0 q => vPtr_el q fun _ e3 q => vPtr_el q fun _ e4 q => vInt_el q fun _ e5 q => vAddr_el q fun _ e6 q => vInt_el q fun _ e35 q => vBool_el q fun _ e132 q => f ⟨e0, e3, e4, e5, e6, e35, e132, d⟩ q
theorem n30_ok {Kn Ke2 Ke1 : T5} {Ke0 : T4} {Kr : T0} (hg : E6 g x0b x0n x0c x3 x4 x5 x6) (hS : n30 x0b x0n x0c x3 x4 x5 x6 Kn Ke2 Ke1 Ke0 Kr h) : W c43 (Q5 Kn Ke2 Ke1 Ke0 Kr) g h :=
  leafN (by kernel_rfl) (by kernel_rfl) hg hS (by kernel_rfl)
theorem D14_el {K : T14} (hq : D14 K g h) (f : ∀ {x0b x0n x0c x3 x4 x5 x6 x35 x144}, E14 g x0b x0n x0c x3 x4 x5 x6 x35 x144 → K x0b x0n x0c x3 x4 x5 x6 x35 x144 h → p) : p := nilDs_el hq fun d q => vSlice_el q fun _ _ _ e0 q => vPtr_el q fun _ e3 q => vPtr_el q fun _ e4 q => vInt_el q fun _ e5 q => vAddr_el q fun _ e6 q => vInt_el q fun _ e35 q => vBool_el q fun _ e144 q => f ⟨e0, e3, e4, e5, e6, e35, e144, d⟩ q
theorem n33_ok {Kn Ke2 Ke1 : T5} {Ke0 : T4} {Kr : T0} (hg : E6 g x0b x0n x0c x3 x4 x5 x6) (hS : n33 x0b x0n x0c x3 x4 x5 x6 Kn Ke2 Ke1 Ke0 Kr h) : W c47 (Q5 Kn Ke2 Ke1 Ke0 Kr) g h :=
  leafN (by kernel_rfl) (by kernel_rfl) hg hS (by kernel_rfl)
theorem D15_el {K : T15} (hq : D15 K g h) (f : ∀ {x0b x0n x0c x3 x4 x5 x6 x35 x154}, E15 g x0b x0n x0c x3 x4 x5 x6 x35 x154 → K x0b x0n x0c x3 x4 x5 x6 x35 x154 h → p) : p := nilDs_el hq fun d q => vSlice_el q fun _ _ _ e0 q => vPtr_el q fun _ e3 q => vPtr_el q fun _ e4 q => vInt_el q fun _ e5 q => vAddr_el q fun _ e6 q => vInt_el q fun _ e35 q => vBool_el q fun _ e154 q => f ⟨e0, e3, e4, e5, e6, e35, e154, d⟩ q
theorem n36_ok {Kn Ke2 Ke1 : T5} {Ke0 : T4} {Kr : T0} (hg : E5 g x0b x0n x0c x3 x4 x5) (hS : n36 x0b x0n x0c x3 x4 x5 Kn Ke2 Ke1 Ke0 Kr h) : W c51 (Q5 Kn Ke2 Ke1 Ke0 Kr) g h :=
  leafN (by kernel_rfl) (by kernel_rfl) hg hS (by kernel_rfl)
theorem D16_el {K : T16} (hq : D16 K g h) (f : ∀ {x0b x0n x0c x3 x4 x5 x6 x160}, E16 g x0b x0n x0c x3 x4 x5 x6 x160 → K x0b x0n x0c x3 x4 x5 x6 x160 h → p) : p := nilDs_el hq fun d q => vSlice_el q fun _ _ _ e0 q => vPtr_el q fun _ e3 q => vPtr_el q fun _ e4 q => vInt_el q fun _ e5 q => vAddr_el q fun _ e6 q => vBool_el q fun _ e160 q => f ⟨e0, e3, e4, e5, e6, e160, d⟩ q
theorem n39_ok {Kn Ke2 Ke1 : T5} {Ke0 : T4} {Kr : T0} (hg : E6 g x0b x0n x0c x3 x4 x5 x6) (hS : n39 x0b x0n x0c x3 x4 x5 x6 Kn Ke2 Ke1 Ke0 Kr h) : W c55 (Q5 Kn Ke2 Ke1 Ke0 Kr) g h :=
  leafN (by kernel_rfl) (by kernel_rfl) hg hS (by kernel_rfl)
theorem D17_el {K : T17} (hq : D17 K g h) (f : ∀ {x0b x0n x0c x3 x4 x5 x37}, E17 g x0b x0n x0c x3 x4 x5 x37 → K x0b x0n x0c x3 x4 x5 x37 h → p) : p := nilDs_el hq fun d q => vSlice_el q fun _ _ _ e0 q => vPtr_el q fun _ e3 q => vPtr_el q fun _ e4 q => vInt_el q fun _ e5 q => vBool_el q fun _ e37 q => f ⟨e0, e3, e4, e5, e37, d⟩ q
theorem n41_ok {Kn Ke2 Ke1 : T5} {Ke0 : T4} {Kr : T0} (hg : E17 g x0b x0n x0c x3 x4 x5 x37) (hS : n41 x0b x0n x0c x3 x4 x5 x37 Kn Ke2 Ke1 Ke0 Kr h) : W c58 (Q5 Kn Ke2 Ke1 Ke0 Kr) g h :=
  leafN (by kernel_rfl) (by kernel_rfl) hg hS (by kernel_rfl)
theorem n40_ok {Kn Ke2 Ke1 : T5} {Ke0 : T4} {Kr : T0} (hg : E6 g x0b x0n x0c x3 x4 x5 x6) (hS : n40 x0b x0n x0c x3 x4 x5 x6 Kn Ke2 Ke1 Ke0 Kr h) : W c56 (Q5 Kn Ke2 Ke1 Ke0 Kr) g h :=
  seqN (x := c57) (N' := D17 (fun z0b z0n z0c z3 z4 z5 z37 h => n41 z0b z0n z0c z3 z4 z5 z37 Kn Ke2 Ke1 Ke0 Kr h)) (by kernel_rfl) (leafN (by kernel_rfl) (by kernel_rfl) hg hS (by kernel_rfl)) fun hq => D17_el hq n41_ok
theorem n38_ok {Kn Ke2 Ke1 : T5} {Ke0 : T4} {Kr : T0} (hg : E16 g x0b x0n x0c x3 x4 x5 x6 x160) (hS : n38 x0b x0n x0c x3 x4 x5 x6 x160 Kn Ke2 Ke1 Ke0 Kr h) : W c54 (Q5 Kn Ke2 Ke1 Ke0 Kr) g h :=
  let ⟨hg0, hg3, hg4, hg5, hg6, hg160, d⟩ := hg
  condN (by kernel_rfl) rfl hg160 hS (fun hS e => n39_ok ⟨hg0, hg3, hg4, hg5, hg6, d⟩ hS) (fun hS e => n40_ok ⟨hg0, hg3, hg4, hg5, hg6, d⟩ hS)
theorem n37_ok {Kn Ke2 Ke1 : T5} {Ke0 : T4} {Kr : T0} (hg : E11 g x0b x0n x0c x3 x4 x5 x6 x35) (hS : n37 x0b x0n x0c x3 x4 x5 x6 x35 Kn Ke2 Ke1 Ke0 Kr h) : W c52 (Q5 Kn Ke2 Ke1 Ke0 Kr) g h :=
  seqN (x := c53) (N' := D16 (fun z0b z0n z0c z3 z4 z5 z6 z160 h => n38 z0b z0n z0c z3 z4 z5 z6 z160 Kn Ke2 Ke1 Ke0 Kr h)) (by kernel_rfl) (leafN (by kernel_rfl) (by kernel_rfl) hg hS (by kernel_rfl)) fun hq => D16_el hq n38_ok
theorem n35_ok {Kn Ke2 Ke1 : T5} {Ke0 : T4} {Kr : T0} (hg : E15 g x0b x0n x0c x3 x4 x5 x6 x35 x154) (hS : n35 x0b x0n x0c x3 x4 x5 x6 x35 x154 Kn Ke2 Ke1 Ke0 Kr h) : W c50 (Q5 Kn Ke2 Ke1 Ke0 Kr) g h :=
  let ⟨hg0, hg3, hg4, hg5, hg6, hg35, hg154, d⟩ := hg
  condN (by kernel_rfl) rfl hg154 hS (fun hS e => n36_ok ⟨hg0, hg3, hg4, hg5, d⟩ hS) (fun hS e => n37_ok ⟨hg0, hg3, hg4, hg5, hg6, hg35, d⟩ hS)
theorem n34_ok {Kn Ke2 Ke1 : T5} {Ke0 : T4} {Kr : T0} (hg : E11 g x0b x0n x0c x3 x4 x5 x6 x35) (hS : n34 x0b x0n x0c x3 x4 x5 x6 x35 Kn Ke2 Ke1 Ke0 Kr h) : W c48 (Q5 Kn Ke2 Ke1 Ke0 Kr) g h :=
  seqN (x := c49) (N' := D15 (fun z0b z0n z0c z3 z4 z5 z6 z35 z154 h => n35 z0b z0n z0c z3 z4 z5 z6 z35 z154 Kn Ke2 Ke1 Ke0 Kr h)) (by kernel_rfl) (leafN (by kernel_rfl) (by kernel_rfl) hg hS (by kernel_rfl)) fun hq => D15_el hq n35_ok
theorem n32_ok {Kn Ke2 Ke1 : T5} {Ke0 : T4} {Kr : T0} (hg : E14 g x0b x0n x0c x3 x4 x5 x6 x35 x144) (hS : n32 x0b x0n x0c x3 x4 x5 x6 x35 x144 Kn Ke2 Ke1 Ke0 Kr h) : W c46 (Q5 Kn Ke2 Ke1 Ke0 Kr) g h :=
  let ⟨hg0, hg3, hg4, hg5, hg6, hg35, hg144, d⟩ := hg
  condN (by kernel_rfl) rfl hg144 hS (fun hS e => n33_ok ⟨hg0, hg3, hg4, hg5, hg6, d⟩ hS) (fun hS e => n34_ok ⟨hg0, hg3, hg4, hg5, hg6, hg35, d⟩ hS)
theorem n31_ok {Kn Ke2 Ke1 : T5} {Ke0 : T4} {Kr : T0} (hg : E11 g x0b x0n x0c x3 x4 x5 x6 x35) (hS : n31 x0b x0n x0c x3 x4 x5 x6 x35 Kn Ke2 Ke1 Ke0 Kr h) : W c44 (Q5 Kn Ke2 Ke1 Ke0 Kr) g h :=
  seqN (x := c45) (N' := D14 (fun z0b z0n z0c z3 z4 z5 z6 z35 z144 h => n32 z0b z0n z0c z3 z4 z5 z6 z35 z144 Kn Ke2 Ke1 Ke0 Kr h)) (by kernel_rfl) (leafN (by kernel_rfl) (by kernel_rfl) hg hS (by kernel_rfl)) fun hq => D14_el hq n32_ok
theorem n29_ok {Kn Ke2 Ke1 : T5} {Ke0 : T4} {Kr : T0} (hg : E13 g x0b x0n x0c x3 x4 x5 x6 x35 x132) (hS : n29 x0b x0n x0c x3 x4 x5 x6 x35 x132 Kn Ke2 Ke1 Ke0 Kr h) : W c42 (Q5 Kn Ke2 Ke1 Ke0 Kr) g h :=
  let ⟨hg0, hg3, hg4, hg5, hg6, hg35, hg132, d⟩ := hg
  condN (by kernel_rfl) rfl hg132 hS (fun hS e => n30_ok ⟨hg0, hg3, hg4, hg5, hg6, d⟩ hS) (fun hS e => n31_ok ⟨hg0, hg3, hg4, hg5, hg6, hg35, d⟩ hS)
theorem n28_ok {Kn Ke2 Ke1 : T5} {Ke0 : T4} {Kr : T0} (hg : E11 g x0b x0n x0c x3 x4 x5 x6 x35) (hS : n28 x0b x0n x0c x3 x4 x5 x6 x35 Kn Ke2 Ke1 Ke0 Kr h) : W c40 (Q5 Kn Ke2 Ke1 Ke0 Kr) g h :=
  seqN (x := c41) (N' := D13 (fun z0b z0n z0c z3 z4 z5 z6 z35 z132 h => n29 z0b z0n z0c z3 z4 z5 z6 z35 z132 Kn Ke2 Ke1 Ke0 Kr h)) (by kernel_rfl) (leafN (by kernel_rfl) (by kernel_rfl) hg hS (by kernel_rfl)) fun hq => D13_el hq n29_ok
theorem n26_ok {Kn Ke2 Ke1 : T5} {Ke0 : T4} {Kr : T0} (hg : E12 g x0b x0n x0c x3 x4 x5 x6 x35 x120) (hS : n26 x0b x0n x0c x3 x4 x5 x6 x35 x120 Kn Ke2 Ke1 Ke0 Kr h) : W c38 (Q5 Kn Ke2 Ke1 Ke0 Kr) g h :=
  let ⟨hg0, hg3, hg4, hg5, hg6, hg35, hg120, d⟩ := hg
  condN (by kernel_rfl) rfl hg120 hS (fun hS e => n27_ok ⟨hg0, hg3, hg4, hg5, hg6, d⟩ hS) (fun hS e => n28_ok ⟨hg0, hg3, hg4, hg5, hg6, hg35, d⟩ hS)
theorem n25_ok {Kn Ke2 Ke1 : T5} {Ke0 : T4} {Kr : T0} (hg : E11 g x0b x0n x0c x3 x4 x5 x6 x35) (hS : n25 x0b x0n x0c x3 x4 x5 x6 x35 Kn Ke2 Ke1 Ke0 Kr h) : W c32 (Q5 Kn Ke2 Ke1 Ke0 Kr) g h :=
  seqN (x := c37) (N' := D12 (fun z0b z0n z0c z3 z4 z5 z6 z35 z120 h => n26 z0b z0n z0c z3 z4 z5 z6 z35 z120 Kn Ke2 Ke1 Ke0 Kr h)) (by kernel_rfl) (leafN (by kernel_rfl) (by kernel_rfl) hg hS (by kernel_rfl)) fun hq => D12_el hq n26_ok
theorem n21_ok {Kn Ke2 Ke1 : T5} {Ke0 : T4} {Kr : T0} (hg : E9 g x0b x0n x0c x3 x4 x5 x6 x7 x35 x72) (hS : n21 x0b x0n x0c x3 x4 x5 x6 x7 x35 x72 Kn Ke2 Ke1 Ke0 Kr h) : W c30 (Q5 Kn Ke2 Ke1 Ke0 Kr) g h :=
  let ⟨hg0, hg3, hg4, hg5, hg6, hg7, hg35, hg72, d⟩ := hg
  condN (by kernel_rfl) rfl hg72 hS (fun hS e => n22_ok ⟨hg0, hg3, hg4, hg5, hg6, hg7, d⟩ hS) (fun hS e => n25_ok ⟨hg0, hg3, hg4, hg5, hg6, hg35, d⟩ hS)
theorem n20_ok {Kn Ke2 Ke1 : T5} {Ke0 : T4} {Kr : T0} (hg : E8 g x0b x0n x0c x3 x4 x5 x6 x7 x35) (hS : n20 x0b x0n x0c x3 x4 x5 x6 x7 x35 Kn Ke2 Ke1 Ke0 Kr h) : W c28 (Q5 Kn Ke2 Ke1 Ke0 Kr) g h :=
  seqN (x := c29) (N' := D9 (fun z0b z0n z0c z3 z4 z5 z6 z7 z35 z72 h => n21 z0b z0n z0c z3 z4 z5 z6 z7 z35 z72 Kn Ke2 Ke1 Ke0 Kr h)) (by kernel_rfl) (leafN (by kernel_rfl) (by kernel_rfl) hg hS (by kernel_rfl)) fun hq => D9_el hq n21_ok
theorem n19_ok {Kn Ke1 : T5} {Ke0 : T4} {Kr : T0} (hg : E8 g x0b x0n x0c x3 x4 x5 x6 x7 x35) (hS : n19 x0b x0n x0c x3 x4 x5 x6 x7 x35 Kn Ke1 Ke0 Kr h) : W c27 (Q4 Kn Ke1 Ke0 Kr) g h := blockN (by kernel_rfl) (n20_ok hg hS)
theorem n18_ok {Kn Ke1 : T5} {Ke0 : T4} {Kr : T0} (hg : E7 g x0b x0n x0c x3 x4 x5 x6 x7) (hS : n18 x0b x0n x0c x3 x4 x5 x6 x7 Kn Ke1 Ke0 Kr h) : W c24 (Q4 Kn Ke1 Ke0 Kr) g h :=
  seqN (x := c26) (N' := D8 (fun z0b z0n z0c z3 z4 z5 z6 z7 z35 h => n19 z0b z0n z0c z3 z4 z5 z6 z7 z35 Kn Ke1 Ke0 Kr h)) (by kernel_rfl) (leafN (by kernel_rfl) (by kernel_rfl) hg hS (by kernel_rfl)) fun hq => D8_el hq n19_ok
theorem n16_ok {Kn Ke1 : T5} {Ke0 : T4} {Kr : T0} (hg : E7 g x0b x0n x0c x3 x4 x5 x6 x7) (hS : n16 x0b x0n x0c x3 x4 x5 x6 x7 Kn Ke1 Ke0 Kr h) : W c23 (Q4 Kn Ke1 Ke0 Kr) g h :=
  seqN (by kernel_rfl) (n18_ok hg hS) fun hq => D5_el hq n17_ok
theorem n15_ok {Kn Ke1 : T5} {Ke0 : T4} {Kr : T0} (hg : E6 g x0b x0n x0c x3 x4 x5 x6) (hS : n15 x0b x0n x0c x3 x4 x5 x6 Kn Ke1 Ke0 Kr h) : W c21 (Q4 Kn Ke1 Ke0 Kr) g h :=
  seqN (x := c22) (N' := D7 (fun z0b z0n z0c z3 z4 z5 z6 z7 h => n16 z0b z0n z0c z3 z4 z5 z6 z7 Kn Ke1 Ke0 Kr h)) (by kernel_rfl) (leafN (by kernel_rfl) (by kernel_rfl) hg hS (by kernel_rfl)) fun hq => D7_el hq n16_ok
theorem n14_ok {Kn Ke1 : T5} {Ke0 : T4} {Kr : T0} (hg : E5 g x0b x0n x0c x3 x4 x5) (hS : n14 x0b x0n x0c x3 x4 x5 Kn Ke1 Ke0 Kr h) : W c19 (Q4 Kn Ke1 Ke0 Kr) g h :=
  seqN (x := c20) (N' := D6 (fun z0b z0n z0c z3 z4 z5 z6 h => n15 z0b z0n z0c z3 z4 z5 z6 Kn Ke1 Ke0 Kr h)) (by kernel_rfl) (leafN (by kernel_rfl) (by kernel_rfl) hg hS (by kernel_rfl)) fun hq => D6_el hq n15_ok
theorem n13_ok {Kn : T5} {Ke0 : T4} {Kr : T0} (hg : E5 g x0b x0n x0c x3 x4 x5) (hS : n13 x0b x0n x0c x3 x4 x5 Kn Ke0 Kr h) : W c17 (Q3 Kn Ke0 Kr) g h := blockN (by kernel_rfl) (n14_ok hg hS)
theorem n11_ok {Kn : T5} {Ke0 : T4} {Kr : T0} (hg : E5 g x0b x0n x0c x3 x4 x5) (hS : n11 x0b x0n x0c x3 x4 x5 Kn Ke0 Kr h) : W c16 (Q3 Kn Ke0 Kr) g h :=
  seqN (by kernel_rfl) (n13_ok hg hS) fun hq => D5_el hq n12_ok
theorem n10_ok {Kn : T5} {Ke0 : T4} {Kr : T0} (hg : E5 g x0b x0n x0c x3 x4 x5) (hS : n10 x0b x0n x0c x3 x4 x5 Kn Ke0 Kr h) : W c14 (Q3 Kn Ke0 Kr) g h :=
  seqN (x := c15) (N' := D5 (fun z0b z0n z0c z3 z4 z5 h => n11 z0b z0n z0c z3 z4 z5 Kn Ke0 Kr h)) (by kernel_rfl) (leafN (by kernel_rfl) (by kernel_rfl) hg hS (by kernel_rfl)) fun hq => D5_el hq n11_ok
theorem n9_ok {Kn Ke0 : T4} {Kr : T0} (hg : E5 g x0b x0n x0c x3 x4 x5) (hS : n9 x0b x0n x0c x3 x4 x5 Kn Ke0 Kr h) : W c13 (Q2 Kn Ke0 Kr) g h :=
  let ⟨N, hS⟩ := hS
  loopN (x := c14) (I := fun N => D5 (n9_L Kn Ke0 Kr N)) (by kernel_rfl) (fun hq => D5_el hq fun _ hq => hq) (fun hq => D5_el hq fun hg hq => n10_ok hg hq) N (D5_mk hg hS)
theorem n8_ok {Kn : T4} {Kr : T0} (hg : E5 g x0b x0n x0c x3 x4 x5) (hS : n8 x0b x0n x0c x3 x4 x5 Kn Kr h) : W c12 (Q1 Kn Kr) g h := blockN (by kernel_rfl) (n9_ok hg hS)
theorem n7_ok {Kn : T4} {Kr : T0} (hg : E3 g x0b x0n x0c x3 x4) (hS : n7 x0b x0n x0c x3 x4 Kn Kr h) : W c9 (Q1 Kn Kr) g h :=
  seqN (x := c11) (N' := D5 (fun z0b z0n z0c z3 z4 z5 h => n8 z0b z0n z0c z3 z4 z5 Kn Kr h)) (by kernel_rfl) (leafN (by kernel_rfl) (by kernel_rfl) hg hS (by kernel_rfl)) fun hq => D5_el hq n8_ok
theorem n5_ok {Kn Kr : T0} (hg : E3 g x0b x0n x0c x3 x4) (hS : n5 x0b x0n x0c x3 x4 Kn Kr h) : W c8 (Q0 Kn Kr) g h :=
  seqN (by kernel_rfl) (n7_ok hg hS) fun hq => D4_el hq n6_ok
theorem n4_ok {Kn Kr : T0} (hg : E2 g x0b x0n x0c x3) (hS : n4 x0b x0n x0c x3 Kn Kr h) : W c6 (Q0 Kn Kr) g h :=
  seqN (x := c7) (N' := D3 (fun z0b z0n z0c z3 z4 h => n5 z0b z0n z0c z3 z4 Kn Kr h)) (by kernel_rfl) (leafN (by kernel_rfl) (by kernel_rfl) hg hS (by kernel_rfl)) fun hq => D3_el hq n5_ok
theorem n3_ok {Kn Kr : T0} (hg : E1 g x0b x0n x0c) (hS : n3 x0b x0n x0c Kn Kr h) : W c4 (Q0 Kn Kr) g h :=
  seqN (x := c5) (N' := D2 (fun z0b z0n z0c z3 h => n4 z0b z0n z0c z3 Kn Kr h)) (by kernel_rfl) (leafN (by kernel_rfl) (by kernel_rfl) hg hS (by kernel_rfl)) fun hq => D2_el hq n4_ok
theorem n2_ok {Kn Kr : T0} (hg : E1 g x0b x0n x0c) (hS : n2 x0b x0n x0c Kn Kr h) : W c2 (Q0 Kn Kr) g h :=
  seqN (x := c3) (N' := D1 (fun z0b z0n z0c h => n3 z0b z0n z0c Kn Kr h)) (by kernel_rfl) (leafN (by kernel_rfl) (by kernel_rfl) hg hS (by kernel_rfl)) fun hq => D1_el hq n3_ok
theorem n1_ok {Kn Kr : T0} (hg : E1 g x0b x0n x0c) (hS : n1 x0b x0n x0c Kn Kr h) : W code (Q0 Kn Kr) g h :=
  seqN (x := c1) (N' := D1 (fun z0b z0n z0c h => n2 z0b z0n z0c Kn Kr h)) (by kernel_rfl) (leafN (by kernel_rfl) (by kernel_rfl) hg hS (by kernel_rfl)) fun hq => D1_el hq n2_ok
/-- WHAT tympan/tympanlaw13.PlaceDoes ASKS -/
abbrev asks (x0b : Option Addr) (x0n : Nat) (x0c : Nat) (K : Value → H → Prop) (h : H) : Prop := n1 x0b x0n x0c (fun y2 h => K (.bool y2) h) (fun y2 h => K (.bool y2) h) h
theorem ok (x0b : Option Addr) (x0n : Nat) (x0c : Nat) (K : Value → H → Prop) (h : H) (hS : asks x0b x0n x0c K h) : HCalls Tryz.prog 3 ⟨[(.slice x0b x0n x0c)]⟩ h K :=
  callsN (c := code) Tryz.func3 (by kernel_rfl) (by kernel_rfl) (n1_ok ⟨rfl, rfl⟩ hS) fun hq => D0_el hq fun hg hq => retN hg hq (by kernel_rfl)
end Sx.l13_PlaceDoes

/-! ### tympan/tympanlaw13.alike -/
namespace Sx.l13_alike
noncomputable def code : Code := bodyOf Tryz.f22
abbrev W := wpC none Tryz.prog 113
variable (g : Env) (x0 x1 : Option Addr) (x4 : Bool) (x5 : Int)
abbrev T0 := Bool → H → Prop
abbrev E0 := Held g [(4, .bool x4)]
def D0 (K : T0) (g : Env) (h : H) : Prop := nilDs g.ds (vBool (g.v 4) fun b1 => K b1 h)
abbrev Q0 (Kn Kr : T0) := QX (D0 Kn) (D0 Kr) noX
abbrev T1 := (Option Addr) → (Option Addr) → H → Prop
abbrev E1 := Held g [(0, .pointer x0), (1, .pointer x1)]
def D1 (K : T1) (g : Env) (h : H) : Prop := nilDs g.ds (vPtr (g.v 0) fun p2 => vPtr (g.v 1) fun p3 => K p2 p3 h)
noncomputable def c1 := cFst code
noncomputable def c2 := cSnd code
noncomputable def c3 := cFst c2
noncomputable def c4 := cSnd c2
noncomputable def c5 := cFst c4
noncomputable def c6 := cSnd c4
abbrev n4 (Kn Kr : T0) (h : H) : Prop :=
  vSome x0 fun a4 => ∃ p5, cell h (a4.add 0) = some (.pointer p5) ∧ (vSome x1 fun a6 => ∃ p7, cell h (a6.add 0) = some (.pointer p7) ∧ (HCalls Tryz.prog 24 ⟨[(.pointer p5), (.int .i64 (0 : Int))]⟩ h fun v8 h9 => vSlice v8 fun s10b s10n s10c => ExtH h h9 ∧ (HCalls Tryz.prog 50 ⟨[(.pointer p7), (.int .i64 (0 : Int))]⟩ h9 fun v11 h12 => vSlice v11 fun s13b s13n s13c => HCalls Tryz.prog 49 ⟨[(.slice s10b s10n s10c), (.slice s13b s13n s13c)]⟩ h12 fun v14 h15 => vBool v14 fun b16 => cond b16 (Kr true h15) (Kr false h15))))
abbrev Q1 (Kn : T1) (Kr : T0) := QX (D1 Kn) (D0 Kr) noX
noncomputable def c7 := cFst c5
noncomputable def c8 := cSnd c5
abbrev T2 := (Option Addr) → (Option Addr) → Int → H → Prop
abbrev E2 := Held g [(0, .pointer x0), (1, .pointer x1), (5, .int .i64 x5)]
def D2 (K : T2) (g : Env) (h : H) : Prop := nilDs g.ds (vPtr (g.v 0) fun p17 => vPtr (g.v 1) fun p18 => vInt .i64 (g.v 5) fun i19 => K p17 p18 i19 h)
noncomputable def c9 := cFst c8
abbrev Q2 (Kn Ke0 : T1) (Kr : T0) := QX (D1 Kn) (D0 Kr) (exX 0 (D1 Ke0) noX)
noncomputable def c10 := cFst c9
abbrev Q3 (Kn : T2) (Ke0 : T1) (Kr : T0) := QX (D2 Kn) (D0 Kr) (exX 0 (D1 Ke0) noX)
def n7_L (Kn Ke0 : T1) (Kr : T0) : Nat → T2
  | 0 => fun _ _ _ _ => False
  | N + 1 => fun x0 x1 x5 h => vSome x0 fun a20 => ∃ s21b s21n s21c, cell h (a20.add 1) = some (.slice s21b s21n s21c) ∧ (Spl (x5 < (s21n : Int)) (vSome x0 fun a22 => ∃ s23b s23n s23c, cell h (a22.add 1) = some (.slice s23b s23n s23c) ∧ ((0 ≤ x5 ∧ x5 < (s23n : Int)) ∧ (vSome s23b fun a24 => ∃ i25, cell h (((a24.add (Int.toNat x5 * 4))).add 0) = some (.int .i64 i25) ∧ (∃ i26, cell h (((a24.add (Int.toNat x5 * 4))).add 1) = some (.int .u8 i26) ∧ (∃ s27, cell h (((a24.add (Int.toNat x5 * 4))).add 2) = some (S s27) ∧ (∃ i28, cell h (((a24.add (Int.toNat x5 * 4))).add 3) = some (.int .u8 i28) ∧ (HCalls Tryz.prog 28 ⟨[(.pointer x0), (.agg ⟨[(.int .i64 i25), (.int .u8 i26), (S s27), (.int .u8 i28)]⟩)]⟩ h fun v29 h30 => vTup v29 fun l31 => uncons l31 fun e32 l33 => vInt .i64 e32 fun i34 => uncons l33 fun e35 l36 => vInt .i64 e35 fun i37 => unnil l36 (vSome x1 fun a38 => ∃ s39b s39n s39c, cell h30 (a38.add 1) = some (.slice s39b s39n s39c) ∧ ((0 ≤ x5 ∧ x5 < (s39n : Int)) ∧ (vSome s39b fun a40 => ∃ i41, cell h30 (((a40.add (Int.toNat x5 * 4))).add 0) = some (.int .i64 i41) ∧ (∃ i42, cell h30 (((a40.add (Int.toNat x5 * 4))).add 1) = some (.int .u8 i42) ∧ (∃ s43, cell h30 (((a40.add (Int.toNat x5 * 4))).add 2) = some (S s43) ∧ (∃ i44, cell h30 (((a40.add (Int.toNat x5 * 4))).add 3) = some (.int .u8 i44) ∧ (HCalls Tryz.prog 32 ⟨[(.pointer x1), (.agg ⟨[(.int .i64 i41), (.int .u8 i42), (S s43), (.int .u8 i44)]⟩)]⟩ h30 fun v45 h46 => vTup v45 fun l47 => uncons l47 fun e48 l49 => vInt .i64 e48 fun i50 => uncons l49 fun e51 l52 => vInt .i64 e51 fun i53 => unnil l52 (Spl (i34 = i50) (Spl (i37 = i53) (Rng .i64 (x5 + (1 : Int)) ∧ (n7_L Kn Ke0 Kr N x0 x1 (x5 + (1 : Int)) h46)) (Kr false h46)) (Kr false h46)))))))))))))))) (Ke0 x0 x1 h))
abbrev n7 (Kn Ke0 : T1) (Kr : T0) (h : H) : Prop :=
  ∃ N, n7_L Kn Ke0 Kr N x0 x1 x5 h
abbrev n6 (Kn : T1) (Kr : T0) (h : H) : Prop :=
  n7 x0 x1 x5 Kn Kn Kr h
abbrev Q4 (Kn : T2) (Kr : T0) := QX (D2 Kn) (D0 Kr) noX
abbrev n5 (Kn : T1) (Kr : T0) (h : H) : Prop :=
  n6 x0 x1 (0 : Int) Kn Kr h
abbrev n3 (Kn Kr : T0) (h : H) : Prop :=
  n5 x0 x1 (fun z0 z1 h => n4 z0 z1 Kn Kr h) Kr h
abbrev n2 (Kn Kr : T0) (h : H) : Prop :=
  vSome x0 fun a54 => ∃ s55b s55n s55c, cell h (a54.add 1) = some (.slice s55b s55n s55c) ∧ (vSome x1 fun a56 => ∃ s57b s57n s57c, cell h (a56.add 1) = some (.slice s57b s57n s57c) ∧ (HCalls Tryz.prog 47 ⟨[(.slice s55b s55n s55c), (.slice s57b s57n s57c)]⟩ h fun v58 h59 => vBool v58 fun b60 => cond b60 (vSome x0 fun a61 => ∃ s62b s62n s62c, cell h59 (a61.add 2) = some (.slice s62b s62n s62c) ∧ (vSome x1 fun a63 => ∃ s64b s64n s64c, cell h59 (a63.add 2) = some (.slice s64b s64n s64c) ∧ (HCalls Tryz.prog 48 ⟨[(.slice s62b s62n s62c), (.slice s64b s64n s64c)]⟩ h59 fun v65 h66 => vBool v65 fun b67 => cond b67 (vSome x0 fun a68 => ∃ i69, cell h66 (a68.add 4) = some (.int .i64 i69) ∧ (vSome x1 fun a70 => ∃ i71, cell h66 (a70.add 4) = some (.int .i64 i71) ∧ (Spl (i69 = i71) (vSome x0 fun a72 => ∃ b73, cell h66 (a72.add 3) = some (.bool b73) ∧ (cond b73 (vSome x1 fun a74 => ∃ b75, cell h66 (a74.add 3) = some (.bool b75) ∧ (cond b75 (HCalls Tryz.prog 25 ⟨[(.pointer x0)]⟩ h66 fun v76 h77 => vAgg v76 fun l78 => uncons l78 fun e79 l80 => vInt .i64 e79 fun i81 => uncons l80 fun e82 l83 => vInt .u8 e82 fun i84 => uncons l83 fun e85 l86 => vStr e85 fun s87 => uncons l86 fun e88 l89 => vInt .u8 e88 fun i90 => unnil l89 (HCalls Tryz.prog 10 ⟨[(.pointer x1)]⟩ h77 fun v91 h92 => vAgg v91 fun l93 => uncons l93 fun e94 l95 => vInt .i64 e94 fun i96 => uncons l95 fun e97 l98 => vInt .u8 e97 fun i99 => uncons l98 fun e100 l101 => vStr e100 fun s102 => uncons l101 fun e103 l104 => vInt .u8 e103 fun i105 => unnil l104 (SemR Tryz.prog (binS .neq 36 (.tmp 56) (.tmp 58) (.agg ⟨[(.int .i64 i81), (.int .u8 i84), (S s87), (.int .u8 i90)]⟩) (.agg ⟨[(.int .i64 i96), (.int .u8 i99), (S s102), (.int .u8 i105)]⟩)) h92 fun v106 => vBool v106 fun b107 => cond b107 (Kr false h92) (n3 x0 x1 Kn Kr h92)))) (Kr false h66))) (vSome x1 fun a108 => ∃ b109, cell h66 (a108.add 3) = some (.bool b109) ∧ (cond b109 (Kr false h66) (HCalls Tryz.prog 25 ⟨[(.pointer x0)]⟩ h66 fun v110 h111 => vAgg v110 fun l112 => uncons l112 fun e113 l114 => vInt .i64 e113 fun i115 => uncons l114 fun e116 l117 => vInt .u8 e116 fun i118 => uncons l117 fun e119 l120 => vStr e119 fun s121 => uncons l120 fun e122 l123 => vInt .u8 e122 fun i124 => unnil l123 (HCalls Tryz.prog 10 ⟨[(.pointer x1)]⟩ h111 fun v125 h126 => vAgg v125 fun l127 => uncons l127 fun e128 l129 => vInt .i64 e128 fun i130 => uncons l129 fun e131 l132 => vInt .u8 e131 fun i133 => uncons l132 fun e134 l135 => vStr e134 fun s136 => uncons l135 fun e137 l138 => vInt .u8 e137 fun i139 => unnil l138 (SemR Tryz.prog (binS .neq 36 (.tmp 56) (.tmp 58) (.agg ⟨[(.int .i64 i115), (.int .u8 i118), (S s121), (.int .u8 i124)]⟩) (.agg ⟨[(.int .i64 i130), (.int .u8 i133), (S s136), (.int .u8 i139)]⟩)) h126 fun v140 => vBool v140 fun b141 => cond b141 (Kr false h126) (n3 x0 x1 Kn Kr h126)))))))) (Kr false h66)))) (Kr false h66)))) (Kr false h59)))
abbrev n1 (Kn Kr : T0) (h : H) : Prop :=
  n2 x0 x1 Kn Kr h
variable {g} {h : H} {p : Prop}
variable {x0 x1 x4 x5}
theorem D2_mk {K : T2} (hg : E2 g x0 x1 x5) (hk : K x0 x1 x5 h) : D2 K g h := by
  obtain ⟨e0, e1, e5, d⟩ := hg
  unfold D2
  rw [e0, e1, e5, d]
  exact hk
theorem D0_el {K : T0} (hq : D0 K g h) (f : ∀ {x4}, E0 g x4 → K x4 h → p) : p := nilDs_el hq fun d q => vBool_el q fun _ e4 q => f ⟨e4, d⟩ q
theorem D1_el {K : T1} (hq : D1 K g h) (f : ∀ {x0 x1}, E1 g x0 x1 → K x0 x1 h → p) : p := nilDs_el hq fun d q => vPtr_el q fun _ e0 q => vPtr_el q fun _ e1 q => f ⟨e0, e1, d⟩ q
theorem n4_ok {Kn Kr : T0} (hg : E1 g x0 x1) (hS : n4 x0 x1 Kn Kr h) : W c6 (Q0 Kn Kr) g h :=
  leafN (by kernel_rfl) (by kernel_rfl) hg hS (by kernel_rfl)
theorem D2_el {K : T2} (hq : D2 K g h) (f : ∀ {x0 x1 x5}, E2 g x0 x1 x5 → K x0 x1 x5 h → p) : p := nilDs_el hq fun d q => vPtr_el q fun _ e0 q => vPtr_el q fun _ e1 q => vInt_el q fun _ e5 q => f ⟨e0, e1, e5, d⟩ q
theorem n7_ok {Kn Ke0 : T1} {Kr : T0} (hg : E2 g x0 x1 x5) (hS : n7 x0 x1 x5 Kn Ke0 Kr h) : W c9 (Q2 Kn Ke0 Kr) g h :=
  let ⟨N, hS⟩ := hS
  loopN (x := c10) (I := fun N => D2 (n7_L Kn Ke0 Kr N)) (by kernel_rfl) (fun hq => D2_el hq fun _ hq => hq) (fun hq => D2_el hq fun hg hq => leafN (by kernel_rfl) (by kernel_rfl) hg hq (by kernel_rfl)) N (D2_mk hg hS)
theorem n6_ok {Kn : T1} {Kr : T0} (hg : E2 g x0 x1 x5) (hS : n6 x0 x1 x5 Kn Kr h) : W c8 (Q1 Kn Kr) g h := blockN (by kernel_rfl) (n7_ok hg hS)
theorem n5_ok {Kn : T1} {Kr : T0} (hg : E1 g x0 x1) (hS : n5 x0 x1 Kn Kr h) : W c5 (Q1 Kn Kr) g h :=
  seqN (x := c7) (N' := D2 (fun z0 z1 z5 h => n6 z0 z1 z5 Kn Kr h)) (by kernel_rfl) (leafN (by kernel_rfl) (by kernel_rfl) hg hS (by kernel_rfl)) fun hq => D2_el hq n6_ok
theorem n3_ok {Kn Kr : T0} (hg : E1 g x0 x1) (hS : n3 x0 x1 Kn Kr h) : W c4 (Q0 Kn Kr) g h :=
  seqN (by kernel_rfl) (n5_ok hg hS) fun hq => D1_el hq n4_ok
theorem n2_ok {Kn Kr : T0} (hg : E1 g x0 x1) (hS : n2 x0 x1 Kn Kr h) : W c2 (Q0 Kn Kr) g h :=
  seqN (x := c3) (N' := D1 (fun z0 z1 h => n3 z0 z1 Kn Kr h)) (by kernel_rfl) (leafN (by kernel_rfl) (by kernel_rfl) hg hS (by kernel_rfl)) fun hq => D1_el hq n3_ok
theorem n1_ok {Kn Kr : T0} (hg : E1 g x0 x1) (hS : n1 x0 x1 Kn Kr h) : W code (Q0 Kn Kr) g h :=
  seqN (x := c1) (N' := D1 (fun z0 z1 h => n2 z0 z1 Kn Kr h)) (by kernel_rfl) (leafN (by kernel_rfl) (by kernel_rfl) hg hS (by kernel_rfl)) fun hq => D1_el hq n2_ok
/-- WHAT tympan/tympanlaw13.alike ASKS -/
abbrev asks (x0 : Option Addr) (x1 : Option Addr) (K : Value → H → Prop) (h : H) : Prop := n1 x0 x1 (fun y4 h => K (.bool y4) h) (fun y4 h => K (.bool y4) h) h
theorem ok (x0 : Option Addr) (x1 : Option Addr) (K : Value → H → Prop) (h : H) (hS : asks x0 x1 K h) : HCalls Tryz.prog 22 ⟨[(.pointer x0), (.pointer x1)]⟩ h K :=
  callsN (c := code) Tryz.func22 (by kernel_rfl) (by kernel_rfl) (n1_ok ⟨rfl, rfl, rfl⟩ hS) fun hq => D0_el hq fun hg hq => retN hg hq (by kernel_rfl)
end Sx.l13_alike
end Go.Proofs
