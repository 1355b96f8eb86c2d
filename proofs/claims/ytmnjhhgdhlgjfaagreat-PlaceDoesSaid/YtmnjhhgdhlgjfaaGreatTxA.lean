/- The shallow forms of functions, printed by sh.py out of the translation; each with its proof. No condition. -/
import Derived.Test.YtmnjhhgdhlgjfaaGreatShJ
import Derived.Test.YtmnjhhgdhlgjfaaGreatProg
namespace Go.Proofs
open Go Go.Sh
set_option linter.unusedVariables false
set_option maxRecDepth 100000

/-! ### (*tympan/dom.Tree).Parent -/
namespace Sx.dom_Tree_Parent
noncomputable def code : Code := bodyOf Tryz.f55
abbrev W := wpC none Tryz.prog 15
variable (g : Env) (x0 : Option Addr) (x1 x4 : Int)
abbrev T0 := Int → H → Prop
abbrev E0 := Held g [(4, .int .i64 x4)]
def D0 (K : T0) (g : Env) (h : H) : Prop := nilDs g.ds (vInt .i64 (g.v 4) fun i1 => K i1 h)
abbrev Q0 (Kn Kr : T0) := QX (D0 Kn) (D0 Kr) noX
abbrev T1 := (Option Addr) → Int → H → Prop
abbrev E1 := Held g [(0, .pointer x0), (1, .int .i64 x1)]
def D1 (K : T1) (g : Env) (h : H) : Prop := nilDs g.ds (vPtr (g.v 0) fun p2 => vInt .i64 (g.v 1) fun i3 => K p2 i3 h)
abbrev n1 (Kn Kr : T0) (h : H) : Prop :=
  HCalls Tryz.prog 51 ⟨[(.pointer x0), (.int .i64 x1)]⟩ h fun v4 h5 => vPtr v4 fun p6 => SemH Tryz.prog (binS .eql 80 (.tmp 9) (.const (.pointer none)) (.pointer p6) (.pointer none)) h5 fun v7 h8 => vBool v7 fun b9 => cond b9 (Kr (-1 : Int) h8) (vSome p6 fun a10 => ∃ i11, cell h8 (a10.add 6) = some (.int .i64 i11) ∧ (Kr i11 h8))
variable {g} {h : H} {p : Prop}
variable {x0 x1 x4}
theorem D0_el {K : T0} (hq : D0 K g h) (f : ∀ {x4}, E0 g x4 → K x4 h → p) : p := nilDs_el hq fun d q => vInt_el q fun _ e4 q => f ⟨e4, d⟩ q
theorem D1_el {K : T1} (hq : D1 K g h) (f : ∀ {x0 x1}, E1 g x0 x1 → K x0 x1 h → p) : p := nilDs_el hq fun d q => vPtr_el q fun _ e0 q => vInt_el q fun _ e1 q => f ⟨e0, e1, d⟩ q
theorem n1_ok {Kn Kr : T0} (hg : E1 g x0 x1) (hS : n1 x0 x1 Kn Kr h) : W code (Q0 Kn Kr) g h :=
  leafN (by kernel_rfl) (by kernel_rfl) hg hS (by kernel_rfl)
/-- WHAT (*tympan/dom.Tree).Parent ASKS -/
abbrev asks (x0 : Option Addr) (x1 : Int) (K : Value → H → Prop) (h : H) : Prop := n1 x0 x1 (fun y4 h => K (.int .i64 y4) h) (fun y4 h => K (.int .i64 y4) h) h
theorem ok (x0 : Option Addr) (x1 : Int) (K : Value → H → Prop) (h : H) (hS : asks x0 x1 K h) : HCalls Tryz.prog 55 ⟨[(.pointer x0), (.int .i64 x1)]⟩ h K :=
  callsN (c := code) Tryz.func55 (by kernel_rfl) (by kernel_rfl) (n1_ok ⟨rfl, rfl, rfl⟩ hS) fun hq => D0_el hq fun hg hq => retN hg hq (by kernel_rfl)
end Sx.dom_Tree_Parent

/-! ### tympan/dom.New -/
namespace Sx.dom_New
noncomputable def code : Code := bodyOf Tryz.f26
abbrev W := wpC none Tryz.prog 6
variable (g : Env) (x0 : Option Addr)
abbrev T0 := (Option Addr) → H → Prop
abbrev E0 := Held g [(0, .pointer x0)]
def D0 (K : T0) (g : Env) (h : H) : Prop := nilDs g.ds (vPtr (g.v 0) fun p1 => K p1 h)
abbrev Q0 (Kn Kr : T0) := QX (D0 Kn) (D0 Kr) noX
abbrev T1 := H → Prop
abbrev E1 := Held g []
def D1 (K : T1) (g : Env) (h : H) : Prop := nilDs g.ds (K h)
abbrev n1 (Kn Kr : T0) (h : H) : Prop :=
  newx h ⟨[(.int .u8 (0 : Int)), (.int .u8 (0 : Int)), (S ([] : List UInt8)), (.slice none 0 0), (S ([] : List UInt8)), (.slice none 0 0), (.int .i64 (-1 : Int)), (.slice none 0 0)]⟩ 84 fun a2 h3 => newx h3 #[(.pointer (some a2))] 80 fun a4 h5 => newx h5 ⟨[(.slice (some a4) 1 1)]⟩ 87 fun a6 h7 => Kr (some a6) h7
variable {g} {h : H} {p : Prop}
variable {x0}
theorem D0_el {K : T0} (hq : D0 K g h) (f : ∀ {x0}, E0 g x0 → K x0 h → p) : p := nilDs_el hq fun d q => vPtr_el q fun _ e0 q => f ⟨e0, d⟩ q
theorem D1_el {K : T1} (hq : D1 K g h) (f : E1 g → K  h → p) : p := nilDs_el hq fun d q => f d q
theorem n1_ok {Kn Kr : T0} (hg : E1 g) (hS : n1 Kn Kr h) : W code (Q0 Kn Kr) g h :=
  leafN (by kernel_rfl) (by kernel_rfl) hg hS (by kernel_rfl)
/-- WHAT tympan/dom.New ASKS -/
abbrev asks  (K : Value → H → Prop) (h : H) : Prop := n1  (fun y0 h => K (.pointer y0) h) (fun y0 h => K (.pointer y0) h) h
theorem ok  (K : Value → H → Prop) (h : H) (hS : asks  K h) : HCalls Tryz.prog 26 ⟨[]⟩ h K :=
  callsN (c := code) Tryz.func26 (by kernel_rfl) (by kernel_rfl) (n1_ok rfl hS) fun hq => D0_el hq fun hg hq => retN hg hq (by kernel_rfl)
end Sx.dom_New

/-! ### (*tympan/dom.Tree).Make -/
namespace Sx.dom_Tree_Make
noncomputable def code : Code := bodyOf Tryz.f29
abbrev W := wpC none Tryz.prog 45
variable (g : Env) (x0 : Option Addr) (x1_0 x1_1 : Int) (x1_2 : List UInt8) (x1_3b : Option Addr) (x1_3n x1_3c : Nat) (x1_4 : List UInt8) (x1_5b : Option Addr) (x1_5n x1_5c : Nat) (x3 : Addr) (x4 x6 : Int) (x7 x19 : Bool)
abbrev T0 := Int → H → Prop
abbrev E0 := Held g [(4, .int .i64 x4)]
def D0 (K : T0) (g : Env) (h : H) : Prop := nilDs g.ds (vInt .i64 (g.v 4) fun i1 => K i1 h)
abbrev Q0 (Kn Kr : T0) := QX (D0 Kn) (D0 Kr) noX
abbrev T1 := (Option Addr) → Int → Int → (List UInt8) → (Option Addr) → Nat → Nat → (List UInt8) → (Option Addr) → Nat → Nat → H → Prop
abbrev E1 := Held g [(0, .pointer x0), (1, .agg ⟨[(.int .u8 x1_0), (.int .u8 x1_1), (S x1_2), (.slice x1_3b x1_3n x1_3c), (S x1_4), (.slice x1_5b x1_5n x1_5c)]⟩)]
def D1 (K : T1) (g : Env) (h : H) : Prop := nilDs g.ds (vPtr (g.v 0) fun p2 => vAgg (g.v 1) fun l3 => uncons l3 fun e4 l5 => vInt .u8 e4 fun i6 => uncons l5 fun e7 l8 => vInt .u8 e7 fun i9 => uncons l8 fun e10 l11 => vStr e10 fun s12 => uncons l11 fun e13 l14 => vSlice e13 fun s15b s15n s15c => uncons l14 fun e16 l17 => vStr e16 fun s18 => uncons l17 fun e19 l20 => vSlice e19 fun s21b s21n s21c => unnil l20 (K p2 i6 i9 s12 s15b s15n s15c s18 s21b s21n s21c h))
noncomputable def c1 := cFst code
noncomputable def c2 := cSnd code
abbrev T2 := (Option Addr) → Addr → H → Prop
abbrev E2 := Held g [(0, .pointer x0), (3, .pointer (some x3))]
def D2 (K : T2) (g : Env) (h : H) : Prop := nilDs g.ds (vPtr (g.v 0) fun p22 => vAddr (g.v 3) fun a23 => K p22 a23 h)
noncomputable def c3 := cFst c2
noncomputable def c4 := cSnd c2
abbrev n3 (Kn Kr : T0) (h : H) : Prop :=
  vSome x0 fun a24 => ∃ s25b s25n s25c, cell h (a24.add 0) = some (.slice s25b s25n s25c) ∧ (∃ i26, cell h ((x3).add 0) = some (.int .u8 i26) ∧ (∃ i27, cell h ((x3).add 1) = some (.int .u8 i27) ∧ (∃ s28, cell h ((x3).add 2) = some (S s28) ∧ (∃ s29b s29n s29c, cell h ((x3).add 3) = some (.slice s29b s29n s29c) ∧ (∃ s30, cell h ((x3).add 4) = some (S s30) ∧ (∃ s31b s31n s31c, cell h ((x3).add 5) = some (.slice s31b s31n s31c) ∧ (newx h ⟨[(.int .u8 i26), (.int .u8 i27), (S s28), (.slice s29b s29n s29c), (S s30), (.slice s31b s31n s31c), (.int .i64 (-1 : Int)), (.slice none 0 0)]⟩ 84 fun a32 h33 => ExtH h h33 ∧ (newx h33 #[(.pointer (some a32))] 80 fun a34 h35 => ExtH h33 h35 ∧ (SemH Tryz.prog (Builtin.append_ #[85, 85] 85 ⟨[(.slice s25b s25n s25c), (.slice (some a34) 1 1)]⟩) h35 fun v36 h37 => vSlice v36 fun s38b s38n s38c => vSome x0 fun a39 => stL (a39.add 0) [(.slice s38b s38n s38c)] 0 h37 fun h40 => vSome x0 fun a41 => ∃ s42b s42n s42c, cell h40 (a41.add 0) = some (.slice s42b s42n s42c) ∧ (Rng .i64 ((s42n : Int) - (1 : Int)) ∧ (Kr ((s42n : Int) - (1 : Int)) h40)))))))))))
abbrev Q1 (Kn : T2) (Kr : T0) := QX (D2 Kn) (D0 Kr) noX
noncomputable def c5 := cFst c3
noncomputable def c6 := cSnd c3
abbrev T3 := (Option Addr) → Addr → Int → H → Prop
abbrev E3 := Held g [(0, .pointer x0), (3, .pointer (some x3)), (6, .int .u8 x6)]
def D3 (K : T3) (g : Env) (h : H) : Prop := nilDs g.ds (vPtr (g.v 0) fun p43 => vAddr (g.v 3) fun a44 => vInt .u8 (g.v 6) fun i45 => K p43 a44 i45 h)
noncomputable def c7 := cFst c6
abbrev Q2 (Kn Ke0 : T2) (Kr : T0) := QX (D2 Kn) (D0 Kr) (exX 0 (D2 Ke0) noX)
noncomputable def c8 := cFst c7
noncomputable def c9 := cSnd c7
abbrev T4 := (Option Addr) → Addr → Int → Bool → H → Prop
abbrev E4 := Held g [(0, .pointer x0), (3, .pointer (some x3)), (6, .int .u8 x6), (7, .bool x7)]
def D4 (K : T4) (g : Env) (h : H) : Prop := nilDs g.ds (vPtr (g.v 0) fun p46 => vAddr (g.v 3) fun a47 => vInt .u8 (g.v 6) fun i48 => vBool (g.v 7) fun b49 => K p46 a47 i48 b49 h)
noncomputable def c10 := cFst c9
noncomputable def c11 := cSnd c9
abbrev n8 (Kn Ke0 : T2) (Kr : T0) (h : H) : Prop :=
  ∃ i50, cell h (x3.add 0) = some (.int .u8 i50) ∧ (∃ i51, cell h (x3.add 1) = some (.int .u8 i51) ∧ (∃ s52, cell h (x3.add 2) = some (S s52) ∧ (∃ s53b s53n s53c, cell h (x3.add 3) = some (.slice s53b s53n s53c) ∧ (HCalls Tryz.prog 52 ⟨[(.slice s53b s53n s53c)]⟩ h fun v54 h55 => vSlice v54 fun s56b s56n s56c => ExtH h h55 ∧ (stL x3 [(.int .u8 i50), (.int .u8 i51), (S s52), (.slice s56b s56n s56c), (S ([] : List UInt8)), (.slice none 0 0)] 0 h55 fun h57 => Kn x0 x3 h57)))))
noncomputable def c12 := cFst c11
noncomputable def c13 := cSnd c11
abbrev T5 := (Option Addr) → Addr → Bool → H → Prop
abbrev E5 := Held g [(0, .pointer x0), (3, .pointer (some x3)), (19, .bool x19)]
def D5 (K : T5) (g : Env) (h : H) : Prop := nilDs g.ds (vPtr (g.v 0) fun p58 => vAddr (g.v 3) fun a59 => vBool (g.v 19) fun b60 => K p58 a59 b60 h)
abbrev n10 (Kn Ke0 : T2) (Kr : T0) (h : H) : Prop :=
  cond x19 (∃ i61, cell h (x3.add 0) = some (.int .u8 i61) ∧ (∃ s62, cell h (x3.add 4) = some (S s62) ∧ (stL x3 [(.int .u8 i61), (.int .u8 (0 : Int)), (S ([] : List UInt8)), (.slice none 0 0), (S s62), (.slice none 0 0)] 0 h fun h63 => Kn x0 x3 h63))) (Kr (-1 : Int) h)
abbrev Q3 (Kn : T5) (Ke0 : T2) (Kr : T0) := QX (D5 Kn) (D0 Kr) (exX 0 (D2 Ke0) noX)
abbrev n9 (Kn Ke0 : T2) (Kr : T0) (h : H) : Prop :=
  Spl (x6 = (2 : Int)) (n10 x0 x3 true Kn Ke0 Kr h) (Spl (x6 = (3 : Int)) (n10 x0 x3 true Kn Ke0 Kr h) (n10 x0 x3 false Kn Ke0 Kr h))
abbrev n7 (Kn Ke0 : T2) (Kr : T0) (h : H) : Prop :=
  cond x7 (n8 x0 x3 Kn Ke0 Kr h) (n9 x0 x3 x6 Kn Ke0 Kr h)
abbrev Q4 (Kn : T4) (Ke0 : T2) (Kr : T0) := QX (D4 Kn) (D0 Kr) (exX 0 (D2 Ke0) noX)
abbrev n6 (Kn Ke0 : T2) (Kr : T0) (h : H) : Prop :=
  Spl (x6 = (1 : Int)) (n7 x0 x3 x6 true Kn Ke0 Kr h) (n7 x0 x3 x6 false Kn Ke0 Kr h)
abbrev n5 (Kn : T2) (Kr : T0) (h : H) : Prop :=
  n6 x0 x3 x6 Kn Kn Kr h
abbrev Q5 (Kn : T3) (Kr : T0) := QX (D3 Kn) (D0 Kr) noX
abbrev n4 (Kn : T2) (Kr : T0) (h : H) : Prop :=
  ∃ i64, cell h (x3.add 0) = some (.int .u8 i64) ∧ (n5 x0 x3 i64 Kn Kr h)
abbrev n2 (Kn Kr : T0) (h : H) : Prop :=
  n4 x0 x3 (fun z0 z3 h => n3 z0 z3 Kn Kr h) Kr h
abbrev n1 (Kn Kr : T0) (h : H) : Prop :=
  newx h ⟨[(.int .u8 x1_0), (.int .u8 x1_1), (S x1_2), (.slice x1_3b x1_3n x1_3c), (S x1_4), (.slice x1_5b x1_5n x1_5c)]⟩ 57 fun a65 h66 => n2 x0 a65 Kn Kr h66
variable {g} {h : H} {p : Prop}
variable {x0 x1_0 x1_1 x1_2 x1_3b x1_3n x1_3c x1_4 x1_5b x1_5n x1_5c x3 x4 x6 x7 x19}
theorem D0_el {K : T0} (hq : D0 K g h) (f : ∀ {x4}, E0 g x4 → K x4 h → p) : p := nilDs_el hq fun d q => vInt_el q fun _ e4 q => f ⟨e4, d⟩ q
theorem D1_el {K : T1} (hq : D1 K g h) (f : ∀ {x0 x1_0 x1_1 x1_2 x1_3b x1_3n x1_3c x1_4 x1_5b x1_5n x1_5c}, E1 g x0 x1_0 x1_1 x1_2 x1_3b x1_3n x1_3c x1_4 x1_5b x1_5n x1_5c → K x0 x1_0 x1_1 x1_2 x1_3b x1_3n x1_3c x1_4 x1_5b x1_5n x1_5c h → p) : p := by
  obtain ⟨d, q0⟩ := nilDs_ok hq
  obtain ⟨_, e0, q1⟩ := vPtr_ok q0
  obtain ⟨l, e1, q2⟩ := vAgg_ok q1
  obtain ⟨_, l, rfl, q3⟩ := uncI q2
  obtain ⟨_, l, rfl, q4⟩ := uncI q3
  obtain ⟨_, l, rfl, q5⟩ := uncS q4
  obtain ⟨_, _, _, l, rfl, q6⟩ := uncL q5
  obtain ⟨_, l, rfl, q7⟩ := uncS q6
  obtain ⟨_, _, _, l, rfl, q8⟩ := uncL q7
  obtain ⟨rfl, q9⟩ := unnil_ok q8
  exact f ⟨e0, e1, d⟩ q9
theorem D2_el {K : T2} (hq : D2 K g h) (f : ∀ {x0 x3}, E2 g x0 x3 → K x0 x3 h → p) : p := nilDs_el hq fun d q => vPtr_el q fun _ e0 q => vAddr_el q fun _ e3 q => f ⟨e0, e3, d⟩ q
theorem n3_ok {Kn Kr : T0} (hg : E2 g x0 x3) (hS : n3 x0 x3 Kn Kr h) : W c4 (Q0 Kn Kr) g h :=
  leafN (by kernel_rfl) (by kernel_rfl) hg hS (by kernel_rfl)
theorem D3_el {K : T3} (hq : D3 K g h) (f : ∀ {x0 x3 x6}, E3 g x0 x3 x6 → K x0 x3 x6 h → p) : p := nilDs_el hq fun d q => vPtr_el q fun _ e0 q => vAddr_el q fun _ e3 q => vInt_el q fun _ e6 q => f ⟨e0, e3, e6, d⟩ q
theorem D4_el {K : T4} (hq : D4 K g h) (f : ∀ {x0 x3 x6 x7}, E4 g x0 x3 x6 x7 → K x0 x3 x6 x7 h → p) : p := nilDs_el hq fun d q => vPtr_el q fun _ e0 q => vAddr_el q fun _ e3 q => vInt_el q fun _ e6 q => vBool_el q fun _ e7 q => f ⟨e0, e3, e6, e7, d⟩ q
theorem n8_ok {Kn Ke0 : T2} {Kr : T0} (hg : E2 g x0 x3) (hS : n8 x0 x3 Kn Ke0 Kr h) : W c10 (Q2 Kn Ke0 Kr) g h :=
  leafN (by kernel_rfl) (by kernel_rfl) hg hS (by kernel_rfl)
theorem D5_el {K : T5} (hq : D5 K g h) (f : ∀ {x0 x3 x19}, E5 g x0 x3 x19 → K x0 x3 x19 h → p) : p := nilDs_el hq fun d q => vPtr_el q fun _ e0 q => vAddr_el q fun _ e3 q => vBool_el q fun _ e19 q => f ⟨e0, e3, e19, d⟩ q
theorem n10_ok {Kn Ke0 : T2} {Kr : T0} (hg : E5 g x0 x3 x19) (hS : n10 x0 x3 x19 Kn Ke0 Kr h) : W c13 (Q2 Kn Ke0 Kr) g h :=
  leafN (by kernel_rfl) (by kernel_rfl) hg hS (by kernel_rfl)
theorem n9_ok {Kn Ke0 : T2} {Kr : T0} (hg : E3 g x0 x3 x6) (hS : n9 x0 x3 x6 Kn Ke0 Kr h) : W c11 (Q2 Kn Ke0 Kr) g h :=
  seqN (x := c12) (N' := D5 (fun z0 z3 z19 h => n10 z0 z3 z19 Kn Ke0 Kr h)) (by kernel_rfl) (leafN (by kernel_rfl) (by kernel_rfl) hg hS (by kernel_rfl)) fun hq => D5_el hq n10_ok
theorem n7_ok {Kn Ke0 : T2} {Kr : T0} (hg : E4 g x0 x3 x6 x7) (hS : n7 x0 x3 x6 x7 Kn Ke0 Kr h) : W c9 (Q2 Kn Ke0 Kr) g h :=
  let ⟨hg0, hg3, hg6, hg7, d⟩ := hg
  condN (by kernel_rfl) rfl hg7 hS (fun hS e => n8_ok ⟨hg0, hg3, d⟩ hS) (fun hS e => n9_ok ⟨hg0, hg3, hg6, d⟩ hS)
theorem n6_ok {Kn Ke0 : T2} {Kr : T0} (hg : E3 g x0 x3 x6) (hS : n6 x0 x3 x6 Kn Ke0 Kr h) : W c7 (Q2 Kn Ke0 Kr) g h :=
  seqN (x := c8) (N' := D4 (fun z0 z3 z6 z7 h => n7 z0 z3 z6 z7 Kn Ke0 Kr h)) (by kernel_rfl) (leafN (by kernel_rfl) (by kernel_rfl) hg hS (by kernel_rfl)) fun hq => D4_el hq n7_ok
theorem n5_ok {Kn : T2} {Kr : T0} (hg : E3 g x0 x3 x6) (hS : n5 x0 x3 x6 Kn Kr h) : W c6 (Q1 Kn Kr) g h := blockN (by kernel_rfl) (n6_ok hg hS)
theorem n4_ok {Kn : T2} {Kr : T0} (hg : E2 g x0 x3) (hS : n4 x0 x3 Kn Kr h) : W c3 (Q1 Kn Kr) g h :=
  seqN (x := c5) (N' := D3 (fun z0 z3 z6 h => n5 z0 z3 z6 Kn Kr h)) (by kernel_rfl) (leafN (by kernel_rfl) (by kernel_rfl) hg hS (by kernel_rfl)) fun hq => D3_el hq n5_ok
theorem n2_ok {Kn Kr : T0} (hg : E2 g x0 x3) (hS : n2 x0 x3 Kn Kr h) : W c2 (Q0 Kn Kr) g h :=
  seqN (by kernel_rfl) (n4_ok hg hS) fun hq => D2_el hq n3_ok
theorem n1_ok {Kn Kr : T0} (hg : E1 g x0 x1_0 x1_1 x1_2 x1_3b x1_3n x1_3c x1_4 x1_5b x1_5n x1_5c) (hS : n1 x0 x1_0 x1_1 x1_2 x1_3b x1_3n x1_3c x1_4 x1_5b x1_5n x1_5c Kn Kr h) : W code (Q0 Kn Kr) g h :=
  seqN (x := c1) (N' := D2 (fun z0 z3 h => n2 z0 z3 Kn Kr h)) (by kernel_rfl) (leafN (by kernel_rfl) (by kernel_rfl) hg hS (by kernel_rfl)) fun hq => D2_el hq n2_ok
/-- WHAT (*tympan/dom.Tree).Make ASKS -/
abbrev asks (x0 : Option Addr) (x1_0 : Int) (x1_1 : Int) (x1_2 : List UInt8) (x1_3b : Option Addr) (x1_3n : Nat) (x1_3c : Nat) (x1_4 : List UInt8) (x1_5b : Option Addr) (x1_5n : Nat) (x1_5c : Nat) (K : Value → H → Prop) (h : H) : Prop := n1 x0 x1_0 x1_1 x1_2 x1_3b x1_3n x1_3c x1_4 x1_5b x1_5n x1_5c (fun y4 h => K (.int .i64 y4) h) (fun y4 h => K (.int .i64 y4) h) h
theorem ok (x0 : Option Addr) (x1_0 : Int) (x1_1 : Int) (x1_2 : List UInt8) (x1_3b : Option Addr) (x1_3n : Nat) (x1_3c : Nat) (x1_4 : List UInt8) (x1_5b : Option Addr) (x1_5n : Nat) (x1_5c : Nat) (K : Value → H → Prop) (h : H) (hS : asks x0 x1_0 x1_1 x1_2 x1_3b x1_3n x1_3c x1_4 x1_5b x1_5n x1_5c K h) : HCalls Tryz.prog 29 ⟨[(.pointer x0), (.agg ⟨[(.int .u8 x1_0), (.int .u8 x1_1), (S x1_2), (.slice x1_3b x1_3n x1_3c), (S x1_4), (.slice x1_5b x1_5n x1_5c)]⟩)]⟩ h K :=
  callsN (c := code) Tryz.func29 (by kernel_rfl) (by kernel_rfl) (n1_ok ⟨rfl, rfl, rfl⟩ hS) fun hq => D0_el hq fun hg hq => retN hg hq (by kernel_rfl)
end Sx.dom_Tree_Make

/-! ### (*tympan/dom.Tree).Put -/
namespace Sx.dom_Tree_Put
noncomputable def code : Code := bodyOf Tryz.f30
abbrev W := wpC none Tryz.prog 64
variable (g : Env) (x0 : Option Addr) (x1 x2 x3 : Int) (x8 : Bool) (x9 x10 : Option Addr)
abbrev T0 := Bool → H → Prop
abbrev E0 := Held g [(8, .bool x8)]
def D0 (K : T0) (g : Env) (h : H) : Prop := nilDs g.ds (vBool (g.v 8) fun b1 => K b1 h)
abbrev Q0 (Kn Kr : T0) := QX (D0 Kn) (D0 Kr) noX
abbrev T1 := (Option Addr) → Int → Int → Int → H → Prop
abbrev E1 := Held g [(0, .pointer x0), (1, .int .i64 x1), (2, .int .i64 x2), (3, .int .i64 x3)]
def D1 (K : T1) (g : Env) (h : H) : Prop := nilDs g.ds (vPtr (g.v 0) fun p2 => vInt .i64 (g.v 1) fun i3 => vInt .i64 (g.v 2) fun i4 => vInt .i64 (g.v 3) fun i5 => K p2 i3 i4 i5 h)
noncomputable def c1 := cFst code
noncomputable def c2 := cSnd code
noncomputable def c3 := cFst c2
noncomputable def c4 := cSnd c2
abbrev T2 := (Option Addr) → Int → Int → Int → (Option Addr) → (Option Addr) → H → Prop
abbrev E2 := Held g [(0, .pointer x0), (1, .int .i64 x1), (2, .int .i64 x2), (3, .int .i64 x3), (9, .pointer x9), (10, .pointer x10)]
def D2 (K : T2) (g : Env) (h : H) : Prop := nilDs g.ds (vPtr (g.v 0) fun p6 => vInt .i64 (g.v 1) fun i7 => vInt .i64 (g.v 2) fun i8 => vInt .i64 (g.v 3) fun i9 => vPtr (g.v 9) fun p10 => vPtr (g.v 10) fun p11 => K p6 i7 i8 i9 p10 p11 h)
noncomputable def c5 := cFst c4
noncomputable def c6 := cSnd c4
noncomputable def c7 := cFst c6
noncomputable def c8 := cSnd c6
abbrev T3 := Int → Int → Int → (Option Addr) → (Option Addr) → H → Prop
abbrev E3 := Held g [(1, .int .i64 x1), (2, .int .i64 x2), (3, .int .i64 x3), (9, .pointer x9), (10, .pointer x10)]
def D3 (K : T3) (g : Env) (h : H) : Prop := nilDs g.ds (vInt .i64 (g.v 1) fun i12 => vInt .i64 (g.v 2) fun i13 => vInt .i64 (g.v 3) fun i14 => vPtr (g.v 9) fun p15 => vPtr (g.v 10) fun p16 => K i12 i13 i14 p15 p16 h)
abbrev n5 (Kn Kr : T0) (h : H) : Prop :=
  (vSome x9 fun a17 => ∃ s18b s18n s18c, cell h (a17.add 7) = some (.slice s18b s18n s18c) ∧ (HCalls Tryz.prog 57 ⟨[(.pointer x9), (.int .i64 x2)]⟩ h fun v19 h20 => vInt .i64 v19 fun i21 => ExtH h h20 ∧ (newx h20 #[(.int .i64 x3)] 3 fun a22 h23 => ExtH h20 h23 ∧ (HCalls Tryz.prog 60 ⟨[(.slice s18b s18n s18c), (.int .i64 i21), (.slice (some a22) 1 1)]⟩ h23 fun v24 h25 => vSlice v24 fun s26b s26n s26c => vSome x9 fun a27 => stL (a27.add 7) [(.slice s26b s26n s26c)] 0 h25 fun h28 => vSome x10 fun a29 => stL (a29.add 6) [(.int .i64 x1)] 0 h28 fun h30 => Kr true h30)))) ∧ (vSome x9 fun a31 => ∃ s32b s32n s32c, cell h (a31.add 7) = some (.slice s32b s32n s32c) ∧ (newx h #[(.int .i64 x3)] 3 fun a33 h34 => ExtH h h34 ∧ (HCalls Tryz.prog 57 ⟨[(.pointer x9), (.int .i64 x2)]⟩ h34 fun v35 h36 => vInt .i64 v35 fun i37 => ExtH h34 h36 ∧ (HCalls Tryz.prog 60 ⟨[(.slice s32b s32n s32c), (.int .i64 i37), (.slice (some a33) 1 1)]⟩ h36 fun v38 h39 => vSlice v38 fun s40b s40n s40c => vSome x9 fun a41 => stL (a41.add 7) [(.slice s40b s40n s40c)] 0 h39 fun h42 => vSome x10 fun a43 => stL (a43.add 6) [(.int .i64 x1)] 0 h42 fun h44 => Kr true h44))))
abbrev Q1 (Kn : T3) (Kr : T0) := QX (D3 Kn) (D0 Kr) noX
abbrev n4 (Kn Kr : T0) (h : H) : Prop :=
  HCalls Tryz.prog 59 ⟨[(.pointer x0), (.int .i64 x3)]⟩ h fun v45 h46 => vBool v45 fun b47 => cond b47 (n5 x1 x2 x3 x9 x10 Kn Kr h46) (n5 x1 x2 x3 x9 x10 Kn Kr h46)
abbrev Q2 (Kn : T2) (Kr : T0) := QX (D2 Kn) (D0 Kr) noX
abbrev n3 (Kn Kr : T0) (h : H) : Prop :=
  SemH Tryz.prog (binS .eql 80 (.tmp 17) (.const (.pointer none)) (.pointer x9) (.pointer none)) h fun v48 h49 => vBool v48 fun b50 => cond b50 (Kr false h49) (SemH Tryz.prog (binS .eql 80 (.tmp 20) (.const (.pointer none)) (.pointer x10) (.pointer none)) h49 fun v51 h52 => vBool v51 fun b53 => cond b53 (Kr false h52) (Spl (x3 = (0 : Int)) (Kr false h52) (Spl (x2 = x3) (Kr false h52) (HCalls Tryz.prog 57 ⟨[(.pointer x9), (.int .i64 x2)]⟩ h52 fun v54 h55 => vInt .i64 v54 fun i56 => Spl (i56 < (0 : Int)) (Kr false h55) (HCalls Tryz.prog 58 ⟨[(.pointer x0), (.int .i64 x1), (.int .i64 x3)]⟩ h55 fun v57 h58 => vBool v57 fun b59 => cond b59 (Kr false h58) (n4 x0 x1 x2 x3 x9 x10 Kn Kr h58))))))
abbrev n2 (Kn Kr : T0) (h : H) : Prop :=
  HCalls Tryz.prog 56 ⟨[(.pointer x0), (.int .i64 x1)]⟩ h fun v60 h61 => vPtr v60 fun p62 => HCalls Tryz.prog 51 ⟨[(.pointer x0), (.int .i64 x3)]⟩ h61 fun v63 h64 => vPtr v63 fun p65 => n3 x0 x1 x2 x3 p62 p65 Kn Kr h64
abbrev Q3 (Kn : T1) (Kr : T0) := QX (D1 Kn) (D0 Kr) noX
abbrev n1 (Kn Kr : T0) (h : H) : Prop :=
  n2 x0 x1 x2 x3 Kn Kr h
variable {g} {h : H} {p : Prop}
variable {x0 x1 x2 x3 x8 x9 x10}
theorem D0_el {K : T0} (hq : D0 K g h) (f : ∀ {x8}, E0 g x8 → K x8 h → p) : p := nilDs_el hq fun d q => vBool_el q fun _ e8 q => f ⟨e8, d⟩ q
theorem D1_el {K : T1} (hq : D1 K g h) (f : ∀ {x0 x1 x2 x3}, E1 g x0 x1 x2 x3 → K x0 x1 x2 x3 h → p) : p := nilDs_el hq fun d q => vPtr_el q fun _ e0 q => vInt_el q fun _ e1 q => vInt_el q fun _ e2 q => vInt_el q fun _ e3 q => f ⟨e0, e1, e2, e3, d⟩ q
theorem D2_el {K : T2} (hq : D2 K g h) (f : ∀ {x0 x1 x2 x3 x9 x10}, E2 g x0 x1 x2 x3 x9 x10 → K x0 x1 x2 x3 x9 x10 h → p) : p := nilDs_el hq fun d q => vPtr_el q fun _ e0 q => vInt_el q fun _ e1 q => vInt_el q fun _ e2 q => vInt_el q fun _ e3 q => vPtr_el q fun _ e9 q => vPtr_el q fun _ e10 q => f ⟨e0, e1, e2, e3, e9, e10, d⟩ q
theorem D3_el {K : T3} (hq : D3 K g h) (f : ∀ {x1 x2 x3 x9 x10}, E3 g x1 x2 x3 x9 x10 → K x1 x2 x3 x9 x10 h → p) : p := nilDs_el hq fun d q => vInt_el q fun _ e1 q => vInt_el q fun _ e2 q => vInt_el q fun _ e3 q => vPtr_el q fun _ e9 q => vPtr_el q fun _ e10 q => f ⟨e1, e2, e3, e9, e10, d⟩ q
theorem n5_ok {Kn Kr : T0} (hg : E3 g x1 x2 x3 x9 x10) (hS : n5 x1 x2 x3 x9 x10 Kn Kr h) : W c8 (Q0 Kn Kr) g h :=
  leafN (by kernel_rfl) (by kernel_rfl) hg hS (by kernel_rfl)
theorem n4_ok {Kn Kr : T0} (hg : E2 g x0 x1 x2 x3 x9 x10) (hS : n4 x0 x1 x2 x3 x9 x10 Kn Kr h) : W c6 (Q0 Kn Kr) g h :=
  seqN (x := c7) (N' := D3 (fun z1 z2 z3 z9 z10 h => n5 z1 z2 z3 z9 z10 Kn Kr h)) (by kernel_rfl) (leafN (by kernel_rfl) (by kernel_rfl) hg hS (by kernel_rfl)) fun hq => D3_el hq n5_ok
theorem n3_ok {Kn Kr : T0} (hg : E2 g x0 x1 x2 x3 x9 x10) (hS : n3 x0 x1 x2 x3 x9 x10 Kn Kr h) : W c4 (Q0 Kn Kr) g h :=
  seqN (x := c5) (N' := D2 (fun z0 z1 z2 z3 z9 z10 h => n4 z0 z1 z2 z3 z9 z10 Kn Kr h)) (by kernel_rfl) (leafN (by kernel_rfl) (by kernel_rfl) hg hS (by kernel_rfl)) fun hq => D2_el hq n4_ok
theorem n2_ok {Kn Kr : T0} (hg : E1 g x0 x1 x2 x3) (hS : n2 x0 x1 x2 x3 Kn Kr h) : W c2 (Q0 Kn Kr) g h :=
  seqN (x := c3) (N' := D2 (fun z0 z1 z2 z3 z9 z10 h => n3 z0 z1 z2 z3 z9 z10 Kn Kr h)) (by kernel_rfl) (leafN (by kernel_rfl) (by kernel_rfl) hg hS (by kernel_rfl)) fun hq => D2_el hq n3_ok
theorem n1_ok {Kn Kr : T0} (hg : E1 g x0 x1 x2 x3) (hS : n1 x0 x1 x2 x3 Kn Kr h) : W code (Q0 Kn Kr) g h :=
  seqN (x := c1) (N' := D1 (fun z0 z1 z2 z3 h => n2 z0 z1 z2 z3 Kn Kr h)) (by kernel_rfl) (leafN (by kernel_rfl) (by kernel_rfl) hg hS (by kernel_rfl)) fun hq => D1_el hq n2_ok
/-- WHAT (*tympan/dom.Tree).Put ASKS -/
abbrev asks (x0 : Option Addr) (x1 : Int) (x2 : Int) (x3 : Int) (K : Value → H → Prop) (h : H) : Prop := n1 x0 x1 x2 x3 (fun y8 h => K (.bool y8) h) (fun y8 h => K (.bool y8) h) h
theorem ok (x0 : Option Addr) (x1 : Int) (x2 : Int) (x3 : Int) (K : Value → H → Prop) (h : H) (hS : asks x0 x1 x2 x3 K h) : HCalls Tryz.prog 30 ⟨[(.pointer x0), (.int .i64 x1), (.int .i64 x2), (.int .i64 x3)]⟩ h K :=
  callsN (c := code) Tryz.func30 (by kernel_rfl) (by kernel_rfl) (n1_ok ⟨rfl, rfl, rfl, rfl, rfl⟩ hS) fun hq => D0_el hq fun hg hq => retN hg hq (by kernel_rfl)
end Sx.dom_Tree_Put

/-! ### (*tympan/dom.Tree).Write -/
namespace Sx.dom_Tree_Write
noncomputable def code : Code := bodyOf Tryz.f38
abbrev W := wpC none Tryz.prog 68
variable (g : Env) (x0 : Option Addr) (x1 x2 : Int) (x3 : List UInt8) (x8 : Bool) (x9 : Option Addr) (x10 : Int) (x29 : Bool)
abbrev T0 := Bool → H → Prop
abbrev E0 := Held g [(8, .bool x8)]
def D0 (K : T0) (g : Env) (h : H) : Prop := nilDs g.ds (vBool (g.v 8) fun b1 => K b1 h)
abbrev Q0 (Kn Kr : T0) := QX (D0 Kn) (D0 Kr) noX
abbrev T1 := (Option Addr) → Int → Int → (List UInt8) → H → Prop
abbrev E1 := Held g [(0, .pointer x0), (1, .int .i64 x1), (2, .int .i64 x2), (3, S x3)]
def D1 (K : T1) (g : Env) (h : H) : Prop := nilDs g.ds (vPtr (g.v 0) fun p2 => vInt .i64 (g.v 1) fun i3 => vInt .i64 (g.v 2) fun i4 => vStr (g.v 3) fun s5 => K p2 i3 i4 s5 h)
noncomputable def c1 := cFst code
noncomputable def c2 := cSnd code
noncomputable def c3 := cFst c2
noncomputable def c4 := cSnd c2
abbrev T2 := (Option Addr) → Int → Int → (List UInt8) → (Option Addr) → H → Prop
abbrev E2 := Held g [(0, .pointer x0), (1, .int .i64 x1), (2, .int .i64 x2), (3, S x3), (9, .pointer x9)]
def D2 (K : T2) (g : Env) (h : H) : Prop := nilDs g.ds (vPtr (g.v 0) fun p6 => vInt .i64 (g.v 1) fun i7 => vInt .i64 (g.v 2) fun i8 => vStr (g.v 3) fun s9 => vPtr (g.v 9) fun p10 => K p6 i7 i8 s9 p10 h)
noncomputable def c5 := cFst c4
noncomputable def c6 := cSnd c4
noncomputable def c7 := cFst c6
noncomputable def c8 := cSnd c6
noncomputable def c9 := cFst c8
noncomputable def c10 := cSnd c8
abbrev n6 (Kn Kr : T0) (h : H) : Prop :=
  HCalls Tryz.prog 29 ⟨[(.pointer x0), (.agg ⟨[(.int .u8 (2 : Int)), (.int .u8 (0 : Int)), (S ([] : List UInt8)), (.slice none 0 0), (S x3), (.slice none 0 0)]⟩)]⟩ h fun v11 h12 => vInt .i64 v11 fun i13 => HCalls Tryz.prog 30 ⟨[(.pointer x0), (.int .i64 x1), (.int .i64 x2), (.int .i64 i13)]⟩ h12 fun v14 h15 => vBool v14 fun b16 => cond b16 (Kr true h15) (Kr false h15)
abbrev Q1 (Kn : T1) (Kr : T0) := QX (D1 Kn) (D0 Kr) noX
noncomputable def c11 := cFst c9
noncomputable def c12 := cSnd c9
abbrev T3 := (Option Addr) → Int → Int → (List UInt8) → (Option Addr) → Int → H → Prop
abbrev E3 := Held g [(0, .pointer x0), (1, .int .i64 x1), (2, .int .i64 x2), (3, S x3), (9, .pointer x9), (10, .int .i64 x10)]
def D3 (K : T3) (g : Env) (h : H) : Prop := nilDs g.ds (vPtr (g.v 0) fun p17 => vInt .i64 (g.v 1) fun i18 => vInt .i64 (g.v 2) fun i19 => vStr (g.v 3) fun s20 => vPtr (g.v 9) fun p21 => vInt .i64 (g.v 10) fun i22 => K p17 i18 i19 s20 p21 i22 h)
noncomputable def c13 := cFst c12
noncomputable def c14 := cSnd c12
abbrev T4 := (Option Addr) → Int → Int → (List UInt8) → (Option Addr) → Int → Bool → H → Prop
abbrev E4 := Held g [(0, .pointer x0), (1, .int .i64 x1), (2, .int .i64 x2), (3, S x3), (9, .pointer x9), (10, .int .i64 x10), (29, .bool x29)]
def D4 (K : T4) (g : Env) (h : H) : Prop := nilDs g.ds (vPtr (g.v 0) fun p23 => vInt .i64 (g.v 1) fun i24 => vInt .i64 (g.v 2) fun i25 => vStr (g.v 3) fun s26 => vPtr (g.v 9) fun p27 => vInt .i64 (g.v 10) fun i28 => vBool (g.v 29) fun b29 => K p23 i24 i25 s26 p27 i28 b29 h)
abbrev n9 (Kn : T1) (Kr : T0) (h : H) : Prop :=
  cond x29 (vSome x0 fun a30 => ∃ s31b s31n s31c, cell h (a30.add 0) = some (.slice s31b s31n s31c) ∧ (vSome x9 fun a32 => ∃ s33b s33n s33c, cell h (a32.add 7) = some (.slice s33b s33n s33c) ∧ (Rng .i64 (x10 - (1 : Int)) ∧ ((0 ≤ (x10 - (1 : Int)) ∧ (x10 - (1 : Int)) < (s33n : Int)) ∧ (vSome s33b fun a34 => ∃ i35, cell h (a34.add (Int.toNat (x10 - (1 : Int)) * 1)) = some (.int .i64 i35) ∧ ((0 ≤ i35 ∧ i35 < (s31n : Int)) ∧ (vSome s31b fun a36 => ∃ p37, cell h (a36.add (Int.toNat i35 * 1)) = some (.pointer p37) ∧ (vSome p37 fun a38 => ∃ i39, cell h ((a38.add 0).add 0) = some (.int .u8 i39) ∧ (Spl (i39 = (2 : Int)) (vSome p37 fun a40 => ∃ s41, cell h ((a40.add 0).add 4) = some (S s41) ∧ (((s41.length + x3.length : Nat) : Int) ≤ 9223372036854775807 ∧ (vSome p37 fun a42 => stL ((a42.add 0).add 4) [(S (s41 ++ x3))] 0 h fun h43 => Kr true h43))) (Kn x0 x1 x2 x3 h)))))))))) (Kn x0 x1 x2 x3 h)
abbrev Q2 (Kn : T4) (Kr : T0) := QX (D4 Kn) (D0 Kr) noX
abbrev n8 (Kn : T1) (Kr : T0) (h : H) : Prop :=
  Spl (x10 > (0 : Int)) (n9 x0 x1 x2 x3 x9 x10 true Kn Kr h) (n9 x0 x1 x2 x3 x9 x10 false Kn Kr h)
abbrev Q3 (Kn : T3) (Kr : T0) := QX (D3 Kn) (D0 Kr) noX
abbrev n7 (Kn : T1) (Kr : T0) (h : H) : Prop :=
  HCalls Tryz.prog 57 ⟨[(.pointer x9), (.int .i64 x2)]⟩ h fun v44 h45 => vInt .i64 v44 fun i46 => n8 x0 x1 x2 x3 x9 i46 Kn Kr h45
abbrev n5 (Kn Kr : T0) (h : H) : Prop :=
  n7 x0 x1 x2 x3 x9 (fun z0 z1 z2 z3 h => n6 z0 z1 z2 z3 Kn Kr h) Kr h
abbrev Q4 (Kn : T2) (Kr : T0) := QX (D2 Kn) (D0 Kr) noX
abbrev n4 (Kn Kr : T0) (h : H) : Prop :=
  Spl (x3 = ([] : List UInt8)) (Kr true h) (n5 x0 x1 x2 x3 x9 Kn Kr h)
abbrev n3 (Kn Kr : T0) (h : H) : Prop :=
  SemH Tryz.prog (binS .eql 80 (.tmp 15) (.const (.pointer none)) (.pointer x9) (.pointer none)) h fun v47 h48 => vBool v47 fun b49 => cond b49 (Kr false h48) (HCalls Tryz.prog 57 ⟨[(.pointer x9), (.int .i64 x2)]⟩ h48 fun v50 h51 => vInt .i64 v50 fun i52 => Spl (i52 < (0 : Int)) (Kr false h51) (n4 x0 x1 x2 x3 x9 Kn Kr h51))
abbrev n2 (Kn Kr : T0) (h : H) : Prop :=
  HCalls Tryz.prog 56 ⟨[(.pointer x0), (.int .i64 x1)]⟩ h fun v53 h54 => vPtr v53 fun p55 => n3 x0 x1 x2 x3 p55 Kn Kr h54
abbrev n1 (Kn Kr : T0) (h : H) : Prop :=
  n2 x0 x1 x2 x3 Kn Kr h
variable {g} {h : H} {p : Prop}
variable {x0 x1 x2 x3 x8 x9 x10 x29}
theorem D0_el {K : T0} (hq : D0 K g h) (f : ∀ {x8}, E0 g x8 → K x8 h → p) : p := nilDs_el hq fun d q => vBool_el q fun _ e8 q => f ⟨e8, d⟩ q
theorem D1_el {K : T1} (hq : D1 K g h) (f : ∀ {x0 x1 x2 x3}, E1 g x0 x1 x2 x3 → K x0 x1 x2 x3 h → p) : p := nilDs_el hq fun d q => vPtr_el q fun _ e0 q => vInt_el q fun _ e1 q => vInt_el q fun _ e2 q => vStr_el q fun _ e3 q => f ⟨e0, e1, e2, e3, d⟩ q
theorem D2_el {K : T2} (hq : D2 K g h) (f : ∀ {x0 x1 x2 x3 x9}, E2 g x0 x1 x2 x3 x9 → K x0 x1 x2 x3 x9 h → p) : p := nilDs_el hq fun d q => vPtr_el q fun _ e0 q => vInt_el q fun _ e1 q => vInt_el q fun _ e2 q => vStr_el q fun _ e3 q => vPtr_el q fun _ e9 q => f ⟨e0, e1, e2, e3, e9, d⟩ q
theorem n6_ok {Kn Kr : T0} (hg : E1 g x0 x1 x2 x3) (hS : n6 x0 x1 x2 x3 Kn Kr h) : W c10 (Q0 Kn Kr) g h :=
  leafN (by kernel_rfl) (by kernel_rfl) hg hS (by kernel_rfl)
theorem D3_el {K : T3} (hq : D3 K g h) (f : ∀ {x0 x1 x2 x3 x9 x10}, E3 g x0 x1 x2 x3 x9 x10 → K x0 x1 x2 x3 x9 x10 h → p) : p := nilDs_el hq fun d q => vPtr_el q fun _ e0 q => vInt_el q fun _ e1 q => vInt_el q fun _ e2 q => vStr_el q fun _ e3 q => vPtr_el q fun _ e9 q => vInt_el q fun _ e10 q => f ⟨e0, e1, e2, e3, e9, e10, d⟩ q
theorem D4_el {K : T4} (hq : D4 K g h) (f : ∀ {x0 x1 x2 x3 x9 x10 x29}, E4 g x0 x1 x2 x3 x9 x10 x29 → K x0 x1 x2 x3 x9 x10 x29 h → p) : p := nilDs_el hq fun d q => vPtr_el q fun _ e0 q => vInt_el q fun _ e1 q => vInt_el q fun _ e2 q => vStr_el q fun _ e3 q => vPtr_el q fun _ e9 q => vInt_el q fun _ e10 q => vBool_el q fun _ e29 q => f ⟨e0, e1, e2, e3, e9, e10, e29, d⟩ q
theorem n9_ok {Kn : T1} {Kr : T0} (hg : E4 g x0 x1 x2 x3 x9 x10 x29) (hS : n9 x0 x1 x2 x3 x9 x10 x29 Kn Kr h) : W c14 (Q1 Kn Kr) g h :=
  leafN (by kernel_rfl) (by kernel_rfl) hg hS (by kernel_rfl)
theorem n8_ok {Kn : T1} {Kr : T0} (hg : E3 g x0 x1 x2 x3 x9 x10) (hS : n8 x0 x1 x2 x3 x9 x10 Kn Kr h) : W c12 (Q1 Kn Kr) g h :=
  seqN (x := c13) (N' := D4 (fun z0 z1 z2 z3 z9 z10 z29 h => n9 z0 z1 z2 z3 z9 z10 z29 Kn Kr h)) (by kernel_rfl) (leafN (by kernel_rfl) (by kernel_rfl) hg hS (by kernel_rfl)) fun hq => D4_el hq n9_ok
theorem n7_ok {Kn : T1} {Kr : T0} (hg : E2 g x0 x1 x2 x3 x9) (hS : n7 x0 x1 x2 x3 x9 Kn Kr h) : W c9 (Q1 Kn Kr) g h :=
  seqN (x := c11) (N' := D3 (fun z0 z1 z2 z3 z9 z10 h => n8 z0 z1 z2 z3 z9 z10 Kn Kr h)) (by kernel_rfl) (leafN (by kernel_rfl) (by kernel_rfl) hg hS (by kernel_rfl)) fun hq => D3_el hq n8_ok
theorem n5_ok {Kn Kr : T0} (hg : E2 g x0 x1 x2 x3 x9) (hS : n5 x0 x1 x2 x3 x9 Kn Kr h) : W c8 (Q0 Kn Kr) g h :=
  seqN (by kernel_rfl) (n7_ok hg hS) fun hq => D1_el hq n6_ok
theorem n4_ok {Kn Kr : T0} (hg : E2 g x0 x1 x2 x3 x9) (hS : n4 x0 x1 x2 x3 x9 Kn Kr h) : W c6 (Q0 Kn Kr) g h :=
  seqN (x := c7) (N' := D2 (fun z0 z1 z2 z3 z9 h => n5 z0 z1 z2 z3 z9 Kn Kr h)) (by kernel_rfl) (leafN (by kernel_rfl) (by kernel_rfl) hg hS (by kernel_rfl)) fun hq => D2_el hq n5_ok
theorem n3_ok {Kn Kr : T0} (hg : E2 g x0 x1 x2 x3 x9) (hS : n3 x0 x1 x2 x3 x9 Kn Kr h) : W c4 (Q0 Kn Kr) g h :=
  seqN (x := c5) (N' := D2 (fun z0 z1 z2 z3 z9 h => n4 z0 z1 z2 z3 z9 Kn Kr h)) (by kernel_rfl) (leafN (by kernel_rfl) (by kernel_rfl) hg hS (by kernel_rfl)) fun hq => D2_el hq n4_ok
theorem n2_ok {Kn Kr : T0} (hg : E1 g x0 x1 x2 x3) (hS : n2 x0 x1 x2 x3 Kn Kr h) : W c2 (Q0 Kn Kr) g h :=
  seqN (x := c3) (N' := D2 (fun z0 z1 z2 z3 z9 h => n3 z0 z1 z2 z3 z9 Kn Kr h)) (by kernel_rfl) (leafN (by kernel_rfl) (by kernel_rfl) hg hS (by kernel_rfl)) fun hq => D2_el hq n3_ok
theorem n1_ok {Kn Kr : T0} (hg : E1 g x0 x1 x2 x3) (hS : n1 x0 x1 x2 x3 Kn Kr h) : W code (Q0 Kn Kr) g h :=
  seqN (x := c1) (N' := D1 (fun z0 z1 z2 z3 h => n2 z0 z1 z2 z3 Kn Kr h)) (by kernel_rfl) (leafN (by kernel_rfl) (by kernel_rfl) hg hS (by kernel_rfl)) fun hq => D1_el hq n2_ok
/-- WHAT (*tympan/dom.Tree).Write ASKS -/
abbrev asks (x0 : Option Addr) (x1 : Int) (x2 : Int) (x3 : List UInt8) (K : Value → H → Prop) (h : H) : Prop := n1 x0 x1 x2 x3 (fun y8 h => K (.bool y8) h) (fun y8 h => K (.bool y8) h) h
theorem ok (x0 : Option Addr) (x1 : Int) (x2 : Int) (x3 : List UInt8) (K : Value → H → Prop) (h : H) (hS : asks x0 x1 x2 x3 K h) : HCalls Tryz.prog 38 ⟨[(.pointer x0), (.int .i64 x1), (.int .i64 x2), (S x3)]⟩ h K :=
  callsN (c := code) Tryz.func38 (by kernel_rfl) (by kernel_rfl) (n1_ok ⟨rfl, rfl, rfl, rfl, rfl⟩ hS) fun hq => D0_el hq fun hg hq => retN hg hq (by kernel_rfl)
end Sx.dom_Tree_Write

/-! ### (*tympan/dom.Tree).at -/
namespace Sx.dom_Tree_at
noncomputable def code : Code := bodyOf Tryz.f51
abbrev W := wpC none Tryz.prog 23
variable (g : Env) (x0 : Option Addr) (x1 : Int) (x4 : Option Addr)
abbrev T0 := (Option Addr) → H → Prop
abbrev E0 := Held g [(4, .pointer x4)]
def D0 (K : T0) (g : Env) (h : H) : Prop := nilDs g.ds (vPtr (g.v 4) fun p1 => K p1 h)
abbrev Q0 (Kn Kr : T0) := QX (D0 Kn) (D0 Kr) noX
abbrev T1 := (Option Addr) → Int → H → Prop
abbrev E1 := Held g [(0, .pointer x0), (1, .int .i64 x1)]
def D1 (K : T1) (g : Env) (h : H) : Prop := nilDs g.ds (vPtr (g.v 0) fun p2 => vInt .i64 (g.v 1) fun i3 => K p2 i3 h)
abbrev n1 (Kn Kr : T0) (h : H) : Prop :=
  Spl (x1 < (0 : Int)) (Kr none h) (vSome x0 fun a4 => ∃ s5b s5n s5c, cell h (a4.add 0) = some (.slice s5b s5n s5c) ∧ (Spl (x1 ≥ (s5n : Int)) (Kr none h) (vSome x0 fun a6 => ∃ s7b s7n s7c, cell h (a6.add 0) = some (.slice s7b s7n s7c) ∧ ((0 ≤ x1 ∧ x1 < (s7n : Int)) ∧ (vSome s7b fun a8 => ∃ p9, cell h (a8.add (Int.toNat x1 * 1)) = some (.pointer p9) ∧ (Kr p9 h))))))
variable {g} {h : H} {p : Prop}
variable {x0 x1 x4}
theorem D0_el {K : T0} (hq : D0 K g h) (f : ∀ {x4}, E0 g x4 → K x4 h → p) : p := nilDs_el hq fun d q => vPtr_el q fun _ e4 q => f ⟨e4, d⟩ q
theorem D1_el {K : T1} (hq : D1 K g h) (f : ∀ {x0 x1}, E1 g x0 x1 → K x0 x1 h → p) : p := nilDs_el hq fun d q => vPtr_el q fun _ e0 q => vInt_el q fun _ e1 q => f ⟨e0, e1, d⟩ q
theorem n1_ok {Kn Kr : T0} (hg : E1 g x0 x1) (hS : n1 x0 x1 Kn Kr h) : W code (Q0 Kn Kr) g h :=
  leafN (by kernel_rfl) (by kernel_rfl) hg hS (by kernel_rfl)
/-- WHAT (*tympan/dom.Tree).at ASKS -/
abbrev asks (x0 : Option Addr) (x1 : Int) (K : Value → H → Prop) (h : H) : Prop := n1 x0 x1 (fun y4 h => K (.pointer y4) h) (fun y4 h => K (.pointer y4) h) h
theorem ok (x0 : Option Addr) (x1 : Int) (K : Value → H → Prop) (h : H) (hS : asks x0 x1 K h) : HCalls Tryz.prog 51 ⟨[(.pointer x0), (.int .i64 x1)]⟩ h K :=
  callsN (c := code) Tryz.func51 (by kernel_rfl) (by kernel_rfl) (n1_ok ⟨rfl, rfl, rfl⟩ hS) fun hq => D0_el hq fun hg hq => retN hg hq (by kernel_rfl)
end Sx.dom_Tree_at

/-! ### slices.Clone[[]tympan/api.Attr,tympan/api.Attr] -/
namespace Sx.slices_Clone_apiAttr
noncomputable def code : Code := bodyOf Tryz.f52
abbrev W := wpC none Tryz.prog 8
variable (g : Env) (x0b : Option Addr) (x0n x0c : Nat) (x2b : Option Addr) (x2n x2c : Nat)
abbrev T0 := (Option Addr) → Nat → Nat → H → Prop
abbrev E0 := Held g [(2, .slice x2b x2n x2c)]
def D0 (K : T0) (g : Env) (h : H) : Prop := nilDs g.ds (vSlice (g.v 2) fun s1b s1n s1c => K s1b s1n s1c h)
abbrev Q0 (Kn Kr : T0) := QX (D0 Kn) (D0 Kr) noX
abbrev T1 := (Option Addr) → Nat → Nat → H → Prop
abbrev E1 := Held g [(0, .slice x0b x0n x0c)]
def D1 (K : T1) (g : Env) (h : H) : Prop := nilDs g.ds (vSlice (g.v 0) fun s2b s2n s2c => K s2b s2n s2c h)
abbrev n1 (Kn Kr : T0) (h : H) : Prop :=
  SemH Tryz.prog (binS .eql 29 (.tmp 3) (.const (.slice none 0 0)) (.slice x0b x0n x0c) (.slice none 0 0)) h fun v3 h4 => vBool v3 fun b5 => cond b5 (Kr none 0 0 h4) (newx h4 #[] 79 fun a6 h7 => SemH Tryz.prog (Builtin.append_ #[29, 29] 29 ⟨[(.slice (some a6) 0 0), (.slice x0b x0n x0c)]⟩) h7 fun v8 h9 => vSlice v8 fun s10b s10n s10c => Kr s10b s10n s10c h9)
variable {g} {h : H} {p : Prop}
variable {x0b x0n x0c x2b x2n x2c}
theorem D0_el {K : T0} (hq : D0 K g h) (f : ∀ {x2b x2n x2c}, E0 g x2b x2n x2c → K x2b x2n x2c h → p) : p := nilDs_el hq fun d q => vSlice_el q fun _ _ _ e2 q => f ⟨e2, d⟩ q
theorem D1_el {K : T1} (hq : D1 K g h) (f : ∀ {x0b x0n x0c}, E1 g x0b x0n x0c → K x0b x0n x0c h → p) : p := nilDs_el hq fun d q => vSlice_el q fun _ _ _ e0 q => f ⟨e0, d⟩ q
theorem n1_ok {Kn Kr : T0} (hg : E1 g x0b x0n x0c) (hS : n1 x0b x0n x0c Kn Kr h) : W code (Q0 Kn Kr) g h :=
  leafN (by kernel_rfl) (by kernel_rfl) hg hS (by kernel_rfl)
/-- WHAT slices.Clone[[]tympan/api.Attr,tympan/api.Attr] ASKS -/
abbrev asks (x0b : Option Addr) (x0n : Nat) (x0c : Nat) (K : Value → H → Prop) (h : H) : Prop := n1 x0b x0n x0c (fun y2b y2n y2c h => K (.slice y2b y2n y2c) h) (fun y2b y2n y2c h => K (.slice y2b y2n y2c) h) h
theorem ok (x0b : Option Addr) (x0n : Nat) (x0c : Nat) (K : Value → H → Prop) (h : H) (hS : asks x0b x0n x0c K h) : HCalls Tryz.prog 52 ⟨[(.slice x0b x0n x0c)]⟩ h K :=
  callsN (c := code) Tryz.func52 (by kernel_rfl) (by kernel_rfl) (n1_ok ⟨rfl, rfl⟩ hS) fun hq => D0_el hq fun hg hq => retN hg hq (by kernel_rfl)
end Sx.slices_Clone_apiAttr

/-! ### (*tympan/dom.Tree).holder -/
namespace Sx.dom_Tree_holder
noncomputable def code : Code := bodyOf Tryz.f56
abbrev W := wpC none Tryz.prog 24
variable (g : Env) (x0 : Option Addr) (x1 : Int) (x4 : Option Addr)
abbrev T0 := (Option Addr) → H → Prop
abbrev E0 := Held g [(4, .pointer x4)]
def D0 (K : T0) (g : Env) (h : H) : Prop := nilDs g.ds (vPtr (g.v 4) fun p1 => K p1 h)
abbrev Q0 (Kn Kr : T0) := QX (D0 Kn) (D0 Kr) noX
abbrev T1 := (Option Addr) → Int → H → Prop
abbrev E1 := Held g [(0, .pointer x0), (1, .int .i64 x1)]
def D1 (K : T1) (g : Env) (h : H) : Prop := nilDs g.ds (vPtr (g.v 0) fun p2 => vInt .i64 (g.v 1) fun i3 => K p2 i3 h)
abbrev n1 (Kn Kr : T0) (h : H) : Prop :=
  HCalls Tryz.prog 51 ⟨[(.pointer x0), (.int .i64 x1)]⟩ h fun v4 h5 => vPtr v4 fun p6 => SemH Tryz.prog (binS .eql 80 (.tmp 9) (.const (.pointer none)) (.pointer p6) (.pointer none)) h5 fun v7 h8 => vBool v7 fun b9 => cond b9 (Kr none h8) (Spl (x1 > (0 : Int)) (vSome p6 fun a10 => ∃ i11, cell h8 ((a10.add 0).add 0) = some (.int .u8 i11) ∧ (Spl (i11 = (1 : Int)) (Kr p6 h8) (Kr none h8))) (Kr p6 h8))
variable {g} {h : H} {p : Prop}
variable {x0 x1 x4}
theorem D0_el {K : T0} (hq : D0 K g h) (f : ∀ {x4}, E0 g x4 → K x4 h → p) : p := nilDs_el hq fun d q => vPtr_el q fun _ e4 q => f ⟨e4, d⟩ q
theorem D1_el {K : T1} (hq : D1 K g h) (f : ∀ {x0 x1}, E1 g x0 x1 → K x0 x1 h → p) : p := nilDs_el hq fun d q => vPtr_el q fun _ e0 q => vInt_el q fun _ e1 q => f ⟨e0, e1, d⟩ q
theorem n1_ok {Kn Kr : T0} (hg : E1 g x0 x1) (hS : n1 x0 x1 Kn Kr h) : W code (Q0 Kn Kr) g h :=
  leafN (by kernel_rfl) (by kernel_rfl) hg hS (by kernel_rfl)
/-- WHAT (*tympan/dom.Tree).holder ASKS -/
abbrev asks (x0 : Option Addr) (x1 : Int) (K : Value → H → Prop) (h : H) : Prop := n1 x0 x1 (fun y4 h => K (.pointer y4) h) (fun y4 h => K (.pointer y4) h) h
theorem ok (x0 : Option Addr) (x1 : Int) (K : Value → H → Prop) (h : H) (hS : asks x0 x1 K h) : HCalls Tryz.prog 56 ⟨[(.pointer x0), (.int .i64 x1)]⟩ h K :=
  callsN (c := code) Tryz.func56 (by kernel_rfl) (by kernel_rfl) (n1_ok ⟨rfl, rfl, rfl⟩ hS) fun hq => D0_el hq fun hg hq => retN hg hq (by kernel_rfl)
end Sx.dom_Tree_holder

/-! ### (*tympan/dom.node).index -/
namespace Sx.dom_node_index
noncomputable def code : Code := bodyOf Tryz.f57
abbrev W := wpC none Tryz.prog 18
variable (g : Env) (x0 : Option Addr) (x1 x4 : Int)
abbrev T0 := Int → H → Prop
abbrev E0 := Held g [(4, .int .i64 x4)]
def D0 (K : T0) (g : Env) (h : H) : Prop := nilDs g.ds (vInt .i64 (g.v 4) fun i1 => K i1 h)
abbrev Q0 (Kn Kr : T0) := QX (D0 Kn) (D0 Kr) noX
abbrev T1 := (Option Addr) → Int → H → Prop
abbrev E1 := Held g [(0, .pointer x0), (1, .int .i64 x1)]
def D1 (K : T1) (g : Env) (h : H) : Prop := nilDs g.ds (vPtr (g.v 0) fun p2 => vInt .i64 (g.v 1) fun i3 => K p2 i3 h)
abbrev n1 (Kn Kr : T0) (h : H) : Prop :=
  Spl (x1 = (-1 : Int)) (vSome x0 fun a4 => ∃ s5b s5n s5c, cell h (a4.add 7) = some (.slice s5b s5n s5c) ∧ (Kr (s5n : Int) h)) (vSome x0 fun a6 => ∃ s7b s7n s7c, cell h (a6.add 7) = some (.slice s7b s7n s7c) ∧ (HCalls Tryz.prog 78 ⟨[(.slice s7b s7n s7c), (.int .i64 x1)]⟩ h fun v8 h9 => vInt .i64 v8 fun i10 => Kr i10 h9))
variable {g} {h : H} {p : Prop}
variable {x0 x1 x4}
theorem D0_el {K : T0} (hq : D0 K g h) (f : ∀ {x4}, E0 g x4 → K x4 h → p) : p := nilDs_el hq fun d q => vInt_el q fun _ e4 q => f ⟨e4, d⟩ q
theorem D1_el {K : T1} (hq : D1 K g h) (f : ∀ {x0 x1}, E1 g x0 x1 → K x0 x1 h → p) : p := nilDs_el hq fun d q => vPtr_el q fun _ e0 q => vInt_el q fun _ e1 q => f ⟨e0, e1, d⟩ q
theorem n1_ok {Kn Kr : T0} (hg : E1 g x0 x1) (hS : n1 x0 x1 Kn Kr h) : W code (Q0 Kn Kr) g h :=
  leafN (by kernel_rfl) (by kernel_rfl) hg hS (by kernel_rfl)
/-- WHAT (*tympan/dom.node).index ASKS -/
abbrev asks (x0 : Option Addr) (x1 : Int) (K : Value → H → Prop) (h : H) : Prop := n1 x0 x1 (fun y4 h => K (.int .i64 y4) h) (fun y4 h => K (.int .i64 y4) h) h
theorem ok (x0 : Option Addr) (x1 : Int) (K : Value → H → Prop) (h : H) (hS : asks x0 x1 K h) : HCalls Tryz.prog 57 ⟨[(.pointer x0), (.int .i64 x1)]⟩ h K :=
  callsN (c := code) Tryz.func57 (by kernel_rfl) (by kernel_rfl) (n1_ok ⟨rfl, rfl, rfl⟩ hS) fun hq => D0_el hq fun hg hq => retN hg hq (by kernel_rfl)
end Sx.dom_node_index

/-! ### (*tympan/dom.Tree).within -/
namespace Sx.dom_Tree_within
noncomputable def code : Code := bodyOf Tryz.f58
abbrev T0 := Addr → (List Deferred) → H → Prop
def E0 (g : Env) (x6 : Addr) (ds : List Deferred) : Prop := g.v 6 = (.pointer (some x6)) ∧ g.ds = ds
def D0 (K : T0) (g : Env) (h : H) : Prop := vAddr (g.v 6) fun a1 => K a1 g.ds h
theorem D0_ok {K : T0} {g : Env} {h : H} (hq : D0 K g h) : ∃ (x6 : Addr) (ds : List Deferred), E0 g x6 ds ∧ K x6 ds h := by
  obtain ⟨y3, e2, q4⟩ := vAddr_ok hq
  exact ⟨y3, g.ds, ⟨e2, rfl⟩, q4⟩
theorem D0_mk {K : T0} {g : Env} {h : H} {x6 : Addr} {ds : List Deferred} (hg : E0 g x6 ds) (hk : K x6 ds h) : D0 K g h := by
  obtain ⟨hg6, hds⟩ := hg
  unfold D0
  rw [hg6, hds]
  exact hk
def Q0 (Kn : T0) (Kr : T0) : XPost
  | .normal, g, h => D0 Kn g h
  | .ret, g, h => D0 Kr g h
  | _, _, _ => False
abbrev T1 := (Option Addr) → Int → Int → (List Deferred) → H → Prop
def E1 (g : Env) (x0 : Option Addr) (x1 : Int) (x2 : Int) (ds : List Deferred) : Prop := g.v 0 = (.pointer x0) ∧ g.v 1 = (.int .i64 x1) ∧ g.v 2 = (.int .i64 x2) ∧ g.ds = ds
def D1 (K : T1) (g : Env) (h : H) : Prop := vPtr (g.v 0) fun p5 => vInt .i64 (g.v 1) fun i6 => vInt .i64 (g.v 2) fun i7 => K p5 i6 i7 g.ds h
theorem D1_ok {K : T1} {g : Env} {h : H} (hq : D1 K g h) : ∃ (x0 : Option Addr) (x1 : Int) (x2 : Int) (ds : List Deferred), E1 g x0 x1 x2 ds ∧ K x0 x1 x2 ds h := by
  obtain ⟨y9, e8, q10⟩ := vPtr_ok hq
  obtain ⟨y12, e11, q13⟩ := vInt_ok q10
  obtain ⟨y15, e14, q16⟩ := vInt_ok q13
  exact ⟨y9, y12, y15, g.ds, ⟨e8, e11, e14, rfl⟩, q16⟩
theorem D1_mk {K : T1} {g : Env} {h : H} {x0 : Option Addr} {x1 : Int} {x2 : Int} {ds : List Deferred} (hg : E1 g x0 x1 x2 ds) (hk : K x0 x1 x2 ds h) : D1 K g h := by
  obtain ⟨hg0, hg1, hg2, hds⟩ := hg
  unfold D1
  rw [hg0, hg1, hg2, hds]
  exact hk
noncomputable def n1_c1 : Code := cFst code
noncomputable def n1_c2 : Code := cSnd code
abbrev T2 := (Option Addr) → Int → Addr → Addr → (List Deferred) → H → Prop
def E2 (g : Env) (x0 : Option Addr) (x1 : Int) (x5 : Addr) (x6 : Addr) (ds : List Deferred) : Prop := g.v 0 = (.pointer x0) ∧ g.v 1 = (.int .i64 x1) ∧ g.v 5 = (.pointer (some x5)) ∧ g.v 6 = (.pointer (some x6)) ∧ g.ds = ds
def D2 (K : T2) (g : Env) (h : H) : Prop := vPtr (g.v 0) fun p17 => vInt .i64 (g.v 1) fun i18 => vAddr (g.v 5) fun a19 => vAddr (g.v 6) fun a20 => K p17 i18 a19 a20 g.ds h
theorem D2_ok {K : T2} {g : Env} {h : H} (hq : D2 K g h) : ∃ (x0 : Option Addr) (x1 : Int) (x5 : Addr) (x6 : Addr) (ds : List Deferred), E2 g x0 x1 x5 x6 ds ∧ K x0 x1 x5 x6 ds h := by
  obtain ⟨y22, e21, q23⟩ := vPtr_ok hq
  obtain ⟨y25, e24, q26⟩ := vInt_ok q23
  obtain ⟨y28, e27, q29⟩ := vAddr_ok q26
  obtain ⟨y31, e30, q32⟩ := vAddr_ok q29
  exact ⟨y22, y25, y28, y31, g.ds, ⟨e21, e24, e27, e30, rfl⟩, q32⟩
theorem D2_mk {K : T2} {g : Env} {h : H} {x0 : Option Addr} {x1 : Int} {x5 : Addr} {x6 : Addr} {ds : List Deferred} (hg : E2 g x0 x1 x5 x6 ds) (hk : K x0 x1 x5 x6 ds h) : D2 K g h := by
  obtain ⟨hg0, hg1, hg5, hg6, hds⟩ := hg
  unfold D2
  rw [hg0, hg1, hg5, hg6, hds]
  exact hk
noncomputable def n2_c1 : Code := cFst n1_c2
noncomputable def n2_c2 : Code := cSnd n1_c2
abbrev n3 (x6 : Addr) (ds : List Deferred) (Kn : T0) (Kr : T0) (h : H) : Prop :=
  stL x6 [(.bool false)] 0 h fun h33 => Kr x6 ds h33
theorem n3_ok (x6 : Addr) (ds : List Deferred) (Kn : T0) (Kr : T0) (g : Env) (hg : E0 g x6 ds) (h : H) (hS : n3 x6 ds Kn Kr h) : wpC none Tryz.prog 15 n2_c2 (Q0 Kn Kr) g h := by
  obtain ⟨hg6, hds⟩ := hg
  refine wpC_of_wpx (by kernel_rfl) (by kernel_rfl) (g' := (⟨g.v, ds⟩ : Env).upd (some 6) (.pointer (some x6))) (by rw [env_ds hds, upd_self hg6]) ?_
  have e : (n3 x6 ds Kn Kr h) = wpx none Tryz.prog 15 n2_c2 (Q0 Kn Kr) ((⟨g.v, ds⟩ : Env).upd (some 6) (.pointer (some x6))) h := by kernel_rfl
  exact e ▸ hS
noncomputable def n4_c1 : Code := cFst n2_c1
noncomputable def n4_c2 : Code := cSnd n2_c1
abbrev T3 := Addr → Addr → Value → (List Deferred) → H → Prop
def E3 (g : Env) (x5 : Addr) (x6 : Addr) (x10 : Value) (ds : List Deferred) : Prop := g.v 5 = (.pointer (some x5)) ∧ g.v 6 = (.pointer (some x6)) ∧ g.v 10 = x10 ∧ g.ds = ds
def D3 (K : T3) (g : Env) (h : H) : Prop := vAddr (g.v 5) fun a34 => vAddr (g.v 6) fun a35 => K a34 a35 (g.v 10) g.ds h
theorem D3_ok {K : T3} {g : Env} {h : H} (hq : D3 K g h) : ∃ (x5 : Addr) (x6 : Addr) (x10 : Value) (ds : List Deferred), E3 g x5 x6 x10 ds ∧ K x5 x6 x10 ds h := by
  obtain ⟨y37, e36, q38⟩ := vAddr_ok hq
  obtain ⟨y40, e39, q41⟩ := vAddr_ok q38
  exact ⟨y37, y40, (g.v 10), g.ds, ⟨e36, e39, rfl, rfl⟩, q41⟩
theorem D3_mk {K : T3} {g : Env} {h : H} {x5 : Addr} {x6 : Addr} {x10 : Value} {ds : List Deferred} (hg : E3 g x5 x6 x10 ds) (hk : K x5 x6 x10 ds h) : D3 K g h := by
  obtain ⟨hg5, hg6, hg10, hds⟩ := hg
  unfold D3
  rw [hg5, hg6, hg10, hds]
  exact hk
noncomputable def n5_c1 : Code := cFst n4_c2
def Q1 (Kn : T0) (Ke0 : T0) (Kr : T0) : XPost
  | .normal, g, h => D0 Kn g h
  | .ret, g, h => D0 Kr g h
  | .exit id, g, h => cond (Nat.beq id 0) (D0 Ke0 g h) (False)
  | _, _, _ => False
noncomputable def n6_c1 : Code := cFst n5_c1
noncomputable def n6_c2 : Code := cSnd n5_c1
def n6_rd (x5 : Addr) (x6 : Addr) (x10 : Value) (ds : List Deferred) (Kn : T0) (Ke0 : T0) (Kr : T0) (h : H) (p11 : Int) (Mid : H → (H → Prop) → Prop) (Kc : H → H → Prop) (Fin : H → H → (H → Prop) → Prop) (h1 : H) : Prop :=
  Mid h1 fun hb42 => ∃ i43, cell hb42 x5 = some (.int .i64 i43) ∧ (Spl (p11 = i43) (stL x6 [(.bool true)] 0 hb42 fun h44 => Fin hb42 h44 fun h45 => Kr x6 (markD h.size :: ds) h45) (Kc hb42 hb42))
abbrev n6 (x5 : Addr) (x6 : Addr) (x10 : Value) (ds : List Deferred) (Kn : T0) (Ke0 : T0) (Kr : T0) (h : H) : Prop := Ranges Tryz.prog x10 1 h (fun l46 Mid Kc Fin h1 => uncons l46 fun e47 l48 => vInt .i64 e47 fun i49 => unnil l48 (n6_rd x5 x6 x10 ds Kn Ke0 Kr h i49 Mid Kc Fin h1)) (fun h4 => Kn x6 (markD h.size :: ds) h4)
theorem n6_ok (x5 : Addr) (x6 : Addr) (x10 : Value) (ds : List Deferred) (Kn : T0) (Ke0 : T0) (Kr : T0) (g : Env) (hg : E3 g x5 x6 x10 ds) (h : H) (hS : n6 x5 x6 x10 ds Kn Ke0 Kr h) : wpC none Tryz.prog 15 n5_c1 (Q1 Kn Ke0 Kr) g h := by
  obtain ⟨hg5, hg6, hg10, hds⟩ := hg
  subst hds
  have ho : ((((⟨g.v, g.ds⟩ : Env).upd (some 5) (.pointer (some x5))).upd (some 6) (.pointer (some x6))).upd (some 10) x10 : Env) = g := by rw [env_ds rfl, upd_self hg5, upd_self hg6, upd_self hg10]
  have hc : n5_c1 = .rangeFunc (.tmp 10) #[11] n6_c1 n6_c2 := by kernel_rfl
  rw [hc]
  refine wpC_range (f := x10) (rd := (fun l46 Mid Kc Fin h1 => uncons l46 fun e47 l48 => vInt .i64 e47 fun i49 => unnil l48 (n6_rd x5 x6 x10 g.ds Kn Ke0 Kr h i49 Mid Kc Fin h1))) (done := (fun h4 => Kn x6 (markD h.size :: g.ds) h4)) ?_ hS ?_ ?_
  · rw [← ho]; kernel_rfl
  · intro h4 hd
    have e : (Kn x6 (markD h.size :: g.ds) h4) = (Q1 Kn Ke0 Kr) .normal ⟨((((⟨g.v, g.ds⟩ : Env).upd (some 5) (.pointer (some x5))).upd (some 6) (.pointer (some x6))).upd (some 10) x10).v, markD h.size :: g.ds⟩ h4 := by kernel_rfl
    rw [ho] at e
    exact e ▸ hd
  · intro L x Mid Kc Fin h1 hM hx
    obtain ⟨u50, l51, rfl, q52⟩ := uncons_ok hx
    obtain ⟨y53, rfl, q54⟩ := vInt_ok q52
    obtain ⟨rfl, q55⟩ := unnil_ok q54
    have e : (n6_rd x5 x6 x10 g.ds Kn Ke0 Kr h y53 Mid Kc Fin h1) = wpx (some L) Tryz.prog 15 n6_c1 (thenX (fun g1 he => Mid he fun hb => wpx (some L) Tryz.prog 15 n6_c2 (rpost Kc Fin (Q1 Kn Ke0 Kr) ⟨((((⟨g.v, g.ds⟩ : Env).upd (some 5) (.pointer (some x5))).upd (some 6) (.pointer (some x6))).upd (some 10) x10).v, markD h.size :: g.ds⟩ hb) g1 hb) fun _ _ _ => False) (setps ((((⟨g.v, g.ds⟩ : Env).upd (some 5) (.pointer (some x5))).upd (some 6) (.pointer (some x6))).upd (some 10) x10) [11] [(.int .i64 y53)]) h1 := by kernel_rfl
    rw [ho] at e
    exact (wpx_ok (by kernel_rfl) _ _ _ _ (by kernel_rfl) (e ▸ q55)).mono (thenX_mono fun g1 he hm => hM he _ _ (fun hb => wpx_ok (by kernel_rfl) _ _ _ _ (by kernel_rfl)) hm)
abbrev n5 (x5 : Addr) (x6 : Addr) (x10 : Value) (ds : List Deferred) (Kn : T0) (Kr : T0) (h : H) : Prop := n6 x5 x6 x10 ds Kn Kn Kr h
theorem n5_ok (x5 : Addr) (x6 : Addr) (x10 : Value) (ds : List Deferred) (Kn : T0) (Kr : T0) (g : Env) (hg : E3 g x5 x6 x10 ds) (h : H) (hS : n5 x5 x6 x10 ds Kn Kr h) : wpC none Tryz.prog 15 n4_c2 (Q0 Kn Kr) g h := by
  refine wpC_block' (id := 0) (x := n5_c1) (by kernel_rfl) (n6_ok x5 x6 x10 ds Kn Kn Kr g hg h hS) ?_
  intro e g' h' hq
  cases e <;> exact hq
def Q2 (Kn : T3) (Kr : T0) : XPost
  | .normal, g, h => D3 Kn g h
  | .ret, g, h => D0 Kr g h
  | _, _, _ => False
abbrev n4 (x0 : Option Addr) (x1 : Int) (x5 : Addr) (x6 : Addr) (ds : List Deferred) (Kn : T0) (Kr : T0) (h : H) : Prop :=
  HCalls Tryz.prog 79 ⟨[(.pointer x0), (.int .i64 x1)]⟩ h fun v56 h57 => n5 x5 x6 v56 ds Kn Kr h57
theorem n4_ok (x0 : Option Addr) (x1 : Int) (x5 : Addr) (x6 : Addr) (ds : List Deferred) (Kn : T0) (Kr : T0) (g : Env) (hg : E2 g x0 x1 x5 x6 ds) (h : H) (hS : n4 x0 x1 x5 x6 ds Kn Kr h) : wpC none Tryz.prog 15 n2_c1 (Q0 Kn Kr) g h := by
  obtain ⟨hg0, hg1, hg5, hg6, hds⟩ := hg
  refine wpC_seq' (x := n4_c1) (y := n4_c2) (Q' := (Q2 (fun z5 z6 z10 zds h => n5 z5 z6 z10 zds Kn Kr h) Kr)) (by kernel_rfl) ?_ ?_
  · refine wpC_of_wpx (by kernel_rfl) (by kernel_rfl) (g' := ((((⟨g.v, ds⟩ : Env).upd (some 0) (.pointer x0)).upd (some 1) (.int .i64 x1)).upd (some 5) (.pointer (some x5))).upd (some 6) (.pointer (some x6))) (by rw [env_ds hds, upd_self hg0, upd_self hg1, upd_self hg5, upd_self hg6]) ?_
    have e : (n4 x0 x1 x5 x6 ds Kn Kr h) = wpx none Tryz.prog 15 n4_c1 (Q2 (fun z5 z6 z10 zds h => n5 z5 z6 z10 zds Kn Kr h) Kr) (((((⟨g.v, ds⟩ : Env).upd (some 0) (.pointer x0)).upd (some 1) (.int .i64 x1)).upd (some 5) (.pointer (some x5))).upd (some 6) (.pointer (some x6))) h := by kernel_rfl
    exact e ▸ hS
  · intro e g' h' hq
    cases e with
    | normal =>
      have hq : D3 (fun z5 z6 z10 zds h => n5 z5 z6 z10 zds Kn Kr h) g' h' := hq
      obtain ⟨y5, y6, y10, yds, hg', hq⟩ := D3_ok hq
      exact n5_ok y5 y6 y10 yds Kn Kr g' hg' h' hq
    | _ => exact hq
abbrev n2 (x0 : Option Addr) (x1 : Int) (x5 : Addr) (x6 : Addr) (ds : List Deferred) (Kn : T0) (Kr : T0) (h : H) : Prop := n4 x0 x1 x5 x6 ds (fun z6 zds h => n3 z6 zds Kn Kr h) Kr h
theorem n2_ok (x0 : Option Addr) (x1 : Int) (x5 : Addr) (x6 : Addr) (ds : List Deferred) (Kn : T0) (Kr : T0) (g : Env) (hg : E2 g x0 x1 x5 x6 ds) (h : H) (hS : n2 x0 x1 x5 x6 ds Kn Kr h) : wpC none Tryz.prog 15 n1_c2 (Q0 Kn Kr) g h := by
  refine wpC_seq' (x := n2_c1) (y := n2_c2) (by kernel_rfl) (n4_ok x0 x1 x5 x6 ds (fun z6 zds h => n3 z6 zds Kn Kr h) Kr g hg h hS) ?_
  intro e g' h' hq
  cases e with
  | normal =>
    have hq : D0 (fun z6 zds h => n3 z6 zds Kn Kr h) g' h' := hq
    obtain ⟨y6, yds, hg', hq⟩ := D0_ok hq
    exact n3_ok y6 yds Kn Kr g' hg' h' hq
  | _ => exact hq
def Q3 (Kn : T2) (Kr : T0) : XPost
  | .normal, g, h => D2 Kn g h
  | .ret, g, h => D0 Kr g h
  | _, _, _ => False
abbrev n1 (x0 : Option Addr) (x1 : Int) (x2 : Int) (ds : List Deferred) (Kn : T0) (Kr : T0) (h : H) : Prop :=
  newx h #[(.int .i64 x2)] 3 fun a58 h59 => newx h59 #[(.bool false)] 4 fun a60 h61 => n2 x0 x1 a58 a60 ds Kn Kr h61
theorem n1_ok (x0 : Option Addr) (x1 : Int) (x2 : Int) (ds : List Deferred) (Kn : T0) (Kr : T0) (g : Env) (hg : E1 g x0 x1 x2 ds) (h : H) (hS : n1 x0 x1 x2 ds Kn Kr h) : wpC none Tryz.prog 15 code (Q0 Kn Kr) g h := by
  obtain ⟨hg0, hg1, hg2, hds⟩ := hg
  refine wpC_seq' (x := n1_c1) (y := n1_c2) (Q' := (Q3 (fun z0 z1 z5 z6 zds h => n2 z0 z1 z5 z6 zds Kn Kr h) Kr)) (by kernel_rfl) ?_ ?_
  · refine wpC_of_wpx (by kernel_rfl) (by kernel_rfl) (g' := (((⟨g.v, ds⟩ : Env).upd (some 0) (.pointer x0)).upd (some 1) (.int .i64 x1)).upd (some 2) (.int .i64 x2)) (by rw [env_ds hds, upd_self hg0, upd_self hg1, upd_self hg2]) ?_
    have e : (n1 x0 x1 x2 ds Kn Kr h) = wpx none Tryz.prog 15 n1_c1 (Q3 (fun z0 z1 z5 z6 zds h => n2 z0 z1 z5 z6 zds Kn Kr h) Kr) ((((⟨g.v, ds⟩ : Env).upd (some 0) (.pointer x0)).upd (some 1) (.int .i64 x1)).upd (some 2) (.int .i64 x2)) h := by kernel_rfl
    exact e ▸ hS
  · intro e g' h' hq
    cases e with
    | normal =>
      have hq : D2 (fun z0 z1 z5 z6 zds h => n2 z0 z1 z5 z6 zds Kn Kr h) g' h' := hq
      obtain ⟨y0, y1, y5, y6, yds, hg', hq⟩ := D2_ok hq
      exact n2_ok y0 y1 y5 y6 yds Kn Kr g' hg' h' hq
    | _ => exact hq
/-- WHAT (*tympan/dom.Tree).within ASKS -/
abbrev asks (x0 : Option Addr) (x1 : Int) (x2 : Int) (K : Value → H → Prop) (h : H) : Prop := n1 x0 x1 x2 [] (fun y6 ds h => leaveX ds h fun h => ∃ b62, cell h y6 = some (.bool b62) ∧ (K (.bool b62) h)) (fun y6 ds h => leaveX ds h fun h => ∃ b62, cell h y6 = some (.bool b62) ∧ (K (.bool b62) h)) h
theorem ok (x0 : Option Addr) (x1 : Int) (x2 : Int) (K : Value → H → Prop) (h : H) (hS : asks x0 x1 x2 K h) : HCalls Tryz.prog 58 ⟨[(.pointer x0), (.int .i64 x1), (.int .i64 x2)]⟩ h K := by
  refine calls_of_wpC (c := code) Tryz.func58 (by kernel_rfl) (Nat.le_of_ble_eq_true (by kernel_rfl)) ?_
  refine (n1_ok x0 x1 x2 [] (fun y6 ds h => leaveX ds h fun h => ∃ b62, cell h y6 = some (.bool b62) ∧ (K (.bool b62) h)) (fun y6 ds h => leaveX ds h fun h => ∃ b62, cell h y6 = some (.bool b62) ∧ (K (.bool b62) h)) (env0 [(.pointer x0), (.int .i64 x1), (.int .i64 x2)]) ⟨rfl, rfl, rfl, rfl⟩ h hS).mono ?_
  intro e g' h' hq
  cases e with
  | normal =>
    have hq : D0 (fun y6 ds h => leaveX ds h fun h => ∃ b62, cell h y6 = some (.bool b62) ∧ (K (.bool b62) h)) g' h' := hq
    obtain ⟨y6, ds, ⟨hg6, hd⟩, hq⟩ := D0_ok hq
    show leaveX g'.ds h' _
    rw [hd]
    show leaveX ds h' fun h => vAddr (g'.v 6) fun a63 => ldx Tryz.prog 4 a63 h fun v64 => K v64 h
    rw [hg6]
    exact hq
  | ret =>
    have hq : D0 (fun y6 ds h => leaveX ds h fun h => ∃ b62, cell h y6 = some (.bool b62) ∧ (K (.bool b62) h)) g' h' := hq
    obtain ⟨y6, ds, ⟨hg6, hd⟩, hq⟩ := D0_ok hq
    show leaveX g'.ds h' _
    rw [hd]
    show leaveX ds h' fun h => vAddr (g'.v 6) fun a63 => ldx Tryz.prog 4 a63 h fun v64 => K v64 h
    rw [hg6]
    exact hq
  | _ => exact hq
end Sx.dom_Tree_within

/-! ### (*tympan/dom.Tree).Cut -/
namespace Sx.dom_Tree_Cut
noncomputable def code : Code := bodyOf Tryz.f59
abbrev W := wpC none Tryz.prog 47
variable (g : Env) (x0 : Option Addr) (x1 : Int) (x4 : Bool)
abbrev T0 := Bool → H → Prop
abbrev E0 := Held g [(4, .bool x4)]
def D0 (K : T0) (g : Env) (h : H) : Prop := nilDs g.ds (vBool (g.v 4) fun b1 => K b1 h)
abbrev Q0 (Kn Kr : T0) := QX (D0 Kn) (D0 Kr) noX
abbrev T1 := (Option Addr) → Int → H → Prop
abbrev E1 := Held g [(0, .pointer x0), (1, .int .i64 x1)]
def D1 (K : T1) (g : Env) (h : H) : Prop := nilDs g.ds (vPtr (g.v 0) fun p2 => vInt .i64 (g.v 1) fun i3 => K p2 i3 h)
abbrev n1 (Kn Kr : T0) (h : H) : Prop :=
  HCalls Tryz.prog 51 ⟨[(.pointer x0), (.int .i64 x1)]⟩ h fun v4 h5 => vPtr v4 fun p6 => SemH Tryz.prog (binS .eql 80 (.tmp 11) (.const (.pointer none)) (.pointer p6) (.pointer none)) h5 fun v7 h8 => vBool v7 fun b9 => cond b9 (Kr false h8) (vSome p6 fun a10 => ∃ i11, cell h8 (a10.add 6) = some (.int .i64 i11) ∧ (Spl (i11 < (0 : Int)) (Kr false h8) (vSome x0 fun a12 => ∃ s13b s13n s13c, cell h8 (a12.add 0) = some (.slice s13b s13n s13c) ∧ (vSome p6 fun a14 => ∃ i15, cell h8 (a14.add 6) = some (.int .i64 i15) ∧ ((0 ≤ i15 ∧ i15 < (s13n : Int)) ∧ (vSome s13b fun a16 => ∃ p17, cell h8 (a16.add (Int.toNat i15 * 1)) = some (.pointer p17) ∧ (HCalls Tryz.prog 57 ⟨[(.pointer p17), (.int .i64 x1)]⟩ h8 fun v18 h19 => vInt .i64 v18 fun i20 => vSome p17 fun a21 => ∃ s22b s22n s22c, cell h19 (a21.add 7) = some (.slice s22b s22n s22c) ∧ (Rng .i64 (i20 + (1 : Int)) ∧ (HCalls Tryz.prog 80 ⟨[(.slice s22b s22n s22c), (.int .i64 i20), (.int .i64 (i20 + (1 : Int)))]⟩ h19 fun v23 h24 => vSlice v23 fun s25b s25n s25c => vSome p17 fun a26 => stL (a26.add 7) [(.slice s25b s25n s25c)] 0 h24 fun h27 => vSome p6 fun a28 => stL (a28.add 6) [(.int .i64 (-1 : Int))] 0 h27 fun h29 => Kr true h29)))))))))
variable {g} {h : H} {p : Prop}
variable {x0 x1 x4}
theorem D0_el {K : T0} (hq : D0 K g h) (f : ∀ {x4}, E0 g x4 → K x4 h → p) : p := nilDs_el hq fun d q => vBool_el q fun _ e4 q => f ⟨e4, d⟩ q
theorem D1_el {K : T1} (hq : D1 K g h) (f : ∀ {x0 x1}, E1 g x0 x1 → K x0 x1 h → p) : p := nilDs_el hq fun d q => vPtr_el q fun _ e0 q => vInt_el q fun _ e1 q => f ⟨e0, e1, d⟩ q
theorem n1_ok {Kn Kr : T0} (hg : E1 g x0 x1) (hS : n1 x0 x1 Kn Kr h) : W code (Q0 Kn Kr) g h :=
  leafN (by kernel_rfl) (by kernel_rfl) hg hS (by kernel_rfl)
/-- WHAT (*tympan/dom.Tree).Cut ASKS -/
abbrev asks (x0 : Option Addr) (x1 : Int) (K : Value → H → Prop) (h : H) : Prop := n1 x0 x1 (fun y4 h => K (.bool y4) h) (fun y4 h => K (.bool y4) h) h
theorem ok (x0 : Option Addr) (x1 : Int) (K : Value → H → Prop) (h : H) (hS : asks x0 x1 K h) : HCalls Tryz.prog 59 ⟨[(.pointer x0), (.int .i64 x1)]⟩ h K :=
  callsN (c := code) Tryz.func59 (by kernel_rfl) (by kernel_rfl) (n1_ok ⟨rfl, rfl, rfl⟩ hS) fun hq => D0_el hq fun hg hq => retN hg hq (by kernel_rfl)
end Sx.dom_Tree_Cut

/-! ### slices.Index[[]int,int] -/
namespace Sx.slices_Index_int
noncomputable def code : Code := bodyOf Tryz.f78
abbrev W := wpC none Tryz.prog 19
variable (g : Env) (x0b : Option Addr) (x0n x0c : Nat) (x1 x4 x7 x8 : Int)
abbrev T0 := Int → H → Prop
abbrev E0 := Held g [(4, .int .i64 x4)]
def D0 (K : T0) (g : Env) (h : H) : Prop := nilDs g.ds (vInt .i64 (g.v 4) fun i1 => K i1 h)
abbrev Q0 (Kn Kr : T0) := QX (D0 Kn) (D0 Kr) noX
abbrev T1 := (Option Addr) → Nat → Nat → Int → H → Prop
abbrev E1 := Held g [(0, .slice x0b x0n x0c), (1, .int .i64 x1)]
def D1 (K : T1) (g : Env) (h : H) : Prop := nilDs g.ds (vSlice (g.v 0) fun s2b s2n s2c => vInt .i64 (g.v 1) fun i3 => K s2b s2n s2c i3 h)
noncomputable def c1 := cFst code
noncomputable def c2 := cSnd code
noncomputable def c3 := cFst c2
noncomputable def c4 := cSnd c2
abbrev T2 := H → Prop
abbrev E2 := Held g []
def D2 (K : T2) (g : Env) (h : H) : Prop := nilDs g.ds (K h)
abbrev n3 (Kn Kr : T0) (h : H) : Prop :=
  Kr (-1 : Int) h
abbrev Q1 (Kn : T2) (Kr : T0) := QX (D2 Kn) (D0 Kr) noX
noncomputable def c5 := cFst c3
noncomputable def c6 := cSnd c3
abbrev T3 := (Option Addr) → Nat → Nat → Int → Int → Int → H → Prop
abbrev E3 := Held g [(0, .slice x0b x0n x0c), (1, .int .i64 x1), (7, .int .i64 x7), (8, .int .i64 x8)]
def D3 (K : T3) (g : Env) (h : H) : Prop := nilDs g.ds (vSlice (g.v 0) fun s4b s4n s4c => vInt .i64 (g.v 1) fun i5 => vInt .i64 (g.v 7) fun i6 => vInt .i64 (g.v 8) fun i7 => K s4b s4n s4c i5 i6 i7 h)
noncomputable def c7 := cFst c6
abbrev Q2 (Kn Ke0 : T2) (Kr : T0) := QX (D2 Kn) (D0 Kr) (exX 0 (D2 Ke0) noX)
noncomputable def c8 := cFst c7
abbrev Q3 (Kn : T3) (Ke0 : T2) (Kr : T0) := QX (D3 Kn) (D0 Kr) (exX 0 (D2 Ke0) noX)
def n6_L (Kn Ke0 : T2) (Kr : T0) : Nat → T3
  | 0 => fun _ _ _ _ _ _ _ => False
  | N + 1 => fun x0b x0n x0c x1 x7 x8 h => Spl (x8 < x7) ((0 ≤ x8 ∧ x8 < (x0n : Int)) ∧ (vSome x0b fun a8 => ∃ i9, cell h (a8.add (Int.toNat x8 * 1)) = some (.int .i64 i9) ∧ (Spl (x1 = i9) (Kr x8 h) (Rng .i64 (x8 + (1 : Int)) ∧ (n6_L Kn Ke0 Kr N x0b x0n x0c x1 x7 (x8 + (1 : Int)) h))))) (Ke0 h)
abbrev n6 (Kn Ke0 : T2) (Kr : T0) (h : H) : Prop :=
  ∃ N, n6_L Kn Ke0 Kr N x0b x0n x0c x1 x7 x8 h
abbrev n5 (Kn : T2) (Kr : T0) (h : H) : Prop :=
  n6 x0b x0n x0c x1 x7 x8 Kn Kn Kr h
abbrev Q4 (Kn : T3) (Kr : T0) := QX (D3 Kn) (D0 Kr) noX
abbrev n4 (Kn : T2) (Kr : T0) (h : H) : Prop :=
  n5 x0b x0n x0c x1 (x0n : Int) (0 : Int) Kn Kr h
abbrev n2 (Kn Kr : T0) (h : H) : Prop :=
  n4 x0b x0n x0c x1 (fun  h => n3 Kn Kr h) Kr h
abbrev Q5 (Kn : T1) (Kr : T0) := QX (D1 Kn) (D0 Kr) noX
abbrev n1 (Kn Kr : T0) (h : H) : Prop :=
  n2 x0b x0n x0c x1 Kn Kr h
variable {g} {h : H} {p : Prop}
variable {x0b x0n x0c x1 x4 x7 x8}
theorem D3_mk {K : T3} (hg : E3 g x0b x0n x0c x1 x7 x8) (hk : K x0b x0n x0c x1 x7 x8 h) : D3 K g h := by
  obtain ⟨e0, e1, e7, e8, d⟩ := hg
  unfold D3
  rw [e0, e1, e7, e8, d]
  exact hk
theorem D0_el {K : T0} (hq : D0 K g h) (f : ∀ {x4}, E0 g x4 → K x4 h → p) : p := nilDs_el hq fun d q => vInt_el q fun _ e4 q => f ⟨e4, d⟩ q
theorem D1_el {K : T1} (hq : D1 K g h) (f : ∀ {x0b x0n x0c x1}, E1 g x0b x0n x0c x1 → K x0b x0n x0c x1 h → p) : p := nilDs_el hq fun d q => vSlice_el q fun _ _ _ e0 q => vInt_el q fun _ e1 q => f ⟨e0, e1, d⟩ q
theorem D2_el {K : T2} (hq : D2 K g h) (f : E2 g → K  h → p) : p := nilDs_el hq fun d q => f d q
theorem n3_ok {Kn Kr : T0} (hg : E2 g) (hS : n3 Kn Kr h) : W c4 (Q0 Kn Kr) g h :=
  leafN (by kernel_rfl) (by kernel_rfl) hg hS (by kernel_rfl)
theorem D3_el {K : T3} (hq : D3 K g h) (f : ∀ {x0b x0n x0c x1 x7 x8}, E3 g x0b x0n x0c x1 x7 x8 → K x0b x0n x0c x1 x7 x8 h → p) : p := nilDs_el hq fun d q => vSlice_el q fun _ _ _ e0 q => vInt_el q fun _ e1 q => vInt_el q fun _ e7 q => vInt_el q fun _ e8 q => f ⟨e0, e1, e7, e8, d⟩ q
theorem n6_ok {Kn Ke0 : T2} {Kr : T0} (hg : E3 g x0b x0n x0c x1 x7 x8) (hS : n6 x0b x0n x0c x1 x7 x8 Kn Ke0 Kr h) : W c7 (Q2 Kn Ke0 Kr) g h :=
  let ⟨N, hS⟩ := hS
  loopN (x := c8) (I := fun N => D3 (n6_L Kn Ke0 Kr N)) (by kernel_rfl) (fun hq => D3_el hq fun _ hq => hq) (fun hq => D3_el hq fun hg hq => leafN (by kernel_rfl) (by kernel_rfl) hg hq (by kernel_rfl)) N (D3_mk hg hS)
theorem n5_ok {Kn : T2} {Kr : T0} (hg : E3 g x0b x0n x0c x1 x7 x8) (hS : n5 x0b x0n x0c x1 x7 x8 Kn Kr h) : W c6 (Q1 Kn Kr) g h := blockN (by kernel_rfl) (n6_ok hg hS)
theorem n4_ok {Kn : T2} {Kr : T0} (hg : E1 g x0b x0n x0c x1) (hS : n4 x0b x0n x0c x1 Kn Kr h) : W c3 (Q1 Kn Kr) g h :=
  seqN (x := c5) (N' := D3 (fun z0b z0n z0c z1 z7 z8 h => n5 z0b z0n z0c z1 z7 z8 Kn Kr h)) (by kernel_rfl) (leafN (by kernel_rfl) (by kernel_rfl) hg hS (by kernel_rfl)) fun hq => D3_el hq n5_ok
theorem n2_ok {Kn Kr : T0} (hg : E1 g x0b x0n x0c x1) (hS : n2 x0b x0n x0c x1 Kn Kr h) : W c2 (Q0 Kn Kr) g h :=
  seqN (by kernel_rfl) (n4_ok hg hS) fun hq => D2_el hq n3_ok
theorem n1_ok {Kn Kr : T0} (hg : E1 g x0b x0n x0c x1) (hS : n1 x0b x0n x0c x1 Kn Kr h) : W code (Q0 Kn Kr) g h :=
  seqN (x := c1) (N' := D1 (fun z0b z0n z0c z1 h => n2 z0b z0n z0c z1 Kn Kr h)) (by kernel_rfl) (leafN (by kernel_rfl) (by kernel_rfl) hg hS (by kernel_rfl)) fun hq => D1_el hq n2_ok
/-- WHAT slices.Index[[]int,int] ASKS -/
abbrev asks (x0b : Option Addr) (x0n : Nat) (x0c : Nat) (x1 : Int) (K : Value → H → Prop) (h : H) : Prop := n1 x0b x0n x0c x1 (fun y4 h => K (.int .i64 y4) h) (fun y4 h => K (.int .i64 y4) h) h
theorem ok (x0b : Option Addr) (x0n : Nat) (x0c : Nat) (x1 : Int) (K : Value → H → Prop) (h : H) (hS : asks x0b x0n x0c x1 K h) : HCalls Tryz.prog 78 ⟨[(.slice x0b x0n x0c), (.int .i64 x1)]⟩ h K :=
  callsN (c := code) Tryz.func78 (by kernel_rfl) (by kernel_rfl) (n1_ok ⟨rfl, rfl, rfl⟩ hS) fun hq => D0_el hq fun hg hq => retN hg hq (by kernel_rfl)
end Sx.slices_Index_int

/-! ### (*tympan/dom.Tree).above -/
namespace Sx.dom_Tree_above
noncomputable def code : Code := bodyOf Tryz.f79
abbrev W := wpC none Tryz.prog 6
variable (g : Env) (x0 : Option Addr) (x1 : Int) (x4 : Value)
abbrev T0 := Value → H → Prop
abbrev E0 := Held g [(4, x4)]
def D0 (K : T0) (g : Env) (h : H) : Prop := nilDs g.ds (K (g.v 4) h)
abbrev Q0 (Kn Kr : T0) := QX (D0 Kn) (D0 Kr) noX
abbrev T1 := (Option Addr) → Int → H → Prop
abbrev E1 := Held g [(0, .pointer x0), (1, .int .i64 x1)]
def D1 (K : T1) (g : Env) (h : H) : Prop := nilDs g.ds (vPtr (g.v 0) fun p1 => vInt .i64 (g.v 1) fun i2 => K p1 i2 h)
abbrev n1 (Kn Kr : T0) (h : H) : Prop :=
  newx h #[(.pointer x0)] 46 fun a3 h4 => newx h4 #[(.int .i64 x1)] 3 fun a5 h6 => Kr (.func (.func 89) ⟨[]⟩ ⟨[(.pointer (some a5)), (.pointer (some a3))]⟩) h6
variable {g} {h : H} {p : Prop}
variable {x0 x1 x4}
theorem D0_el {K : T0} (hq : D0 K g h) (f : ∀ {x4}, E0 g x4 → K x4 h → p) : p := nilDs_el hq fun d q => f ⟨rfl, d⟩ q
theorem D1_el {K : T1} (hq : D1 K g h) (f : ∀ {x0 x1}, E1 g x0 x1 → K x0 x1 h → p) : p := nilDs_el hq fun d q => vPtr_el q fun _ e0 q => vInt_el q fun _ e1 q => f ⟨e0, e1, d⟩ q
theorem n1_ok {Kn Kr : T0} (hg : E1 g x0 x1) (hS : n1 x0 x1 Kn Kr h) : W code (Q0 Kn Kr) g h :=
  leafN (by kernel_rfl) (by kernel_rfl) hg hS (by kernel_rfl)
/-- WHAT (*tympan/dom.Tree).above ASKS -/
abbrev asks (x0 : Option Addr) (x1 : Int) (K : Value → H → Prop) (h : H) : Prop := n1 x0 x1 (fun y4 h => K y4 h) (fun y4 h => K y4 h) h
theorem ok (x0 : Option Addr) (x1 : Int) (K : Value → H → Prop) (h : H) (hS : asks x0 x1 K h) : HCalls Tryz.prog 79 ⟨[(.pointer x0), (.int .i64 x1)]⟩ h K :=
  callsN (c := code) Tryz.func79 (by kernel_rfl) (by kernel_rfl) (n1_ok ⟨rfl, rfl, rfl⟩ hS) fun hq => D0_el hq fun hg hq => retN hg hq (by kernel_rfl)
end Sx.dom_Tree_above

/-! ### (*tympan/dom.Tree).above$1 -/
namespace Sx.dom_Tree_above_1
noncomputable def code : Code := bodyOf Tryz.f89
abbrev W := wpC none Tryz.prog 21
variable (g : Env) (x0 : Value) (x1 x2 : Addr)
abbrev T0 := H → Prop
abbrev E0 := Held g []
def D0 (K : T0) (g : Env) (h : H) : Prop := nilDs g.ds (K h)
abbrev Q0 (Kn Kr : T0) := QX (D0 Kn) (D0 Kr) noX
abbrev T1 := Value → Addr → Addr → H → Prop
abbrev E1 := Held g [(0, x0), (1, .pointer (some x1)), (2, .pointer (some x2))]
def D1 (K : T1) (g : Env) (h : H) : Prop := nilDs g.ds (vAddr (g.v 1) fun a1 => vAddr (g.v 2) fun a2 => K (g.v 0) a1 a2 h)
noncomputable def c1 := cFst code
abbrev Q1 (Kn Ke0 Kr : T0) := QX (D0 Kn) (D0 Kr) (exX 0 (D0 Ke0) noX)
noncomputable def c2 := cFst c1
abbrev Q2 (Kn : T1) (Ke0 Kr : T0) := QX (D1 Kn) (D0 Kr) (exX 0 (D0 Ke0) noX)
def n2_L (Kn Ke0 Kr : T0) : Nat → T1
  | 0 => fun _ _ _ _ => False
  | N + 1 => fun x0 x1 x2 h => ∃ i3, cell h x1 = some (.int .i64 i3) ∧ (Spl (i3 ≥ (0 : Int)) (∃ i4, cell h x1 = some (.int .i64 i4) ∧ (CallV Tryz.prog 4 x0 ⟨[(.int .i64 i4)]⟩ h fun v5 h6 => vBool v5 fun b7 => cond b7 (∃ p8, cell h6 x2 = some (.pointer p8) ∧ (vSome p8 fun a9 => ∃ s10b s10n s10c, cell h6 (a9.add 0) = some (.slice s10b s10n s10c) ∧ (∃ i11, cell h6 x1 = some (.int .i64 i11) ∧ ((0 ≤ i11 ∧ i11 < (s10n : Int)) ∧ (vSome s10b fun a12 => ∃ p13, cell h6 (a12.add (Int.toNat i11 * 1)) = some (.pointer p13) ∧ (vSome p13 fun a14 => ∃ i15, cell h6 (a14.add 6) = some (.int .i64 i15) ∧ (stL x1 [(.int .i64 i15)] 0 h6 fun h16 => n2_L Kn Ke0 Kr N x0 x1 x2 h16))))))) (Ke0 h6))) (Ke0 h))
abbrev n2 (Kn Ke0 Kr : T0) (h : H) : Prop :=
  ∃ N, n2_L Kn Ke0 Kr N x0 x1 x2 h
abbrev n1 (Kn Kr : T0) (h : H) : Prop :=
  n2 x0 x1 x2 Kn Kn Kr h
variable {g} {h : H} {p : Prop}
variable {x0 x1 x2}
theorem D1_mk {K : T1} (hg : E1 g x0 x1 x2) (hk : K x0 x1 x2 h) : D1 K g h := by
  obtain ⟨e0, e1, e2, d⟩ := hg
  unfold D1
  rw [e0, e1, e2, d]
  exact hk
theorem D0_el {K : T0} (hq : D0 K g h) (f : E0 g → K  h → p) : p := nilDs_el hq fun d q => f d q
theorem D1_el {K : T1} (hq : D1 K g h) (f : ∀ {x0 x1 x2}, E1 g x0 x1 x2 → K x0 x1 x2 h → p) : p := nilDs_el hq fun d q => vAddr_el q fun _ e1 q => vAddr_el q fun _ e2 q => f ⟨rfl, e1, e2, d⟩ q
theorem n2_ok {Kn Ke0 Kr : T0} (hg : E1 g x0 x1 x2) (hS : n2 x0 x1 x2 Kn Ke0 Kr h) : W c1 (Q1 Kn Ke0 Kr) g h :=
  let ⟨N, hS⟩ := hS
  loopN (x := c2) (I := fun N => D1 (n2_L Kn Ke0 Kr N)) (by kernel_rfl) (fun hq => D1_el hq fun _ hq => hq) (fun hq => D1_el hq fun hg hq => leafN (by kernel_rfl) (by kernel_rfl) hg hq (by kernel_rfl)) N (D1_mk hg hS)
theorem n1_ok {Kn Kr : T0} (hg : E1 g x0 x1 x2) (hS : n1 x0 x1 x2 Kn Kr h) : W code (Q0 Kn Kr) g h := blockN (by kernel_rfl) (n2_ok hg hS)
/-- WHAT (*tympan/dom.Tree).above$1 ASKS -/
abbrev asks (x0 : Value) (x1 : Addr) (x2 : Addr) (K : Value → H → Prop) (h : H) : Prop := n1 x0 x1 x2 (fun h => K (.tuple ⟨[]⟩) h) (fun h => K (.tuple ⟨[]⟩) h) h
theorem ok (x0 : Value) (x1 : Addr) (x2 : Addr) (K : Value → H → Prop) (h : H) (hS : asks x0 x1 x2 K h) : HCalls Tryz.prog 89 ⟨[x0, (.pointer (some x1)), (.pointer (some x2))]⟩ h K :=
  callsN (c := code) Tryz.func89 (by kernel_rfl) (by kernel_rfl) (n1_ok ⟨rfl, rfl, rfl, rfl⟩ hS) fun hq => D0_el hq fun hg hq => retN hg hq (by kernel_rfl)
end Sx.dom_Tree_above_1

/-! ### (*tympan/dom.Tree).Whole -/
namespace Sx.dom_Tree_Whole
noncomputable def code : Code := bodyOf Tryz.f24
abbrev W := wpC none Tryz.prog 48
variable (g : Env) (x0 : Option Addr) (x1 : Int) (x4b : Option Addr) (x4n x4c : Nat) (x5 x6b : Option Addr) (x6n x6c : Nat) (x18b : Option Addr) (x18n x18c : Nat) (x19 x20 : Int)
abbrev T0 := (Option Addr) → Nat → Nat → H → Prop
abbrev E0 := Held g [(4, .slice x4b x4n x4c)]
def D0 (K : T0) (g : Env) (h : H) : Prop := nilDs g.ds (vSlice (g.v 4) fun s1b s1n s1c => K s1b s1n s1c h)
abbrev Q0 (Kn Kr : T0) := QX (D0 Kn) (D0 Kr) noX
abbrev T1 := (Option Addr) → Int → H → Prop
abbrev E1 := Held g [(0, .pointer x0), (1, .int .i64 x1)]
def D1 (K : T1) (g : Env) (h : H) : Prop := nilDs g.ds (vPtr (g.v 0) fun p2 => vInt .i64 (g.v 1) fun i3 => K p2 i3 h)
noncomputable def c1 := cFst code
noncomputable def c2 := cSnd code
noncomputable def c3 := cFst c2
noncomputable def c4 := cSnd c2
abbrev T2 := (Option Addr) → (Option Addr) → H → Prop
abbrev E2 := Held g [(0, .pointer x0), (5, .pointer x5)]
def D2 (K : T2) (g : Env) (h : H) : Prop := nilDs g.ds (vPtr (g.v 0) fun p4 => vPtr (g.v 5) fun p5 => K p4 p5 h)
noncomputable def c5 := cFst c4
noncomputable def c6 := cSnd c4
noncomputable def c7 := cFst c6
noncomputable def c8 := cSnd c6
abbrev T3 := (Option Addr) → (Option Addr) → (Option Addr) → Nat → Nat → H → Prop
abbrev E3 := Held g [(0, .pointer x0), (5, .pointer x5), (6, .slice x6b x6n x6c)]
def D3 (K : T3) (g : Env) (h : H) : Prop := nilDs g.ds (vPtr (g.v 0) fun p6 => vPtr (g.v 5) fun p7 => vSlice (g.v 6) fun s8b s8n s8c => K p6 p7 s8b s8n s8c h)
noncomputable def c9 := cFst c8
noncomputable def c10 := cSnd c8
abbrev T4 := (Option Addr) → Nat → Nat → H → Prop
abbrev E4 := Held g [(6, .slice x6b x6n x6c)]
def D4 (K : T4) (g : Env) (h : H) : Prop := nilDs g.ds (vSlice (g.v 6) fun s9b s9n s9c => K s9b s9n s9c h)
abbrev n6 (Kn Kr : T0) (h : H) : Prop :=
  Kr x6b x6n x6c h
abbrev Q1 (Kn : T4) (Kr : T0) := QX (D4 Kn) (D0 Kr) noX
noncomputable def c11 := cFst c9
noncomputable def c12 := cSnd c9
abbrev T5 := (Option Addr) → (Option Addr) → Nat → Nat → (Option Addr) → Nat → Nat → Int → Int → H → Prop
abbrev E5 := Held g [(0, .pointer x0), (6, .slice x6b x6n x6c), (18, .slice x18b x18n x18c), (19, .int .i64 x19), (20, .int .i64 x20)]
def D5 (K : T5) (g : Env) (h : H) : Prop := nilDs g.ds (vPtr (g.v 0) fun p10 => vSlice (g.v 6) fun s11b s11n s11c => vSlice (g.v 18) fun s12b s12n s12c => vInt .i64 (g.v 19) fun i13 => vInt .i64 (g.v 20) fun i14 => K p10 s11b s11n s11c s12b s12n s12c i13 i14 h)
noncomputable def c13 := cFst c12
abbrev Q2 (Kn Ke0 : T4) (Kr : T0) := QX (D4 Kn) (D0 Kr) (exX 0 (D4 Ke0) noX)
noncomputable def c14 := cFst c13
abbrev Q3 (Kn : T5) (Ke0 : T4) (Kr : T0) := QX (D5 Kn) (D0 Kr) (exX 0 (D4 Ke0) noX)
def n9_L (Kn Ke0 : T4) (Kr : T0) : Nat → T5
  | 0 => fun _ _ _ _ _ _ _ _ _ _ => False
  | N + 1 => fun x0 x6b x6n x6c x18b x18n x18c x19 x20 h => Spl (x20 < x19) ((0 ≤ x20 ∧ x20 < (x18n : Int)) ∧ (vSome x18b fun a15 => ∃ i16, cell h (a15.add (Int.toNat x20 * 1)) = some (.int .i64 i16) ∧ (vSome x0 fun a17 => ∃ s18b s18n s18c, cell h (a17.add 0) = some (.slice s18b s18n s18c) ∧ ((0 ≤ i16 ∧ i16 < (s18n : Int)) ∧ (vSome s18b fun a19 => ∃ p20, cell h (a19.add (Int.toNat i16 * 1)) = some (.pointer p20) ∧ (vSome p20 fun a21 => ∃ i22, cell h (((a21.add 0)).add 0) = some (.int .u8 i22) ∧ (∃ i23, cell h (((a21.add 0)).add 1) = some (.int .u8 i23) ∧ (∃ s24, cell h (((a21.add 0)).add 2) = some (S s24) ∧ (∃ s25b s25n s25c, cell h (((a21.add 0)).add 3) = some (.slice s25b s25n s25c) ∧ (∃ s26, cell h (((a21.add 0)).add 4) = some (S s26) ∧ (∃ s27b s27n s27c, cell h (((a21.add 0)).add 5) = some (.slice s27b s27n s27c) ∧ (newx h ⟨[(.int .u8 (0 : Int)), (.int .u8 (0 : Int)), (S ([] : List UInt8)), (.slice none 0 0), (S ([] : List UInt8)), (.slice none 0 0)]⟩ 57 fun a28 h29 => stL a28 [(.int .u8 i22), (.int .u8 i23), (S s24), (.slice s25b s25n s25c), (S s26), (.slice s27b s27n s27c)] 0 h29 fun h30 => ∃ s31b s31n s31c, cell h30 (a28.add 3) = some (.slice s31b s31n s31c) ∧ (HCalls Tryz.prog 52 ⟨[(.slice s31b s31n s31c)]⟩ h30 fun v32 h33 => vSlice v32 fun s34b s34n s34c => HCalls Tryz.prog 24 ⟨[(.pointer x0), (.int .i64 i16)]⟩ h33 fun v35 h36 => vSlice v35 fun s37b s37n s37c => stL (a28.add 3) [(.slice s34b s34n s34c)] 0 h36 fun h38 => stL (a28.add 5) [(.slice s37b s37n s37c)] 0 h38 fun h39 => ∃ i40, cell h39 ((a28).add 0) = some (.int .u8 i40) ∧ (∃ i41, cell h39 ((a28).add 1) = some (.int .u8 i41) ∧ (∃ s42, cell h39 ((a28).add 2) = some (S s42) ∧ (∃ s43b s43n s43c, cell h39 ((a28).add 3) = some (.slice s43b s43n s43c) ∧ (∃ s44, cell h39 ((a28).add 4) = some (S s44) ∧ (∃ s45b s45n s45c, cell h39 ((a28).add 5) = some (.slice s45b s45n s45c) ∧ (newx h39 #[(.int .u8 i40), (.int .u8 i41), (S s42), (.slice s43b s43n s43c), (S s44), (.slice s45b s45n s45c)] 57 fun a46 h47 => SemH Tryz.prog (Builtin.append_ #[54, 54] 54 ⟨[(.slice x6b x6n x6c), (.slice (some a46) 1 1)]⟩) h47 fun v48 h49 => vSlice v48 fun s50b s50n s50c => Rng .i64 (x20 + (1 : Int)) ∧ (n9_L Kn Ke0 Kr N x0 s50b s50n s50c x18b x18n x18c x19 (x20 + (1 : Int)) h49)))))))))))))))))))) (Ke0 x6b x6n x6c h)
abbrev n9 (Kn Ke0 : T4) (Kr : T0) (h : H) : Prop :=
  ∃ N, n9_L Kn Ke0 Kr N x0 x6b x6n x6c x18b x18n x18c x19 x20 h
abbrev n8 (Kn : T4) (Kr : T0) (h : H) : Prop :=
  n9 x0 x6b x6n x6c x18b x18n x18c x19 x20 Kn Kn Kr h
abbrev Q4 (Kn : T5) (Kr : T0) := QX (D5 Kn) (D0 Kr) noX
abbrev n7 (Kn : T4) (Kr : T0) (h : H) : Prop :=
  vSome x5 fun a51 => ∃ s52b s52n s52c, cell h (a51.add 7) = some (.slice s52b s52n s52c) ∧ (n8 x0 x6b x6n x6c s52b s52n s52c (s52n : Int) (0 : Int) Kn Kr h)
abbrev n5 (Kn Kr : T0) (h : H) : Prop :=
  n7 x0 x5 x6b x6n x6c (fun z6b z6n z6c h => n6 z6b z6n z6c Kn Kr h) Kr h
abbrev Q5 (Kn : T3) (Kr : T0) := QX (D3 Kn) (D0 Kr) noX
abbrev n4 (Kn Kr : T0) (h : H) : Prop :=
  n5 x0 x5 none 0 0 Kn Kr h
abbrev Q6 (Kn : T2) (Kr : T0) := QX (D2 Kn) (D0 Kr) noX
abbrev n3 (Kn Kr : T0) (h : H) : Prop :=
  SemH Tryz.prog (binS .eql 80 (.tmp 13) (.const (.pointer none)) (.pointer x5) (.pointer none)) h fun v53 h54 => vBool v53 fun b55 => cond b55 (Kr none 0 0 h54) (n4 x0 x5 Kn Kr h54)
abbrev n2 (Kn Kr : T0) (h : H) : Prop :=
  HCalls Tryz.prog 51 ⟨[(.pointer x0), (.int .i64 x1)]⟩ h fun v56 h57 => vPtr v56 fun p58 => n3 x0 p58 Kn Kr h57
abbrev Q7 (Kn : T1) (Kr : T0) := QX (D1 Kn) (D0 Kr) noX
abbrev n1 (Kn Kr : T0) (h : H) : Prop :=
  n2 x0 x1 Kn Kr h
variable {g} {h : H} {p : Prop}
variable {x0 x1 x4b x4n x4c x5 x6b x6n x6c x18b x18n x18c x19 x20}
theorem D5_mk {K : T5} (hg : E5 g x0 x6b x6n x6c x18b x18n x18c x19 x20) (hk : K x0 x6b x6n x6c x18b x18n x18c x19 x20 h) : D5 K g h := by
  obtain ⟨e0, e6, e18, e19, e20, d⟩ := hg
  unfold D5
  rw [e0, e6, e18, e19, e20, d]
  exact hk
theorem D0_el {K : T0} (hq : D0 K g h) (f : ∀ {x4b x4n x4c}, E0 g x4b x4n x4c → K x4b x4n x4c h → p) : p := nilDs_el hq fun d q => vSlice_el q fun _ _ _ e4 q => f ⟨e4, d⟩ q
theorem D1_el {K : T1} (hq : D1 K g h) (f : ∀ {x0 x1}, E1 g x0 x1 → K x0 x1 h → p) : p := nilDs_el hq fun d q => vPtr_el q fun _ e0 q => vInt_el q fun _ e1 q => f ⟨e0, e1, d⟩ q
theorem D2_el {K : T2} (hq : D2 K g h) (f : ∀ {x0 x5}, E2 g x0 x5 → K x0 x5 h → p) : p := nilDs_el hq fun d q => vPtr_el q fun _ e0 q => vPtr_el q fun _ e5 q => f ⟨e0, e5, d⟩ q
theorem D3_el {K : T3} (hq : D3 K g h) (f : ∀ {x0 x5 x6b x6n x6c}, E3 g x0 x5 x6b x6n x6c → K x0 x5 x6b x6n x6c h → p) : p := nilDs_el hq fun d q => vPtr_el q fun _ e0 q => vPtr_el q fun _ e5 q => vSlice_el q fun _ _ _ e6 q => f ⟨e0, e5, e6, d⟩ q
theorem D4_el {K : T4} (hq : D4 K g h) (f : ∀ {x6b x6n x6c}, E4 g x6b x6n x6c → K x6b x6n x6c h → p) : p := nilDs_el hq fun d q => vSlice_el q fun _ _ _ e6 q => f ⟨e6, d⟩ q
theorem n6_ok {Kn Kr : T0} (hg : E4 g x6b x6n x6c) (hS : n6 x6b x6n x6c Kn Kr h) : W c10 (Q0 Kn Kr) g h :=
  leafN (by kernel_rfl) (by kernel_rfl) hg hS (by kernel_rfl)
theorem D5_el {K : T5} (hq : D5 K g h) (f : ∀ {x0 x6b x6n x6c x18b x18n x18c x19 x20}, E5 g x0 x6b x6n x6c x18b x18n x18c x19 x20 → K x0 x6b x6n x6c x18b x18n x18c x19 x20 h → p) : p := nilDs_el hq fun d q => vPtr_el q fun _ e0 q => vSlice_el q fun _ _ _ e6 q => vSlice_el q fun _ _ _ e18 q => vInt_el q fun _ e19 q => vInt_el q fun _ e20 q => f ⟨e0, e6, e18, e19, e20, d⟩ q
theorem n9_ok {Kn Ke0 : T4} {Kr : T0} (hg : E5 g x0 x6b x6n x6c x18b x18n x18c x19 x20) (hS : n9 x0 x6b x6n x6c x18b x18n x18c x19 x20 Kn Ke0 Kr h) : W c13 (Q2 Kn Ke0 Kr) g h :=
  let ⟨N, hS⟩ := hS
  loopN (x := c14) (I := fun N => D5 (n9_L Kn Ke0 Kr N)) (by kernel_rfl) (fun hq => D5_el hq fun _ hq => hq) (fun hq => D5_el hq fun hg hq => leafN (by kernel_rfl) (by kernel_rfl) hg hq (by kernel_rfl)) N (D5_mk hg hS)
theorem n8_ok {Kn : T4} {Kr : T0} (hg : E5 g x0 x6b x6n x6c x18b x18n x18c x19 x20) (hS : n8 x0 x6b x6n x6c x18b x18n x18c x19 x20 Kn Kr h) : W c12 (Q1 Kn Kr) g h := blockN (by kernel_rfl) (n9_ok hg hS)
theorem n7_ok {Kn : T4} {Kr : T0} (hg : E3 g x0 x5 x6b x6n x6c) (hS : n7 x0 x5 x6b x6n x6c Kn Kr h) : W c9 (Q1 Kn Kr) g h :=
  seqN (x := c11) (N' := D5 (fun z0 z6b z6n z6c z18b z18n z18c z19 z20 h => n8 z0 z6b z6n z6c z18b z18n z18c z19 z20 Kn Kr h)) (by kernel_rfl) (leafN (by kernel_rfl) (by kernel_rfl) hg hS (by kernel_rfl)) fun hq => D5_el hq n8_ok
theorem n5_ok {Kn Kr : T0} (hg : E3 g x0 x5 x6b x6n x6c) (hS : n5 x0 x5 x6b x6n x6c Kn Kr h) : W c8 (Q0 Kn Kr) g h :=
  seqN (by kernel_rfl) (n7_ok hg hS) fun hq => D4_el hq n6_ok
theorem n4_ok {Kn Kr : T0} (hg : E2 g x0 x5) (hS : n4 x0 x5 Kn Kr h) : W c6 (Q0 Kn Kr) g h :=
  seqN (x := c7) (N' := D3 (fun z0 z5 z6b z6n z6c h => n5 z0 z5 z6b z6n z6c Kn Kr h)) (by kernel_rfl) (leafN (by kernel_rfl) (by kernel_rfl) hg hS (by kernel_rfl)) fun hq => D3_el hq n5_ok
theorem n3_ok {Kn Kr : T0} (hg : E2 g x0 x5) (hS : n3 x0 x5 Kn Kr h) : W c4 (Q0 Kn Kr) g h :=
  seqN (x := c5) (N' := D2 (fun z0 z5 h => n4 z0 z5 Kn Kr h)) (by kernel_rfl) (leafN (by kernel_rfl) (by kernel_rfl) hg hS (by kernel_rfl)) fun hq => D2_el hq n4_ok
theorem n2_ok {Kn Kr : T0} (hg : E1 g x0 x1) (hS : n2 x0 x1 Kn Kr h) : W c2 (Q0 Kn Kr) g h :=
  seqN (x := c3) (N' := D2 (fun z0 z5 h => n3 z0 z5 Kn Kr h)) (by kernel_rfl) (leafN (by kernel_rfl) (by kernel_rfl) hg hS (by kernel_rfl)) fun hq => D2_el hq n3_ok
theorem n1_ok {Kn Kr : T0} (hg : E1 g x0 x1) (hS : n1 x0 x1 Kn Kr h) : W code (Q0 Kn Kr) g h :=
  seqN (x := c1) (N' := D1 (fun z0 z1 h => n2 z0 z1 Kn Kr h)) (by kernel_rfl) (leafN (by kernel_rfl) (by kernel_rfl) hg hS (by kernel_rfl)) fun hq => D1_el hq n2_ok
/-- WHAT (*tympan/dom.Tree).Whole ASKS -/
abbrev asks (x0 : Option Addr) (x1 : Int) (K : Value → H → Prop) (h : H) : Prop := n1 x0 x1 (fun y4b y4n y4c h => K (.slice y4b y4n y4c) h) (fun y4b y4n y4c h => K (.slice y4b y4n y4c) h) h
theorem ok (x0 : Option Addr) (x1 : Int) (K : Value → H → Prop) (h : H) (hS : asks x0 x1 K h) : HCalls Tryz.prog 24 ⟨[(.pointer x0), (.int .i64 x1)]⟩ h K :=
  callsN (c := code) Tryz.func24 (by kernel_rfl) (by kernel_rfl) (n1_ok ⟨rfl, rfl, rfl⟩ hS) fun hq => D0_el hq fun hg hq => retN hg hq (by kernel_rfl)
end Sx.dom_Tree_Whole

/-! ### tympan/open.Until -/
namespace Sx.open_Until
noncomputable def code : Code := bodyOf Tryz.f54
abbrev T0 := Addr → (List Deferred) → H → Prop
def E0 (g : Env) (x4 : Addr) (ds : List Deferred) : Prop := g.v 4 = (.pointer (some x4)) ∧ g.ds = ds
def D0 (K : T0) (g : Env) (h : H) : Prop := vAddr (g.v 4) fun a1 => K a1 g.ds h
theorem D0_ok {K : T0} {g : Env} {h : H} (hq : D0 K g h) : ∃ (x4 : Addr) (ds : List Deferred), E0 g x4 ds ∧ K x4 ds h := by
  obtain ⟨y3, e2, q4⟩ := vAddr_ok hq
  exact ⟨y3, g.ds, ⟨e2, rfl⟩, q4⟩
theorem D0_mk {K : T0} {g : Env} {h : H} {x4 : Addr} {ds : List Deferred} (hg : E0 g x4 ds) (hk : K x4 ds h) : D0 K g h := by
  obtain ⟨hg4, hds⟩ := hg
  unfold D0
  rw [hg4, hds]
  exact hk
def Q0 (Kn : T0) (Kr : T0) : XPost
  | .normal, g, h => D0 Kn g h
  | .ret, g, h => D0 Kr g h
  | _, _, _ => False
abbrev T1 := (Option Addr) → Nat → Nat → (Option Addr) → Nat → Nat → (List Deferred) → H → Prop
def E1 (g : Env) (x0b : Option Addr) (x0n : Nat) (x0c : Nat) (x1b : Option Addr) (x1n : Nat) (x1c : Nat) (ds : List Deferred) : Prop := g.v 0 = (.slice x0b x0n x0c) ∧ g.v 1 = (.slice x1b x1n x1c) ∧ g.ds = ds
def D1 (K : T1) (g : Env) (h : H) : Prop := vSlice (g.v 0) fun s5b s5n s5c => vSlice (g.v 1) fun s6b s6n s6c => K s5b s5n s5c s6b s6n s6c g.ds h
theorem D1_ok {K : T1} {g : Env} {h : H} (hq : D1 K g h) : ∃ (x0b : Option Addr) (x0n : Nat) (x0c : Nat) (x1b : Option Addr) (x1n : Nat) (x1c : Nat) (ds : List Deferred), E1 g x0b x0n x0c x1b x1n x1c ds ∧ K x0b x0n x0c x1b x1n x1c ds h := by
  obtain ⟨y8b, y8n, y8c, e7, q9⟩ := vSlice_ok hq
  obtain ⟨y11b, y11n, y11c, e10, q12⟩ := vSlice_ok q9
  exact ⟨y8b, y8n, y8c, y11b, y11n, y11c, g.ds, ⟨e7, e10, rfl⟩, q12⟩
theorem D1_mk {K : T1} {g : Env} {h : H} {x0b : Option Addr} {x0n : Nat} {x0c : Nat} {x1b : Option Addr} {x1n : Nat} {x1c : Nat} {ds : List Deferred} (hg : E1 g x0b x0n x0c x1b x1n x1c ds) (hk : K x0b x0n x0c x1b x1n x1c ds h) : D1 K g h := by
  obtain ⟨hg0, hg1, hds⟩ := hg
  unfold D1
  rw [hg0, hg1, hds]
  exact hk
noncomputable def n1_c1 : Code := cFst code
noncomputable def n1_c2 : Code := cSnd code
abbrev T2 := (Option Addr) → Nat → Nat → Addr → Addr → (List Deferred) → H → Prop
def E2 (g : Env) (x0b : Option Addr) (x0n : Nat) (x0c : Nat) (x3 : Addr) (x4 : Addr) (ds : List Deferred) : Prop := g.v 0 = (.slice x0b x0n x0c) ∧ g.v 3 = (.pointer (some x3)) ∧ g.v 4 = (.pointer (some x4)) ∧ g.ds = ds
def D2 (K : T2) (g : Env) (h : H) : Prop := vSlice (g.v 0) fun s13b s13n s13c => vAddr (g.v 3) fun a14 => vAddr (g.v 4) fun a15 => K s13b s13n s13c a14 a15 g.ds h
theorem D2_ok {K : T2} {g : Env} {h : H} (hq : D2 K g h) : ∃ (x0b : Option Addr) (x0n : Nat) (x0c : Nat) (x3 : Addr) (x4 : Addr) (ds : List Deferred), E2 g x0b x0n x0c x3 x4 ds ∧ K x0b x0n x0c x3 x4 ds h := by
  obtain ⟨y17b, y17n, y17c, e16, q18⟩ := vSlice_ok hq
  obtain ⟨y20, e19, q21⟩ := vAddr_ok q18
  obtain ⟨y23, e22, q24⟩ := vAddr_ok q21
  exact ⟨y17b, y17n, y17c, y20, y23, g.ds, ⟨e16, e19, e22, rfl⟩, q24⟩
theorem D2_mk {K : T2} {g : Env} {h : H} {x0b : Option Addr} {x0n : Nat} {x0c : Nat} {x3 : Addr} {x4 : Addr} {ds : List Deferred} (hg : E2 g x0b x0n x0c x3 x4 ds) (hk : K x0b x0n x0c x3 x4 ds h) : D2 K g h := by
  obtain ⟨hg0, hg3, hg4, hds⟩ := hg
  unfold D2
  rw [hg0, hg3, hg4, hds]
  exact hk
noncomputable def n2_c1 : Code := cFst n1_c2
noncomputable def n2_c2 : Code := cSnd n1_c2
abbrev n3 (x4 : Addr) (ds : List Deferred) (Kn : T0) (Kr : T0) (h : H) : Prop :=
  stL x4 [(.int .i64 (-1 : Int))] 0 h fun h25 => Kr x4 ds h25
theorem n3_ok (x4 : Addr) (ds : List Deferred) (Kn : T0) (Kr : T0) (g : Env) (hg : E0 g x4 ds) (h : H) (hS : n3 x4 ds Kn Kr h) : wpC none Tryz.prog 15 n2_c2 (Q0 Kn Kr) g h := by
  obtain ⟨hg4, hds⟩ := hg
  refine wpC_of_wpx (by kernel_rfl) (by kernel_rfl) (g' := (⟨g.v, ds⟩ : Env).upd (some 4) (.pointer (some x4))) (by rw [env_ds hds, upd_self hg4]) ?_
  have e : (n3 x4 ds Kn Kr h) = wpx none Tryz.prog 15 n2_c2 (Q0 Kn Kr) ((⟨g.v, ds⟩ : Env).upd (some 4) (.pointer (some x4))) h := by kernel_rfl
  exact e ▸ hS
noncomputable def n4_c1 : Code := cFst n2_c1
noncomputable def n4_c2 : Code := cSnd n2_c1
abbrev T3 := Addr → Addr → Value → (List Deferred) → H → Prop
def E3 (g : Env) (x3 : Addr) (x4 : Addr) (x8 : Value) (ds : List Deferred) : Prop := g.v 3 = (.pointer (some x3)) ∧ g.v 4 = (.pointer (some x4)) ∧ g.v 8 = x8 ∧ g.ds = ds
def D3 (K : T3) (g : Env) (h : H) : Prop := vAddr (g.v 3) fun a26 => vAddr (g.v 4) fun a27 => K a26 a27 (g.v 8) g.ds h
theorem D3_ok {K : T3} {g : Env} {h : H} (hq : D3 K g h) : ∃ (x3 : Addr) (x4 : Addr) (x8 : Value) (ds : List Deferred), E3 g x3 x4 x8 ds ∧ K x3 x4 x8 ds h := by
  obtain ⟨y29, e28, q30⟩ := vAddr_ok hq
  obtain ⟨y32, e31, q33⟩ := vAddr_ok q30
  exact ⟨y29, y32, (g.v 8), g.ds, ⟨e28, e31, rfl, rfl⟩, q33⟩
theorem D3_mk {K : T3} {g : Env} {h : H} {x3 : Addr} {x4 : Addr} {x8 : Value} {ds : List Deferred} (hg : E3 g x3 x4 x8 ds) (hk : K x3 x4 x8 ds h) : D3 K g h := by
  obtain ⟨hg3, hg4, hg8, hds⟩ := hg
  unfold D3
  rw [hg3, hg4, hg8, hds]
  exact hk
noncomputable def n5_c1 : Code := cFst n4_c2
def Q1 (Kn : T0) (Ke0 : T0) (Kr : T0) : XPost
  | .normal, g, h => D0 Kn g h
  | .ret, g, h => D0 Kr g h
  | .exit id, g, h => cond (Nat.beq id 0) (D0 Ke0 g h) (False)
  | _, _, _ => False
noncomputable def n6_c1 : Code := cFst n5_c1
noncomputable def n6_c2 : Code := cSnd n5_c1
def n6_rd (x3 : Addr) (x4 : Addr) (x8 : Value) (ds : List Deferred) (Kn : T0) (Ke0 : T0) (Kr : T0) (h : H) (p9 : Int) (p10_0 : Int) (p10_1 : Int) (p10_2 : List UInt8) (p10_3 : Int) (Mid : H → (H → Prop) → Prop) (Kc : H → H → Prop) (Fin : H → H → (H → Prop) → Prop) (h1 : H) : Prop :=
  newx h1 ⟨[(.int .i64 (0 : Int)), (.int .u8 (0 : Int)), (S ([] : List UInt8)), (.int .u8 (0 : Int))]⟩ 36 fun a34 h35 => stL a34 [(.int .i64 p10_0), (.int .u8 p10_1), (S p10_2), (.int .u8 p10_3)] 0 h35 fun h36 => Mid h36 fun hb37 => ∃ i38, cell hb37 ((a34).add 0) = some (.int .i64 i38) ∧ (∃ i39, cell hb37 ((a34).add 1) = some (.int .u8 i39) ∧ (∃ s40, cell hb37 ((a34).add 2) = some (S s40) ∧ (∃ i41, cell hb37 ((a34).add 3) = some (.int .u8 i41) ∧ (∃ s42b s42n s42c, cell hb37 x3 = some (.slice s42b s42n s42c) ∧ (HCalls Tryz.prog 77 ⟨[(.agg ⟨[(.int .i64 i38), (.int .u8 i39), (S s40), (.int .u8 i41)]⟩), (.slice s42b s42n s42c)]⟩ hb37 fun v43 h44 => vBool v43 fun b45 => cond b45 (stL x4 [(.int .i64 p9)] 0 h44 fun h46 => Fin hb37 h46 fun h47 => Kr x4 (markD h.size :: ds) h47) (Kc hb37 h44))))))
abbrev n6 (x3 : Addr) (x4 : Addr) (x8 : Value) (ds : List Deferred) (Kn : T0) (Ke0 : T0) (Kr : T0) (h : H) : Prop := Ranges Tryz.prog x8 2 h (fun l48 Mid Kc Fin h1 => uncons l48 fun e49 l50 => vInt .i64 e49 fun i51 => uncons l50 fun e52 l53 => vAgg e52 fun l54 => uncons l54 fun e55 l56 => vInt .i64 e55 fun i57 => uncons l56 fun e58 l59 => vInt .u8 e58 fun i60 => uncons l59 fun e61 l62 => vStr e61 fun s63 => uncons l62 fun e64 l65 => vInt .u8 e64 fun i66 => unnil l65 (unnil l53 (n6_rd x3 x4 x8 ds Kn Ke0 Kr h i51 i57 i60 s63 i66 Mid Kc Fin h1))) (fun h4 => Kn x4 (markD h.size :: ds) h4)
theorem n6_ok (x3 : Addr) (x4 : Addr) (x8 : Value) (ds : List Deferred) (Kn : T0) (Ke0 : T0) (Kr : T0) (g : Env) (hg : E3 g x3 x4 x8 ds) (h : H) (hS : n6 x3 x4 x8 ds Kn Ke0 Kr h) : wpC none Tryz.prog 15 n5_c1 (Q1 Kn Ke0 Kr) g h := by
  obtain ⟨hg3, hg4, hg8, hds⟩ := hg
  subst hds
  have ho : ((((⟨g.v, g.ds⟩ : Env).upd (some 3) (.pointer (some x3))).upd (some 4) (.pointer (some x4))).upd (some 8) x8 : Env) = g := by rw [env_ds rfl, upd_self hg3, upd_self hg4, upd_self hg8]
  have hc : n5_c1 = .rangeFunc (.tmp 8) #[9, 10] n6_c1 n6_c2 := by kernel_rfl
  rw [hc]
  refine wpC_range (f := x8) (rd := (fun l48 Mid Kc Fin h1 => uncons l48 fun e49 l50 => vInt .i64 e49 fun i51 => uncons l50 fun e52 l53 => vAgg e52 fun l54 => uncons l54 fun e55 l56 => vInt .i64 e55 fun i57 => uncons l56 fun e58 l59 => vInt .u8 e58 fun i60 => uncons l59 fun e61 l62 => vStr e61 fun s63 => uncons l62 fun e64 l65 => vInt .u8 e64 fun i66 => unnil l65 (unnil l53 (n6_rd x3 x4 x8 g.ds Kn Ke0 Kr h i51 i57 i60 s63 i66 Mid Kc Fin h1)))) (done := (fun h4 => Kn x4 (markD h.size :: g.ds) h4)) ?_ hS ?_ ?_
  · rw [← ho]; kernel_rfl
  · intro h4 hd
    have e : (Kn x4 (markD h.size :: g.ds) h4) = (Q1 Kn Ke0 Kr) .normal ⟨((((⟨g.v, g.ds⟩ : Env).upd (some 3) (.pointer (some x3))).upd (some 4) (.pointer (some x4))).upd (some 8) x8).v, markD h.size :: g.ds⟩ h4 := by kernel_rfl
    rw [ho] at e
    exact e ▸ hd
  · intro L x Mid Kc Fin h1 hM hx
    obtain ⟨u67, l68, rfl, q69⟩ := uncons_ok hx
    obtain ⟨y70, rfl, q71⟩ := vInt_ok q69
    obtain ⟨u72, l73, rfl, q74⟩ := uncons_ok q71
    obtain ⟨l75, rfl, q76⟩ := vAgg_ok q74
    obtain ⟨u77, l78, rfl, q79⟩ := uncons_ok q76
    obtain ⟨y80, rfl, q81⟩ := vInt_ok q79
    obtain ⟨u82, l83, rfl, q84⟩ := uncons_ok q81
    obtain ⟨y85, rfl, q86⟩ := vInt_ok q84
    obtain ⟨u87, l88, rfl, q89⟩ := uncons_ok q86
    obtain ⟨y90, rfl, q91⟩ := vStr_ok q89
    obtain ⟨u92, l93, rfl, q94⟩ := uncons_ok q91
    obtain ⟨y95, rfl, q96⟩ := vInt_ok q94
    obtain ⟨rfl, q97⟩ := unnil_ok q96
    obtain ⟨rfl, q98⟩ := unnil_ok q97
    have e : (n6_rd x3 x4 x8 g.ds Kn Ke0 Kr h y70 y80 y85 y90 y95 Mid Kc Fin h1) = wpx (some L) Tryz.prog 15 n6_c1 (thenX (fun g1 he => Mid he fun hb => wpx (some L) Tryz.prog 15 n6_c2 (rpost Kc Fin (Q1 Kn Ke0 Kr) ⟨((((⟨g.v, g.ds⟩ : Env).upd (some 3) (.pointer (some x3))).upd (some 4) (.pointer (some x4))).upd (some 8) x8).v, markD h.size :: g.ds⟩ hb) g1 hb) fun _ _ _ => False) (setps ((((⟨g.v, g.ds⟩ : Env).upd (some 3) (.pointer (some x3))).upd (some 4) (.pointer (some x4))).upd (some 8) x8) [9, 10] [(.int .i64 y70), (.agg ⟨[(.int .i64 y80), (.int .u8 y85), (S y90), (.int .u8 y95)]⟩)]) h1 := by kernel_rfl
    rw [ho] at e
    exact (wpx_ok (by kernel_rfl) _ _ _ _ (by kernel_rfl) (e ▸ q98)).mono (thenX_mono fun g1 he hm => hM he _ _ (fun hb => wpx_ok (by kernel_rfl) _ _ _ _ (by kernel_rfl)) hm)
abbrev n5 (x3 : Addr) (x4 : Addr) (x8 : Value) (ds : List Deferred) (Kn : T0) (Kr : T0) (h : H) : Prop := n6 x3 x4 x8 ds Kn Kn Kr h
theorem n5_ok (x3 : Addr) (x4 : Addr) (x8 : Value) (ds : List Deferred) (Kn : T0) (Kr : T0) (g : Env) (hg : E3 g x3 x4 x8 ds) (h : H) (hS : n5 x3 x4 x8 ds Kn Kr h) : wpC none Tryz.prog 15 n4_c2 (Q0 Kn Kr) g h := by
  refine wpC_block' (id := 0) (x := n5_c1) (by kernel_rfl) (n6_ok x3 x4 x8 ds Kn Kn Kr g hg h hS) ?_
  intro e g' h' hq
  cases e <;> exact hq
def Q2 (Kn : T3) (Kr : T0) : XPost
  | .normal, g, h => D3 Kn g h
  | .ret, g, h => D0 Kr g h
  | _, _, _ => False
abbrev n4 (x0b : Option Addr) (x0n : Nat) (x0c : Nat) (x3 : Addr) (x4 : Addr) (ds : List Deferred) (Kn : T0) (Kr : T0) (h : H) : Prop :=
  HCalls Tryz.prog 76 ⟨[(.slice x0b x0n x0c)]⟩ h fun v99 h100 => n5 x3 x4 v99 ds Kn Kr h100
theorem n4_ok (x0b : Option Addr) (x0n : Nat) (x0c : Nat) (x3 : Addr) (x4 : Addr) (ds : List Deferred) (Kn : T0) (Kr : T0) (g : Env) (hg : E2 g x0b x0n x0c x3 x4 ds) (h : H) (hS : n4 x0b x0n x0c x3 x4 ds Kn Kr h) : wpC none Tryz.prog 15 n2_c1 (Q0 Kn Kr) g h := by
  obtain ⟨hg0, hg3, hg4, hds⟩ := hg
  refine wpC_seq' (x := n4_c1) (y := n4_c2) (Q' := (Q2 (fun z3 z4 z8 zds h => n5 z3 z4 z8 zds Kn Kr h) Kr)) (by kernel_rfl) ?_ ?_
  · refine wpC_of_wpx (by kernel_rfl) (by kernel_rfl) (g' := (((⟨g.v, ds⟩ : Env).upd (some 0) (.slice x0b x0n x0c)).upd (some 3) (.pointer (some x3))).upd (some 4) (.pointer (some x4))) (by rw [env_ds hds, upd_self hg0, upd_self hg3, upd_self hg4]) ?_
    have e : (n4 x0b x0n x0c x3 x4 ds Kn Kr h) = wpx none Tryz.prog 15 n4_c1 (Q2 (fun z3 z4 z8 zds h => n5 z3 z4 z8 zds Kn Kr h) Kr) ((((⟨g.v, ds⟩ : Env).upd (some 0) (.slice x0b x0n x0c)).upd (some 3) (.pointer (some x3))).upd (some 4) (.pointer (some x4))) h := by kernel_rfl
    exact e ▸ hS
  · intro e g' h' hq
    cases e with
    | normal =>
      have hq : D3 (fun z3 z4 z8 zds h => n5 z3 z4 z8 zds Kn Kr h) g' h' := hq
      obtain ⟨y3, y4, y8, yds, hg', hq⟩ := D3_ok hq
      exact n5_ok y3 y4 y8 yds Kn Kr g' hg' h' hq
    | _ => exact hq
abbrev n2 (x0b : Option Addr) (x0n : Nat) (x0c : Nat) (x3 : Addr) (x4 : Addr) (ds : List Deferred) (Kn : T0) (Kr : T0) (h : H) : Prop := n4 x0b x0n x0c x3 x4 ds (fun z4 zds h => n3 z4 zds Kn Kr h) Kr h
theorem n2_ok (x0b : Option Addr) (x0n : Nat) (x0c : Nat) (x3 : Addr) (x4 : Addr) (ds : List Deferred) (Kn : T0) (Kr : T0) (g : Env) (hg : E2 g x0b x0n x0c x3 x4 ds) (h : H) (hS : n2 x0b x0n x0c x3 x4 ds Kn Kr h) : wpC none Tryz.prog 15 n1_c2 (Q0 Kn Kr) g h := by
  refine wpC_seq' (x := n2_c1) (y := n2_c2) (by kernel_rfl) (n4_ok x0b x0n x0c x3 x4 ds (fun z4 zds h => n3 z4 zds Kn Kr h) Kr g hg h hS) ?_
  intro e g' h' hq
  cases e with
  | normal =>
    have hq : D0 (fun z4 zds h => n3 z4 zds Kn Kr h) g' h' := hq
    obtain ⟨y4, yds, hg', hq⟩ := D0_ok hq
    exact n3_ok y4 yds Kn Kr g' hg' h' hq
  | _ => exact hq
def Q3 (Kn : T2) (Kr : T0) : XPost
  | .normal, g, h => D2 Kn g h
  | .ret, g, h => D0 Kr g h
  | _, _, _ => False
abbrev n1 (x0b : Option Addr) (x0n : Nat) (x0c : Nat) (x1b : Option Addr) (x1n : Nat) (x1c : Nat) (ds : List Deferred) (Kn : T0) (Kr : T0) (h : H) : Prop :=
  newx h #[(.slice x1b x1n x1c)] 102 fun a101 h102 => newx h102 #[(.int .i64 (0 : Int))] 3 fun a103 h104 => n2 x0b x0n x0c a101 a103 ds Kn Kr h104
theorem n1_ok (x0b : Option Addr) (x0n : Nat) (x0c : Nat) (x1b : Option Addr) (x1n : Nat) (x1c : Nat) (ds : List Deferred) (Kn : T0) (Kr : T0) (g : Env) (hg : E1 g x0b x0n x0c x1b x1n x1c ds) (h : H) (hS : n1 x0b x0n x0c x1b x1n x1c ds Kn Kr h) : wpC none Tryz.prog 15 code (Q0 Kn Kr) g h := by
  obtain ⟨hg0, hg1, hds⟩ := hg
  refine wpC_seq' (x := n1_c1) (y := n1_c2) (Q' := (Q3 (fun z0b z0n z0c z3 z4 zds h => n2 z0b z0n z0c z3 z4 zds Kn Kr h) Kr)) (by kernel_rfl) ?_ ?_
  · refine wpC_of_wpx (by kernel_rfl) (by kernel_rfl) (g' := ((⟨g.v, ds⟩ : Env).upd (some 0) (.slice x0b x0n x0c)).upd (some 1) (.slice x1b x1n x1c)) (by rw [env_ds hds, upd_self hg0, upd_self hg1]) ?_
    have e : (n1 x0b x0n x0c x1b x1n x1c ds Kn Kr h) = wpx none Tryz.prog 15 n1_c1 (Q3 (fun z0b z0n z0c z3 z4 zds h => n2 z0b z0n z0c z3 z4 zds Kn Kr h) Kr) (((⟨g.v, ds⟩ : Env).upd (some 0) (.slice x0b x0n x0c)).upd (some 1) (.slice x1b x1n x1c)) h := by kernel_rfl
    exact e ▸ hS
  · intro e g' h' hq
    cases e with
    | normal =>
      have hq : D2 (fun z0b z0n z0c z3 z4 zds h => n2 z0b z0n z0c z3 z4 zds Kn Kr h) g' h' := hq
      obtain ⟨y0b, y0n, y0c, y3, y4, yds, hg', hq⟩ := D2_ok hq
      exact n2_ok y0b y0n y0c y3 y4 yds Kn Kr g' hg' h' hq
    | _ => exact hq
/-- WHAT tympan/open.Until ASKS -/
abbrev asks (x0b : Option Addr) (x0n : Nat) (x0c : Nat) (x1b : Option Addr) (x1n : Nat) (x1c : Nat) (K : Value → H → Prop) (h : H) : Prop := n1 x0b x0n x0c x1b x1n x1c [] (fun y4 ds h => leaveX ds h fun h => ∃ i105, cell h y4 = some (.int .i64 i105) ∧ (K (.int .i64 i105) h)) (fun y4 ds h => leaveX ds h fun h => ∃ i105, cell h y4 = some (.int .i64 i105) ∧ (K (.int .i64 i105) h)) h
theorem ok (x0b : Option Addr) (x0n : Nat) (x0c : Nat) (x1b : Option Addr) (x1n : Nat) (x1c : Nat) (K : Value → H → Prop) (h : H) (hS : asks x0b x0n x0c x1b x1n x1c K h) : HCalls Tryz.prog 54 ⟨[(.slice x0b x0n x0c), (.slice x1b x1n x1c)]⟩ h K := by
  refine calls_of_wpC (c := code) Tryz.func54 (by kernel_rfl) (Nat.le_of_ble_eq_true (by kernel_rfl)) ?_
  refine (n1_ok x0b x0n x0c x1b x1n x1c [] (fun y4 ds h => leaveX ds h fun h => ∃ i105, cell h y4 = some (.int .i64 i105) ∧ (K (.int .i64 i105) h)) (fun y4 ds h => leaveX ds h fun h => ∃ i105, cell h y4 = some (.int .i64 i105) ∧ (K (.int .i64 i105) h)) (env0 [(.slice x0b x0n x0c), (.slice x1b x1n x1c)]) ⟨rfl, rfl, rfl⟩ h hS).mono ?_
  intro e g' h' hq
  cases e with
  | normal =>
    have hq : D0 (fun y4 ds h => leaveX ds h fun h => ∃ i105, cell h y4 = some (.int .i64 i105) ∧ (K (.int .i64 i105) h)) g' h' := hq
    obtain ⟨y4, ds, ⟨hg4, hd⟩, hq⟩ := D0_ok hq
    show leaveX g'.ds h' _
    rw [hd]
    show leaveX ds h' fun h => vAddr (g'.v 4) fun a106 => ldx Tryz.prog 3 a106 h fun v107 => K v107 h
    rw [hg4]
    exact hq
  | ret =>
    have hq : D0 (fun y4 ds h => leaveX ds h fun h => ∃ i105, cell h y4 = some (.int .i64 i105) ∧ (K (.int .i64 i105) h)) g' h' := hq
    obtain ⟨y4, ds, ⟨hg4, hd⟩, hq⟩ := D0_ok hq
    show leaveX g'.ds h' _
    rw [hd]
    show leaveX ds h' fun h => vAddr (g'.v 4) fun a106 => ldx Tryz.prog 3 a106 h fun v107 => K v107 h
    rw [hg4]
    exact hq
  | _ => exact hq
end Sx.open_Until

/-! ### tympan/open.Special -/
namespace Sx.open_Special
noncomputable def code : Code := bodyOf Tryz.f61
abbrev W := wpC none Tryz.prog 18
variable (g : Env) (x0 : Int) (x1 : List UInt8) (x4 : Bool) (x5 : Int) (x6 : Bool)
abbrev T0 := Bool → H → Prop
abbrev E0 := Held g [(4, .bool x4)]
def D0 (K : T0) (g : Env) (h : H) : Prop := nilDs g.ds (vBool (g.v 4) fun b1 => K b1 h)
abbrev Q0 (Kn Kr : T0) := QX (D0 Kn) (D0 Kr) noX
abbrev T1 := Int → (List UInt8) → H → Prop
abbrev E1 := Held g [(0, .int .u8 x0), (1, S x1)]
def D1 (K : T1) (g : Env) (h : H) : Prop := nilDs g.ds (vInt .u8 (g.v 0) fun i2 => vStr (g.v 1) fun s3 => K i2 s3 h)
noncomputable def c1 := cFst code
noncomputable def c2 := cSnd code
noncomputable def c3 := cFst c2
noncomputable def c4 := cSnd c2
abbrev T2 := H → Prop
abbrev E2 := Held g []
def D2 (K : T2) (g : Env) (h : H) : Prop := nilDs g.ds (K h)
abbrev n3 (Kn Kr : T0) (h : H) : Prop :=
  Kr false h
abbrev Q1 (Kn : T2) (Kr : T0) := QX (D2 Kn) (D0 Kr) noX
noncomputable def c5 := cFst c3
noncomputable def c6 := cSnd c3
abbrev T3 := (List UInt8) → Int → H → Prop
abbrev E3 := Held g [(1, S x1), (5, .int .u8 x5)]
def D3 (K : T3) (g : Env) (h : H) : Prop := nilDs g.ds (vStr (g.v 1) fun s4 => vInt .u8 (g.v 5) fun i5 => K s4 i5 h)
noncomputable def c7 := cFst c6
abbrev Q2 (Kn Ke0 : T2) (Kr : T0) := QX (D2 Kn) (D0 Kr) (exX 0 (D2 Ke0) noX)
noncomputable def c8 := cFst c7
noncomputable def c9 := cSnd c7
abbrev T4 := (List UInt8) → Int → Bool → H → Prop
abbrev E4 := Held g [(1, S x1), (5, .int .u8 x5), (6, .bool x6)]
def D4 (K : T4) (g : Env) (h : H) : Prop := nilDs g.ds (vStr (g.v 1) fun s6 => vInt .u8 (g.v 5) fun i7 => vBool (g.v 6) fun b8 => K s6 i7 b8 h)
abbrev n7 (Kn Ke0 : T2) (Kr : T0) (h : H) : Prop :=
  cond x6 (HCalls Tryz.prog 83 ⟨[(S ([32, 97, 100, 100, 114, 101, 115, 115, 32, 97, 112, 112, 108, 101, 116, 32, 97, 114, 101, 97, 32, 97, 114, 116, 105, 99, 108, 101, 32, 97, 115, 105, 100, 101, 32, 98, 97, 115, 101, 32, 98, 97, 115, 101, 102, 111, 110, 116, 32, 98, 103, 115, 111, 117, 110, 100, 32, 98, 108, 111, 99, 107, 113, 117, 111, 116, 101, 32, 98, 111, 100, 121, 32, 98, 114, 32, 98, 117, 116, 116, 111, 110, 32, 99, 97, 112, 116, 105, 111, 110, 32, 99, 101, 110, 116, 101, 114, 32, 99, 111, 108, 32, 99, 111, 108, 103, 114, 111, 117, 112, 32, 100, 100, 32, 100, 101, 116, 97, 105, 108, 115, 32, 100, 105, 97, 108, 111, 103, 32, 100, 105, 114, 32, 100, 105, 118, 32, 100, 108, 32, 100, 116, 32, 101, 109, 98, 101, 100, 32, 102, 105, 101, 108, 100, 115, 101, 116, 32, 102, 105, 103, 99, 97, 112, 116, 105, 111, 110, 32, 102, 105, 103, 117, 114, 101, 32, 102, 111, 111, 116, 101, 114, 32, 102, 111, 114, 109, 32, 102, 114, 97, 109, 101, 32, 102, 114, 97, 109, 101, 115, 101, 116, 32, 104, 49, 32, 104, 50, 32, 104, 51, 32, 104, 52, 32, 104, 53, 32, 104, 54, 32, 104, 101, 97, 100, 32, 104, 101, 97, 100, 101, 114, 32, 104, 103, 114, 111, 117, 112, 32, 104, 114, 32, 104, 116, 109, 108, 32, 105, 102, 114, 97, 109, 101, 32, 105, 109, 103, 32, 105, 110, 112, 117, 116, 32, 107, 101, 121, 103, 101, 110, 32, 108, 105, 32, 108, 105, 110, 107, 32, 108, 105, 115, 116, 105, 110, 103, 32, 109, 97, 105, 110, 32, 109, 97, 114, 113, 117, 101, 101, 32, 109, 101, 110, 117, 32, 109, 101, 116, 97, 32, 110, 97, 118, 32, 110, 111, 101, 109, 98, 101, 100, 32, 110, 111, 102, 114, 97, 109, 101, 115, 32, 110, 111, 115, 99, 114, 105, 112, 116, 32, 111, 98, 106, 101, 99, 116, 32, 111, 108, 32, 112, 32, 112, 97, 114, 97, 109, 32, 112, 108, 97, 105, 110, 116, 101, 120, 116, 32, 112, 114, 101, 32, 115, 99, 114, 105, 112, 116, 32, 115, 101, 97, 114, 99, 104, 32, 115, 101, 99, 116, 105, 111, 110, 32, 115, 101, 108, 101, 99, 116, 32, 115, 111, 117, 114, 99, 101, 32, 115, 116, 121, 108, 101, 32, 115, 117, 109, 109, 97, 114, 121, 32, 116, 97, 98, 108, 101, 32, 116, 98, 111, 100, 121, 32, 116, 100, 32, 116, 101, 109, 112, 108, 97, 116, 101, 32, 116, 101, 120, 116, 97, 114, 101, 97, 32, 116, 102, 111, 111, 116, 32, 116, 104, 32, 116, 104, 101, 97, 100, 32, 116, 105, 116, 108, 101, 32, 116, 114, 32, 116, 114, 97, 99, 107, 32, 117, 108, 32, 119, 98, 114, 32, 120, 109, 112, 32] : List UInt8)), (S x1)]⟩ h fun v9 h10 => vBool v9 fun b11 => cond b11 (Kr true h10) (Kr false h10)) (Spl (x5 = (2 : Int)) (HCalls Tryz.prog 83 ⟨[(S ([32, 97, 110, 110, 111, 116, 97, 116, 105, 111, 110, 45, 120, 109, 108, 32, 109, 105, 32, 109, 110, 32, 109, 111, 32, 109, 115, 32, 109, 116, 101, 120, 116, 32] : List UInt8)), (S x1)]⟩ h fun v12 h13 => vBool v12 fun b14 => cond b14 (Kr true h13) (Kr false h13)) (Spl (x5 = (1 : Int)) (HCalls Tryz.prog 83 ⟨[(S ([32, 100, 101, 115, 99, 32, 102, 111, 114, 101, 105, 103, 110, 79, 98, 106, 101, 99, 116, 32, 116, 105, 116, 108, 101, 32] : List UInt8)), (S x1)]⟩ h fun v15 h16 => vBool v15 fun b17 => cond b17 (Kr true h16) (Kr false h16)) (Kn h)))
abbrev Q3 (Kn : T4) (Ke0 : T2) (Kr : T0) := QX (D4 Kn) (D0 Kr) (exX 0 (D2 Ke0) noX)
abbrev n6 (Kn Ke0 : T2) (Kr : T0) (h : H) : Prop :=
  Spl (x5 = (0 : Int)) (n7 x1 x5 true Kn Ke0 Kr h) (n7 x1 x5 false Kn Ke0 Kr h)
abbrev n5 (Kn : T2) (Kr : T0) (h : H) : Prop :=
  n6 x1 x5 Kn Kn Kr h
abbrev Q4 (Kn : T3) (Kr : T0) := QX (D3 Kn) (D0 Kr) noX
abbrev n4 (Kn : T2) (Kr : T0) (h : H) : Prop :=
  n5 x1 x0 Kn Kr h
abbrev n2 (Kn Kr : T0) (h : H) : Prop :=
  n4 x0 x1 (fun  h => n3 Kn Kr h) Kr h
abbrev Q5 (Kn : T1) (Kr : T0) := QX (D1 Kn) (D0 Kr) noX
abbrev n1 (Kn Kr : T0) (h : H) : Prop :=
  n2 x0 x1 Kn Kr h
variable {g} {h : H} {p : Prop}
variable {x0 x1 x4 x5 x6}
theorem D0_el {K : T0} (hq : D0 K g h) (f : ∀ {x4}, E0 g x4 → K x4 h → p) : p := nilDs_el hq fun d q => vBool_el q fun _ e4 q => f ⟨e4, d⟩ q
theorem D1_el {K : T1} (hq : D1 K g h) (f : ∀ {x0 x1}, E1 g x0 x1 → K x0 x1 h → p) : p := nilDs_el hq fun d q => vInt_el q fun _ e0 q => vStr_el q fun _ e1 q => f ⟨e0, e1, d⟩ q
theorem D2_el {K : T2} (hq : D2 K g h) (f : E2 g → K  h → p) : p := nilDs_el hq fun d q => f d q
theorem n3_ok {Kn Kr : T0} (hg : E2 g) (hS : n3 Kn Kr h) : W c4 (Q0 Kn Kr) g h :=
  leafN (by kernel_rfl) (by kernel_rfl) hg hS (by kernel_rfl)
theorem D3_el {K : T3} (hq : D3 K g h) (f : ∀ {x1 x5}, E3 g x1 x5 → K x1 x5 h → p) : p := nilDs_el hq fun d q => vStr_el q fun _ e1 q => vInt_el q fun _ e5 q => f ⟨e1, e5, d⟩ q
theorem D4_el {K : T4} (hq : D4 K g h) (f : ∀ {x1 x5 x6}, E4 g x1 x5 x6 → K x1 x5 x6 h → p) : p := nilDs_el hq fun d q => vStr_el q fun _ e1 q => vInt_el q fun _ e5 q => vBool_el q fun _ e6 q => f ⟨e1, e5, e6, d⟩ q
theorem n7_ok {Kn Ke0 : T2} {Kr : T0} (hg : E4 g x1 x5 x6) (hS : n7 x1 x5 x6 Kn Ke0 Kr h) : W c9 (Q2 Kn Ke0 Kr) g h :=
  leafN (by kernel_rfl) (by kernel_rfl) hg hS (by kernel_rfl)
theorem n6_ok {Kn Ke0 : T2} {Kr : T0} (hg : E3 g x1 x5) (hS : n6 x1 x5 Kn Ke0 Kr h) : W c7 (Q2 Kn Ke0 Kr) g h :=
  seqN (x := c8) (N' := D4 (fun z1 z5 z6 h => n7 z1 z5 z6 Kn Ke0 Kr h)) (by kernel_rfl) (leafN (by kernel_rfl) (by kernel_rfl) hg hS (by kernel_rfl)) fun hq => D4_el hq n7_ok
theorem n5_ok {Kn : T2} {Kr : T0} (hg : E3 g x1 x5) (hS : n5 x1 x5 Kn Kr h) : W c6 (Q1 Kn Kr) g h := blockN (by kernel_rfl) (n6_ok hg hS)
theorem n4_ok {Kn : T2} {Kr : T0} (hg : E1 g x0 x1) (hS : n4 x0 x1 Kn Kr h) : W c3 (Q1 Kn Kr) g h :=
  seqN (x := c5) (N' := D3 (fun z1 z5 h => n5 z1 z5 Kn Kr h)) (by kernel_rfl) (leafN (by kernel_rfl) (by kernel_rfl) hg hS (by kernel_rfl)) fun hq => D3_el hq n5_ok
theorem n2_ok {Kn Kr : T0} (hg : E1 g x0 x1) (hS : n2 x0 x1 Kn Kr h) : W c2 (Q0 Kn Kr) g h :=
  seqN (by kernel_rfl) (n4_ok hg hS) fun hq => D2_el hq n3_ok
theorem n1_ok {Kn Kr : T0} (hg : E1 g x0 x1) (hS : n1 x0 x1 Kn Kr h) : W code (Q0 Kn Kr) g h :=
  seqN (x := c1) (N' := D1 (fun z0 z1 h => n2 z0 z1 Kn Kr h)) (by kernel_rfl) (leafN (by kernel_rfl) (by kernel_rfl) hg hS (by kernel_rfl)) fun hq => D1_el hq n2_ok
/-- WHAT tympan/open.Special ASKS -/
abbrev asks (x0 : Int) (x1 : List UInt8) (K : Value → H → Prop) (h : H) : Prop := n1 x0 x1 (fun y4 h => K (.bool y4) h) (fun y4 h => K (.bool y4) h) h
theorem ok (x0 : Int) (x1 : List UInt8) (K : Value → H → Prop) (h : H) (hS : asks x0 x1 K h) : HCalls Tryz.prog 61 ⟨[(.int .u8 x0), (S x1)]⟩ h K :=
  callsN (c := code) Tryz.func61 (by kernel_rfl) (by kernel_rfl) (n1_ok ⟨rfl, rfl, rfl⟩ hS) fun hq => D0_el hq fun hg hq => retN hg hq (by kernel_rfl)
end Sx.open_Special

/-! ### tympan/open.outwards -/
namespace Sx.open_outwards
noncomputable def code : Code := bodyOf Tryz.f76
abbrev W := wpC none Tryz.prog 5
variable (g : Env) (x0b : Option Addr) (x0n x0c : Nat) (x2 : Value)
abbrev T0 := Value → H → Prop
abbrev E0 := Held g [(2, x2)]
def D0 (K : T0) (g : Env) (h : H) : Prop := nilDs g.ds (K (g.v 2) h)
abbrev Q0 (Kn Kr : T0) := QX (D0 Kn) (D0 Kr) noX
abbrev T1 := (Option Addr) → Nat → Nat → H → Prop
abbrev E1 := Held g [(0, .slice x0b x0n x0c)]
def D1 (K : T1) (g : Env) (h : H) : Prop := nilDs g.ds (vSlice (g.v 0) fun s1b s1n s1c => K s1b s1n s1c h)
abbrev n1 (Kn Kr : T0) (h : H) : Prop :=
  HCalls Tryz.prog 87 ⟨[(.slice x0b x0n x0c)]⟩ h fun v2 h3 => Kr v2 h3
variable {g} {h : H} {p : Prop}
variable {x0b x0n x0c x2}
theorem D0_el {K : T0} (hq : D0 K g h) (f : ∀ {x2}, E0 g x2 → K x2 h → p) : p := nilDs_el hq fun d q => f ⟨rfl, d⟩ q
theorem D1_el {K : T1} (hq : D1 K g h) (f : ∀ {x0b x0n x0c}, E1 g x0b x0n x0c → K x0b x0n x0c h → p) : p := nilDs_el hq fun d q => vSlice_el q fun _ _ _ e0 q => f ⟨e0, d⟩ q
theorem n1_ok {Kn Kr : T0} (hg : E1 g x0b x0n x0c) (hS : n1 x0b x0n x0c Kn Kr h) : W code (Q0 Kn Kr) g h :=
  leafN (by kernel_rfl) (by kernel_rfl) hg hS (by kernel_rfl)
/-- WHAT tympan/open.outwards ASKS -/
abbrev asks (x0b : Option Addr) (x0n : Nat) (x0c : Nat) (K : Value → H → Prop) (h : H) : Prop := n1 x0b x0n x0c (fun y2 h => K y2 h) (fun y2 h => K y2 h) h
theorem ok (x0b : Option Addr) (x0n : Nat) (x0c : Nat) (K : Value → H → Prop) (h : H) (hS : asks x0b x0n x0c K h) : HCalls Tryz.prog 76 ⟨[(.slice x0b x0n x0c)]⟩ h K :=
  callsN (c := code) Tryz.func76 (by kernel_rfl) (by kernel_rfl) (n1_ok ⟨rfl, rfl⟩ hS) fun hq => D0_el hq fun hg hq => retN hg hq (by kernel_rfl)
end Sx.open_outwards

/-! ### tympan/open.of -/
namespace Sx.open_of
noncomputable def code : Code := bodyOf Tryz.f77
abbrev W := wpC none Tryz.prog 14
variable (g : Env) (x0_0 x0_1 : Int) (x0_2 : List UInt8) (x0_3 : Int) (x1b : Option Addr) (x1n x1c : Nat) (x4 : Bool)
abbrev T0 := Bool → H → Prop
abbrev E0 := Held g [(4, .bool x4)]
def D0 (K : T0) (g : Env) (h : H) : Prop := nilDs g.ds (vBool (g.v 4) fun b1 => K b1 h)
abbrev Q0 (Kn Kr : T0) := QX (D0 Kn) (D0 Kr) noX
abbrev T1 := Int → Int → (List UInt8) → Int → (Option Addr) → Nat → Nat → H → Prop
abbrev E1 := Held g [(0, .agg ⟨[(.int .i64 x0_0), (.int .u8 x0_1), (S x0_2), (.int .u8 x0_3)]⟩), (1, .slice x1b x1n x1c)]
def D1 (K : T1) (g : Env) (h : H) : Prop := nilDs g.ds (vAgg (g.v 0) fun l2 => uncons l2 fun e3 l4 => vInt .i64 e3 fun i5 => uncons l4 fun e6 l7 => vInt .u8 e6 fun i8 => uncons l7 fun e9 l10 => vStr e9 fun s11 => uncons l10 fun e12 l13 => vInt .u8 e12 fun i14 => unnil l13 (vSlice (g.v 1) fun s15b s15n s15c => K i5 i8 s11 i14 s15b s15n s15c h))
abbrev n1 (Kn Kr : T0) (h : H) : Prop :=
  newx h ⟨[(.int .i64 x0_0), (.int .u8 x0_1), (S x0_2), (.int .u8 x0_3)]⟩ 36 fun a16 h17 => ∃ i18, cell h17 (a16.add 1) = some (.int .u8 i18) ∧ (Spl (i18 = (0 : Int)) (∃ s19, cell h17 (a16.add 2) = some (S s19) ∧ (HCalls Tryz.prog 88 ⟨[(.slice x1b x1n x1c), (S s19)]⟩ h17 fun v20 h21 => vBool v20 fun b22 => cond b22 (Kr true h21) (Kr false h21))) (Kr false h17))
variable {g} {h : H} {p : Prop}
variable {x0_0 x0_1 x0_2 x0_3 x1b x1n x1c x4}
theorem D0_el {K : T0} (hq : D0 K g h) (f : ∀ {x4}, E0 g x4 → K x4 h → p) : p := nilDs_el hq fun d q => vBool_el q fun _ e4 q => f ⟨e4, d⟩ q
theorem D1_el {K : T1} (hq : D1 K g h) (f : ∀ {x0_0 x0_1 x0_2 x0_3 x1b x1n x1c}, E1 g x0_0 x0_1 x0_2 x0_3 x1b x1n x1c → K x0_0 x0_1 x0_2 x0_3 x1b x1n x1c h → p) : p := by
  obtain ⟨d, q0⟩ := nilDs_ok hq
  obtain ⟨l, e0, q1⟩ := vAgg_ok q0
  obtain ⟨_, l, rfl, q2⟩ := uncI q1
  obtain ⟨_, l, rfl, q3⟩ := uncI q2
  obtain ⟨_, l, rfl, q4⟩ := uncS q3
  obtain ⟨_, l, rfl, q5⟩ := uncI q4
  obtain ⟨rfl, q6⟩ := unnil_ok q5
  obtain ⟨_, _, _, e1, q7⟩ := vSlice_ok q6
  exact f ⟨e0, e1, d⟩ q7
theorem n1_ok {Kn Kr : T0} (hg : E1 g x0_0 x0_1 x0_2 x0_3 x1b x1n x1c) (hS : n1 x0_0 x0_1 x0_2 x0_3 x1b x1n x1c Kn Kr h) : W code (Q0 Kn Kr) g h :=
  leafN (by kernel_rfl) (by kernel_rfl) hg hS (by kernel_rfl)
/-- WHAT tympan/open.of ASKS -/
abbrev asks (x0_0 : Int) (x0_1 : Int) (x0_2 : List UInt8) (x0_3 : Int) (x1b : Option Addr) (x1n : Nat) (x1c : Nat) (K : Value → H → Prop) (h : H) : Prop := n1 x0_0 x0_1 x0_2 x0_3 x1b x1n x1c (fun y4 h => K (.bool y4) h) (fun y4 h => K (.bool y4) h) h
theorem ok (x0_0 : Int) (x0_1 : Int) (x0_2 : List UInt8) (x0_3 : Int) (x1b : Option Addr) (x1n : Nat) (x1c : Nat) (K : Value → H → Prop) (h : H) (hS : asks x0_0 x0_1 x0_2 x0_3 x1b x1n x1c K h) : HCalls Tryz.prog 77 ⟨[(.agg ⟨[(.int .i64 x0_0), (.int .u8 x0_1), (S x0_2), (.int .u8 x0_3)]⟩), (.slice x1b x1n x1c)]⟩ h K :=
  callsN (c := code) Tryz.func77 (by kernel_rfl) (by kernel_rfl) (n1_ok ⟨rfl, rfl, rfl⟩ hS) fun hq => D0_el hq fun hg hq => retN hg hq (by kernel_rfl)
end Sx.open_of

/-! ### tympan/open.has -/
namespace Sx.open_has
noncomputable def code : Code := bodyOf Tryz.f83
abbrev W := wpC none Tryz.prog 19
variable (g : Env) (x0 x1 : List UInt8) (x4 : Bool)
abbrev T0 := Bool → H → Prop
abbrev E0 := Held g [(4, .bool x4)]
def D0 (K : T0) (g : Env) (h : H) : Prop := nilDs g.ds (vBool (g.v 4) fun b1 => K b1 h)
abbrev Q0 (Kn Kr : T0) := QX (D0 Kn) (D0 Kr) noX
abbrev T1 := (List UInt8) → (List UInt8) → H → Prop
abbrev E1 := Held g [(0, S x0), (1, S x1)]
def D1 (K : T1) (g : Env) (h : H) : Prop := nilDs g.ds (vStr (g.v 0) fun s2 => vStr (g.v 1) fun s3 => K s2 s3 h)
abbrev n1 (Kn Kr : T0) (h : H) : Prop :=
  Spl (x1 = ([] : List UInt8)) (Kr false h) (HCalls Tryz.prog 91 ⟨[(S x1), (S ([32] : List UInt8))]⟩ h fun v4 h5 => vBool v4 fun b6 => cond b6 (Kr false h5) (((([32] : List UInt8).length + x1.length : Nat) : Int) ≤ 9223372036854775807 ∧ ((((([32] : List UInt8) ++ x1).length + ([32] : List UInt8).length : Nat) : Int) ≤ 9223372036854775807 ∧ (HCalls Tryz.prog 91 ⟨[(S x0), (S ((([32] : List UInt8) ++ x1) ++ ([32] : List UInt8)))]⟩ h5 fun v7 h8 => vBool v7 fun b9 => cond b9 (Kr true h8) (Kr false h8)))))
variable {g} {h : H} {p : Prop}
variable {x0 x1 x4}
theorem D0_el {K : T0} (hq : D0 K g h) (f : ∀ {x4}, E0 g x4 → K x4 h → p) : p := nilDs_el hq fun d q => vBool_el q fun _ e4 q => f ⟨e4, d⟩ q
theorem D1_el {K : T1} (hq : D1 K g h) (f : ∀ {x0 x1}, E1 g x0 x1 → K x0 x1 h → p) : p := nilDs_el hq fun d q => vStr_el q fun _ e0 q => vStr_el q fun _ e1 q => f ⟨e0, e1, d⟩ q
theorem n1_ok {Kn Kr : T0} (hg : E1 g x0 x1) (hS : n1 x0 x1 Kn Kr h) : W code (Q0 Kn Kr) g h :=
  leafN (by kernel_rfl) (by kernel_rfl) hg hS (by kernel_rfl)
/-- WHAT tympan/open.has ASKS -/
abbrev asks (x0 : List UInt8) (x1 : List UInt8) (K : Value → H → Prop) (h : H) : Prop := n1 x0 x1 (fun y4 h => K (.bool y4) h) (fun y4 h => K (.bool y4) h) h
theorem ok (x0 : List UInt8) (x1 : List UInt8) (K : Value → H → Prop) (h : H) (hS : asks x0 x1 K h) : HCalls Tryz.prog 83 ⟨[(S x0), (S x1)]⟩ h K :=
  callsN (c := code) Tryz.func83 (by kernel_rfl) (by kernel_rfl) (n1_ok ⟨rfl, rfl, rfl⟩ hS) fun hq => D0_el hq fun hg hq => retN hg hq (by kernel_rfl)
end Sx.open_has

/-! ### slices.Backward[[]tympan/api.Open,tympan/api.Open] -/
namespace Sx.slices_Backward_apiOpen
noncomputable def code : Code := bodyOf Tryz.f87
abbrev W := wpC none Tryz.prog 4
variable (g : Env) (x0b : Option Addr) (x0n x0c : Nat) (x2 : Value)
abbrev T0 := Value → H → Prop
abbrev E0 := Held g [(2, x2)]
def D0 (K : T0) (g : Env) (h : H) : Prop := nilDs g.ds (K (g.v 2) h)
abbrev Q0 (Kn Kr : T0) := QX (D0 Kn) (D0 Kr) noX
abbrev T1 := (Option Addr) → Nat → Nat → H → Prop
abbrev E1 := Held g [(0, .slice x0b x0n x0c)]
def D1 (K : T1) (g : Env) (h : H) : Prop := nilDs g.ds (vSlice (g.v 0) fun s1b s1n s1c => K s1b s1n s1c h)
abbrev n1 (Kn Kr : T0) (h : H) : Prop :=
  newx h #[(.slice x0b x0n x0c)] 43 fun a2 h3 => Kr (.func (.func 93) ⟨[]⟩ ⟨[(.pointer (some a2))]⟩) h3
variable {g} {h : H} {p : Prop}
variable {x0b x0n x0c x2}
theorem D0_el {K : T0} (hq : D0 K g h) (f : ∀ {x2}, E0 g x2 → K x2 h → p) : p := nilDs_el hq fun d q => f ⟨rfl, d⟩ q
theorem D1_el {K : T1} (hq : D1 K g h) (f : ∀ {x0b x0n x0c}, E1 g x0b x0n x0c → K x0b x0n x0c h → p) : p := nilDs_el hq fun d q => vSlice_el q fun _ _ _ e0 q => f ⟨e0, d⟩ q
theorem n1_ok {Kn Kr : T0} (hg : E1 g x0b x0n x0c) (hS : n1 x0b x0n x0c Kn Kr h) : W code (Q0 Kn Kr) g h :=
  leafN (by kernel_rfl) (by kernel_rfl) hg hS (by kernel_rfl)
/-- WHAT slices.Backward[[]tympan/api.Open,tympan/api.Open] ASKS -/
abbrev asks (x0b : Option Addr) (x0n : Nat) (x0c : Nat) (K : Value → H → Prop) (h : H) : Prop := n1 x0b x0n x0c (fun y2 h => K y2 h) (fun y2 h => K y2 h) h
theorem ok (x0b : Option Addr) (x0n : Nat) (x0c : Nat) (K : Value → H → Prop) (h : H) (hS : asks x0b x0n x0c K h) : HCalls Tryz.prog 87 ⟨[(.slice x0b x0n x0c)]⟩ h K :=
  callsN (c := code) Tryz.func87 (by kernel_rfl) (by kernel_rfl) (n1_ok ⟨rfl, rfl⟩ hS) fun hq => D0_el hq fun hg hq => retN hg hq (by kernel_rfl)
end Sx.slices_Backward_apiOpen

/-! ### slices.Contains[[]string,string] -/
namespace Sx.slices_Contains_string
noncomputable def code : Code := bodyOf Tryz.f88
abbrev W := wpC none Tryz.prog 9
variable (g : Env) (x0b : Option Addr) (x0n x0c : Nat) (x1 : List UInt8) (x4 : Bool)
abbrev T0 := Bool → H → Prop
abbrev E0 := Held g [(4, .bool x4)]
def D0 (K : T0) (g : Env) (h : H) : Prop := nilDs g.ds (vBool (g.v 4) fun b1 => K b1 h)
abbrev Q0 (Kn Kr : T0) := QX (D0 Kn) (D0 Kr) noX
abbrev T1 := (Option Addr) → Nat → Nat → (List UInt8) → H → Prop
abbrev E1 := Held g [(0, .slice x0b x0n x0c), (1, S x1)]
def D1 (K : T1) (g : Env) (h : H) : Prop := nilDs g.ds (vSlice (g.v 0) fun s2b s2n s2c => vStr (g.v 1) fun s3 => K s2b s2n s2c s3 h)
abbrev n1 (Kn Kr : T0) (h : H) : Prop :=
  HCalls Tryz.prog 94 ⟨[(.slice x0b x0n x0c), (S x1)]⟩ h fun v4 h5 => vInt .i64 v4 fun i6 => Spl (i6 ≥ (0 : Int)) (Kr true h5) (Kr false h5)
variable {g} {h : H} {p : Prop}
variable {x0b x0n x0c x1 x4}
theorem D0_el {K : T0} (hq : D0 K g h) (f : ∀ {x4}, E0 g x4 → K x4 h → p) : p := nilDs_el hq fun d q => vBool_el q fun _ e4 q => f ⟨e4, d⟩ q
theorem D1_el {K : T1} (hq : D1 K g h) (f : ∀ {x0b x0n x0c x1}, E1 g x0b x0n x0c x1 → K x0b x0n x0c x1 h → p) : p := nilDs_el hq fun d q => vSlice_el q fun _ _ _ e0 q => vStr_el q fun _ e1 q => f ⟨e0, e1, d⟩ q
theorem n1_ok {Kn Kr : T0} (hg : E1 g x0b x0n x0c x1) (hS : n1 x0b x0n x0c x1 Kn Kr h) : W code (Q0 Kn Kr) g h :=
  leafN (by kernel_rfl) (by kernel_rfl) hg hS (by kernel_rfl)
/-- WHAT slices.Contains[[]string,string] ASKS -/
abbrev asks (x0b : Option Addr) (x0n : Nat) (x0c : Nat) (x1 : List UInt8) (K : Value → H → Prop) (h : H) : Prop := n1 x0b x0n x0c x1 (fun y4 h => K (.bool y4) h) (fun y4 h => K (.bool y4) h) h
theorem ok (x0b : Option Addr) (x0n : Nat) (x0c : Nat) (x1 : List UInt8) (K : Value → H → Prop) (h : H) (hS : asks x0b x0n x0c x1 K h) : HCalls Tryz.prog 88 ⟨[(.slice x0b x0n x0c), (S x1)]⟩ h K :=
  callsN (c := code) Tryz.func88 (by kernel_rfl) (by kernel_rfl) (n1_ok ⟨rfl, rfl, rfl⟩ hS) fun hq => D0_el hq fun hg hq => retN hg hq (by kernel_rfl)
end Sx.slices_Contains_string

/-! ### slices.Backward[[]tympan/api.Open,tympan/api.Open]$1 -/
namespace Sx.slices_Backward_1_apiOpen1
noncomputable def code : Code := bodyOf Tryz.f93
abbrev W := wpC none Tryz.prog 19
variable (g : Env) (x0 : Value) (x1 : Addr) (x3 : Int)
abbrev T0 := H → Prop
abbrev E0 := Held g []
def D0 (K : T0) (g : Env) (h : H) : Prop := nilDs g.ds (K h)
abbrev Q0 (Kn Kr : T0) := QX (D0 Kn) (D0 Kr) noX
abbrev T1 := Value → Addr → H → Prop
abbrev E1 := Held g [(0, x0), (1, .pointer (some x1))]
def D1 (K : T1) (g : Env) (h : H) : Prop := nilDs g.ds (vAddr (g.v 1) fun a1 => K (g.v 0) a1 h)
noncomputable def c1 := cFst code
noncomputable def c2 := cSnd code
abbrev T2 := Value → Addr → Int → H → Prop
abbrev E2 := Held g [(0, x0), (1, .pointer (some x1)), (3, .int .i64 x3)]
def D2 (K : T2) (g : Env) (h : H) : Prop := nilDs g.ds (vAddr (g.v 1) fun a2 => vInt .i64 (g.v 3) fun i3 => K (g.v 0) a2 i3 h)
noncomputable def c3 := cFst c2
abbrev Q1 (Kn Ke0 Kr : T0) := QX (D0 Kn) (D0 Kr) (exX 0 (D0 Ke0) noX)
noncomputable def c4 := cFst c3
abbrev Q2 (Kn : T2) (Ke0 Kr : T0) := QX (D2 Kn) (D0 Kr) (exX 0 (D0 Ke0) noX)
def n3_L (Kn Ke0 Kr : T0) : Nat → T2
  | 0 => fun _ _ _ _ => False
  | N + 1 => fun x0 x1 x3 h => Spl (x3 ≥ (0 : Int)) (∃ s4b s4n s4c, cell h x1 = some (.slice s4b s4n s4c) ∧ ((0 ≤ x3 ∧ x3 < (s4n : Int)) ∧ (vSome s4b fun a5 => ∃ i6, cell h (((a5.add (Int.toNat x3 * 4))).add 0) = some (.int .i64 i6) ∧ (∃ i7, cell h (((a5.add (Int.toNat x3 * 4))).add 1) = some (.int .u8 i7) ∧ (∃ s8, cell h (((a5.add (Int.toNat x3 * 4))).add 2) = some (S s8) ∧ (∃ i9, cell h (((a5.add (Int.toNat x3 * 4))).add 3) = some (.int .u8 i9) ∧ (CallV Tryz.prog 4 x0 ⟨[(.int .i64 x3), (.agg ⟨[(.int .i64 i6), (.int .u8 i7), (S s8), (.int .u8 i9)]⟩)]⟩ h fun v10 h11 => vBool v10 fun b12 => cond b12 (Rng .i64 (x3 - (1 : Int)) ∧ (n3_L Kn Ke0 Kr N x0 x1 (x3 - (1 : Int)) h11)) (Kr h11)))))))) (Ke0 h)
abbrev n3 (Kn Ke0 Kr : T0) (h : H) : Prop :=
  ∃ N, n3_L Kn Ke0 Kr N x0 x1 x3 h
abbrev n2 (Kn Kr : T0) (h : H) : Prop :=
  n3 x0 x1 x3 Kn Kn Kr h
abbrev Q3 (Kn : T2) (Kr : T0) := QX (D2 Kn) (D0 Kr) noX
abbrev n1 (Kn Kr : T0) (h : H) : Prop :=
  ∃ s13b s13n s13c, cell h x1 = some (.slice s13b s13n s13c) ∧ (Rng .i64 ((s13n : Int) - (1 : Int)) ∧ (n2 x0 x1 ((s13n : Int) - (1 : Int)) Kn Kr h))
variable {g} {h : H} {p : Prop}
variable {x0 x1 x3}
theorem D2_mk {K : T2} (hg : E2 g x0 x1 x3) (hk : K x0 x1 x3 h) : D2 K g h := by
  obtain ⟨e0, e1, e3, d⟩ := hg
  unfold D2
  rw [e0, e1, e3, d]
  exact hk
theorem D0_el {K : T0} (hq : D0 K g h) (f : E0 g → K  h → p) : p := nilDs_el hq fun d q => f d q
theorem D1_el {K : T1} (hq : D1 K g h) (f : ∀ {x0 x1}, E1 g x0 x1 → K x0 x1 h → p) : p := nilDs_el hq fun d q => vAddr_el q fun _ e1 q => f ⟨rfl, e1, d⟩ q
theorem D2_el {K : T2} (hq : D2 K g h) (f : ∀ {x0 x1 x3}, E2 g x0 x1 x3 → K x0 x1 x3 h → p) : p := nilDs_el hq fun d q => vAddr_el q fun _ e1 q => vInt_el q fun _ e3 q => f ⟨rfl, e1, e3, d⟩ q
theorem n3_ok {Kn Ke0 Kr : T0} (hg : E2 g x0 x1 x3) (hS : n3 x0 x1 x3 Kn Ke0 Kr h) : W c3 (Q1 Kn Ke0 Kr) g h :=
  let ⟨N, hS⟩ := hS
  loopN (x := c4) (I := fun N => D2 (n3_L Kn Ke0 Kr N)) (by kernel_rfl) (fun hq => D2_el hq fun _ hq => hq) (fun hq => D2_el hq fun hg hq => leafN (by kernel_rfl) (by kernel_rfl) hg hq (by kernel_rfl)) N (D2_mk hg hS)
theorem n2_ok {Kn Kr : T0} (hg : E2 g x0 x1 x3) (hS : n2 x0 x1 x3 Kn Kr h) : W c2 (Q0 Kn Kr) g h := blockN (by kernel_rfl) (n3_ok hg hS)
theorem n1_ok {Kn Kr : T0} (hg : E1 g x0 x1) (hS : n1 x0 x1 Kn Kr h) : W code (Q0 Kn Kr) g h :=
  seqN (x := c1) (N' := D2 (fun z0 z1 z3 h => n2 z0 z1 z3 Kn Kr h)) (by kernel_rfl) (leafN (by kernel_rfl) (by kernel_rfl) hg hS (by kernel_rfl)) fun hq => D2_el hq n2_ok
/-- WHAT slices.Backward[[]tympan/api.Open,tympan/api.Open]$1 ASKS -/
abbrev asks (x0 : Value) (x1 : Addr) (K : Value → H → Prop) (h : H) : Prop := n1 x0 x1 (fun h => K (.tuple ⟨[]⟩) h) (fun h => K (.tuple ⟨[]⟩) h) h
theorem ok (x0 : Value) (x1 : Addr) (K : Value → H → Prop) (h : H) (hS : asks x0 x1 K h) : HCalls Tryz.prog 93 ⟨[x0, (.pointer (some x1))]⟩ h K :=
  callsN (c := code) Tryz.func93 (by kernel_rfl) (by kernel_rfl) (n1_ok ⟨rfl, rfl, rfl⟩ hS) fun hq => D0_el hq fun hg hq => retN hg hq (by kernel_rfl)
end Sx.slices_Backward_1_apiOpen1

/-! ### slices.Index[[]string,string] -/
namespace Sx.slices_Index_string
noncomputable def code : Code := bodyOf Tryz.f94
abbrev W := wpC none Tryz.prog 19
variable (g : Env) (x0b : Option Addr) (x0n x0c : Nat) (x1 : List UInt8) (x4 x7 x8 : Int)
abbrev T0 := Int → H → Prop
abbrev E0 := Held g [(4, .int .i64 x4)]
def D0 (K : T0) (g : Env) (h : H) : Prop := nilDs g.ds (vInt .i64 (g.v 4) fun i1 => K i1 h)
abbrev Q0 (Kn Kr : T0) := QX (D0 Kn) (D0 Kr) noX
abbrev T1 := (Option Addr) → Nat → Nat → (List UInt8) → H → Prop
abbrev E1 := Held g [(0, .slice x0b x0n x0c), (1, S x1)]
def D1 (K : T1) (g : Env) (h : H) : Prop := nilDs g.ds (vSlice (g.v 0) fun s2b s2n s2c => vStr (g.v 1) fun s3 => K s2b s2n s2c s3 h)
noncomputable def c1 := cFst code
noncomputable def c2 := cSnd code
noncomputable def c3 := cFst c2
noncomputable def c4 := cSnd c2
abbrev T2 := H → Prop
abbrev E2 := Held g []
def D2 (K : T2) (g : Env) (h : H) : Prop := nilDs g.ds (K h)
abbrev n3 (Kn Kr : T0) (h : H) : Prop :=
  Kr (-1 : Int) h
abbrev Q1 (Kn : T2) (Kr : T0) := QX (D2 Kn) (D0 Kr) noX
noncomputable def c5 := cFst c3
noncomputable def c6 := cSnd c3
abbrev T3 := (Option Addr) → Nat → Nat → (List UInt8) → Int → Int → H → Prop
abbrev E3 := Held g [(0, .slice x0b x0n x0c), (1, S x1), (7, .int .i64 x7), (8, .int .i64 x8)]
def D3 (K : T3) (g : Env) (h : H) : Prop := nilDs g.ds (vSlice (g.v 0) fun s4b s4n s4c => vStr (g.v 1) fun s5 => vInt .i64 (g.v 7) fun i6 => vInt .i64 (g.v 8) fun i7 => K s4b s4n s4c s5 i6 i7 h)
noncomputable def c7 := cFst c6
abbrev Q2 (Kn Ke0 : T2) (Kr : T0) := QX (D2 Kn) (D0 Kr) (exX 0 (D2 Ke0) noX)
noncomputable def c8 := cFst c7
abbrev Q3 (Kn : T3) (Ke0 : T2) (Kr : T0) := QX (D3 Kn) (D0 Kr) (exX 0 (D2 Ke0) noX)
def n6_L (Kn Ke0 : T2) (Kr : T0) : Nat → T3
  | 0 => fun _ _ _ _ _ _ _ => False
  | N + 1 => fun x0b x0n x0c x1 x7 x8 h => Spl (x8 < x7) ((0 ≤ x8 ∧ x8 < (x0n : Int)) ∧ (vSome x0b fun a8 => ∃ s9, cell h (a8.add (Int.toNat x8 * 1)) = some (S s9) ∧ (Spl (x1 = s9) (Kr x8 h) (Rng .i64 (x8 + (1 : Int)) ∧ (n6_L Kn Ke0 Kr N x0b x0n x0c x1 x7 (x8 + (1 : Int)) h))))) (Ke0 h)
abbrev n6 (Kn Ke0 : T2) (Kr : T0) (h : H) : Prop :=
  ∃ N, n6_L Kn Ke0 Kr N x0b x0n x0c x1 x7 x8 h
abbrev n5 (Kn : T2) (Kr : T0) (h : H) : Prop :=
  n6 x0b x0n x0c x1 x7 x8 Kn Kn Kr h
abbrev Q4 (Kn : T3) (Kr : T0) := QX (D3 Kn) (D0 Kr) noX
abbrev n4 (Kn : T2) (Kr : T0) (h : H) : Prop :=
  n5 x0b x0n x0c x1 (x0n : Int) (0 : Int) Kn Kr h
abbrev n2 (Kn Kr : T0) (h : H) : Prop :=
  n4 x0b x0n x0c x1 (fun  h => n3 Kn Kr h) Kr h
abbrev Q5 (Kn : T1) (Kr : T0) := QX (D1 Kn) (D0 Kr) noX
abbrev n1 (Kn Kr : T0) (h : H) : Prop :=
  n2 x0b x0n x0c x1 Kn Kr h
variable {g} {h : H} {p : Prop}
variable {x0b x0n x0c x1 x4 x7 x8}
theorem D3_mk {K : T3} (hg : E3 g x0b x0n x0c x1 x7 x8) (hk : K x0b x0n x0c x1 x7 x8 h) : D3 K g h := by
  obtain ⟨e0, e1, e7, e8, d⟩ := hg
  unfold D3
  rw [e0, e1, e7, e8, d]
  exact hk
theorem D0_el {K : T0} (hq : D0 K g h) (f : ∀ {x4}, E0 g x4 → K x4 h → p) : p := nilDs_el hq fun d q => vInt_el q fun _ e4 q => f ⟨e4, d⟩ q
theorem D1_el {K : T1} (hq : D1 K g h) (f : ∀ {x0b x0n x0c x1}, E1 g x0b x0n x0c x1 → K x0b x0n x0c x1 h → p) : p := nilDs_el hq fun d q => vSlice_el q fun _ _ _ e0 q => vStr_el q fun _ e1 q => f ⟨e0, e1, d⟩ q
theorem D2_el {K : T2} (hq : D2 K g h) (f : E2 g → K  h → p) : p := nilDs_el hq fun d q => f d q
theorem n3_ok {Kn Kr : T0} (hg : E2 g) (hS : n3 Kn Kr h) : W c4 (Q0 Kn Kr) g h :=
  leafN (by kernel_rfl) (by kernel_rfl) hg hS (by kernel_rfl)
theorem D3_el {K : T3} (hq : D3 K g h) (f : ∀ {x0b x0n x0c x1 x7 x8}, E3 g x0b x0n x0c x1 x7 x8 → K x0b x0n x0c x1 x7 x8 h → p) : p := nilDs_el hq fun d q => vSlice_el q fun _ _ _ e0 q => vStr_el q fun _ e1 q => vInt_el q fun _ e7 q => vInt_el q fun _ e8 q => f ⟨e0, e1, e7, e8, d⟩ q
theorem n6_ok {Kn Ke0 : T2} {Kr : T0} (hg : E3 g x0b x0n x0c x1 x7 x8) (hS : n6 x0b x0n x0c x1 x7 x8 Kn Ke0 Kr h) : W c7 (Q2 Kn Ke0 Kr) g h :=
  let ⟨N, hS⟩ := hS
  loopN (x := c8) (I := fun N => D3 (n6_L Kn Ke0 Kr N)) (by kernel_rfl) (fun hq => D3_el hq fun _ hq => hq) (fun hq => D3_el hq fun hg hq => leafN (by kernel_rfl) (by kernel_rfl) hg hq (by kernel_rfl)) N (D3_mk hg hS)
theorem n5_ok {Kn : T2} {Kr : T0} (hg : E3 g x0b x0n x0c x1 x7 x8) (hS : n5 x0b x0n x0c x1 x7 x8 Kn Kr h) : W c6 (Q1 Kn Kr) g h := blockN (by kernel_rfl) (n6_ok hg hS)
theorem n4_ok {Kn : T2} {Kr : T0} (hg : E1 g x0b x0n x0c x1) (hS : n4 x0b x0n x0c x1 Kn Kr h) : W c3 (Q1 Kn Kr) g h :=
  seqN (x := c5) (N' := D3 (fun z0b z0n z0c z1 z7 z8 h => n5 z0b z0n z0c z1 z7 z8 Kn Kr h)) (by kernel_rfl) (leafN (by kernel_rfl) (by kernel_rfl) hg hS (by kernel_rfl)) fun hq => D3_el hq n5_ok
theorem n2_ok {Kn Kr : T0} (hg : E1 g x0b x0n x0c x1) (hS : n2 x0b x0n x0c x1 Kn Kr h) : W c2 (Q0 Kn Kr) g h :=
  seqN (by kernel_rfl) (n4_ok hg hS) fun hq => D2_el hq n3_ok
theorem n1_ok {Kn Kr : T0} (hg : E1 g x0b x0n x0c x1) (hS : n1 x0b x0n x0c x1 Kn Kr h) : W code (Q0 Kn Kr) g h :=
  seqN (x := c1) (N' := D1 (fun z0b z0n z0c z1 h => n2 z0b z0n z0c z1 Kn Kr h)) (by kernel_rfl) (leafN (by kernel_rfl) (by kernel_rfl) hg hS (by kernel_rfl)) fun hq => D1_el hq n2_ok
/-- WHAT slices.Index[[]string,string] ASKS -/
abbrev asks (x0b : Option Addr) (x0n : Nat) (x0c : Nat) (x1 : List UInt8) (K : Value → H → Prop) (h : H) : Prop := n1 x0b x0n x0c x1 (fun y4 h => K (.int .i64 y4) h) (fun y4 h => K (.int .i64 y4) h) h
theorem ok (x0b : Option Addr) (x0n : Nat) (x0c : Nat) (x1 : List UInt8) (K : Value → H → Prop) (h : H) (hS : asks x0b x0n x0c x1 K h) : HCalls Tryz.prog 94 ⟨[(.slice x0b x0n x0c), (S x1)]⟩ h K :=
  callsN (c := code) Tryz.func94 (by kernel_rfl) (by kernel_rfl) (n1_ok ⟨rfl, rfl, rfl⟩ hS) fun hq => D0_el hq fun hg hq => retN hg hq (by kernel_rfl)
end Sx.slices_Index_string

/-! ### tympan/tympanref00.SameNodes -/
namespace Sx.r00_SameNodes
noncomputable def code : Code := bodyOf Tryz.f49
abbrev W := wpC none Tryz.prog 69
variable (g : Env) (x0b : Option Addr) (x0n x0c : Nat) (x1b : Option Addr) (x1n x1c : Nat) (x4 : Bool) (x5 : Int)
abbrev T0 := Bool → H → Prop
abbrev E0 := Held g [(4, .bool x4)]
def D0 (K : T0) (g : Env) (h : H) : Prop := nilDs g.ds (vBool (g.v 4) fun b1 => K b1 h)
abbrev Q0 (Kn Kr : T0) := QX (D0 Kn) (D0 Kr) noX
abbrev T1 := (Option Addr) → Nat → Nat → (Option Addr) → Nat → Nat → H → Prop
abbrev E1 := Held g [(0, .slice x0b x0n x0c), (1, .slice x1b x1n x1c)]
def D1 (K : T1) (g : Env) (h : H) : Prop := nilDs g.ds (vSlice (g.v 0) fun s2b s2n s2c => vSlice (g.v 1) fun s3b s3n s3c => K s2b s2n s2c s3b s3n s3c h)
noncomputable def c1 := cFst code
noncomputable def c2 := cSnd code
noncomputable def c3 := cFst c2
noncomputable def c4 := cSnd c2
noncomputable def c5 := cFst c4
noncomputable def c6 := cSnd c4
abbrev T2 := H → Prop
abbrev E2 := Held g []
def D2 (K : T2) (g : Env) (h : H) : Prop := nilDs g.ds (K h)
abbrev n4 (Kn Kr : T0) (h : H) : Prop :=
  Kr true h
abbrev Q1 (Kn : T2) (Kr : T0) := QX (D2 Kn) (D0 Kr) noX
noncomputable def c7 := cFst c5
noncomputable def c8 := cSnd c5
abbrev T3 := (Option Addr) → Nat → Nat → (Option Addr) → Nat → Nat → Int → H → Prop
abbrev E3 := Held g [(0, .slice x0b x0n x0c), (1, .slice x1b x1n x1c), (5, .int .i64 x5)]
def D3 (K : T3) (g : Env) (h : H) : Prop := nilDs g.ds (vSlice (g.v 0) fun s4b s4n s4c => vSlice (g.v 1) fun s5b s5n s5c => vInt .i64 (g.v 5) fun i6 => K s4b s4n s4c s5b s5n s5c i6 h)
noncomputable def c9 := cFst c8
abbrev Q2 (Kn Ke0 : T2) (Kr : T0) := QX (D2 Kn) (D0 Kr) (exX 0 (D2 Ke0) noX)
noncomputable def c10 := cFst c9
abbrev Q3 (Kn : T3) (Ke0 : T2) (Kr : T0) := QX (D3 Kn) (D0 Kr) (exX 0 (D2 Ke0) noX)
def n7_L (Kn Ke0 : T2) (Kr : T0) : Nat → T3
  | 0 => fun _ _ _ _ _ _ _ _ => False
  | N + 1 => fun x0b x0n x0c x1b x1n x1c x5 h => Spl (x5 < (x0n : Int)) ((0 ≤ x5 ∧ x5 < (x0n : Int)) ∧ (vSome x0b fun a7 => ∃ i8, cell h (((a7.add (Int.toNat x5 * 6))).add 0) = some (.int .u8 i8) ∧ (∃ i9, cell h (((a7.add (Int.toNat x5 * 6))).add 1) = some (.int .u8 i9) ∧ (∃ s10, cell h (((a7.add (Int.toNat x5 * 6))).add 2) = some (S s10) ∧ (∃ s11b s11n s11c, cell h (((a7.add (Int.toNat x5 * 6))).add 3) = some (.slice s11b s11n s11c) ∧ (∃ s12, cell h (((a7.add (Int.toNat x5 * 6))).add 4) = some (S s12) ∧ (∃ s13b s13n s13c, cell h (((a7.add (Int.toNat x5 * 6))).add 5) = some (.slice s13b s13n s13c) ∧ (newx h ⟨[(.int .u8 (0 : Int)), (.int .u8 (0 : Int)), (S ([] : List UInt8)), (.slice none 0 0), (S ([] : List UInt8)), (.slice none 0 0)]⟩ 57 fun a14 h15 => stL a14 [(.int .u8 i8), (.int .u8 i9), (S s10), (.slice s11b s11n s11c), (S s12), (.slice s13b s13n s13c)] 0 h15 fun h16 => (0 ≤ x5 ∧ x5 < (x1n : Int)) ∧ (vSome x1b fun a17 => ∃ i18, cell h16 (((a17.add (Int.toNat x5 * 6))).add 0) = some (.int .u8 i18) ∧ (∃ i19, cell h16 (((a17.add (Int.toNat x5 * 6))).add 1) = some (.int .u8 i19) ∧ (∃ s20, cell h16 (((a17.add (Int.toNat x5 * 6))).add 2) = some (S s20) ∧ (∃ s21b s21n s21c, cell h16 (((a17.add (Int.toNat x5 * 6))).add 3) = some (.slice s21b s21n s21c) ∧ (∃ s22, cell h16 (((a17.add (Int.toNat x5 * 6))).add 4) = some (S s22) ∧ (∃ s23b s23n s23c, cell h16 (((a17.add (Int.toNat x5 * 6))).add 5) = some (.slice s23b s23n s23c) ∧ (newx h16 ⟨[(.int .u8 (0 : Int)), (.int .u8 (0 : Int)), (S ([] : List UInt8)), (.slice none 0 0), (S ([] : List UInt8)), (.slice none 0 0)]⟩ 57 fun a24 h25 => stL a24 [(.int .u8 i18), (.int .u8 i19), (S s20), (.slice s21b s21n s21c), (S s22), (.slice s23b s23n s23c)] 0 h25 fun h26 => ∃ i27, cell h26 (a14.add 0) = some (.int .u8 i27) ∧ (∃ i28, cell h26 (a24.add 0) = some (.int .u8 i28) ∧ (Spl (i27 = i28) (∃ i29, cell h26 (a14.add 1) = some (.int .u8 i29) ∧ (∃ i30, cell h26 (a24.add 1) = some (.int .u8 i30) ∧ (Spl (i29 = i30) (∃ s31, cell h26 (a14.add 2) = some (S s31) ∧ (∃ s32, cell h26 (a24.add 2) = some (S s32) ∧ (Spl (s31 = s32) (∃ s33, cell h26 (a14.add 4) = some (S s33) ∧ (∃ s34, cell h26 (a24.add 4) = some (S s34) ∧ (Spl (s33 = s34) (∃ s35b s35n s35c, cell h26 (a14.add 3) = some (.slice s35b s35n s35c) ∧ (∃ s36b s36n s36c, cell h26 (a24.add 3) = some (.slice s36b s36n s36c) ∧ (HCalls Tryz.prog 75 ⟨[(.slice s35b s35n s35c), (.slice s36b s36n s36c)]⟩ h26 fun v37 h38 => vBool v37 fun b39 => cond b39 (∃ s40b s40n s40c, cell h38 (a14.add 5) = some (.slice s40b s40n s40c) ∧ (∃ s41b s41n s41c, cell h38 (a24.add 5) = some (.slice s41b s41n s41c) ∧ (HCalls Tryz.prog 49 ⟨[(.slice s40b s40n s40c), (.slice s41b s41n s41c)]⟩ h38 fun v42 h43 => vBool v42 fun b44 => cond b44 (Rng .i64 (x5 + (1 : Int)) ∧ (n7_L Kn Ke0 Kr N x0b x0n x0c x1b x1n x1c (x5 + (1 : Int)) h43)) (Kr false h43)))) (Kr false h38)))) (Kr false h26)))) (Kr false h26)))) (Kr false h26)))) (Kr false h26)))))))))))))))))) (Ke0 h)
abbrev n7 (Kn Ke0 : T2) (Kr : T0) (h : H) : Prop :=
  ∃ N, n7_L Kn Ke0 Kr N x0b x0n x0c x1b x1n x1c x5 h
abbrev n6 (Kn : T2) (Kr : T0) (h : H) : Prop :=
  n7 x0b x0n x0c x1b x1n x1c x5 Kn Kn Kr h
abbrev Q4 (Kn : T3) (Kr : T0) := QX (D3 Kn) (D0 Kr) noX
abbrev n5 (Kn : T2) (Kr : T0) (h : H) : Prop :=
  n6 x0b x0n x0c x1b x1n x1c (0 : Int) Kn Kr h
abbrev n3 (Kn Kr : T0) (h : H) : Prop :=
  n5 x0b x0n x0c x1b x1n x1c (fun  h => n4 Kn Kr h) Kr h
abbrev Q5 (Kn : T1) (Kr : T0) := QX (D1 Kn) (D0 Kr) noX
abbrev n2 (Kn Kr : T0) (h : H) : Prop :=
  Spl ((x0n : Int) = (x1n : Int)) (n3 x0b x0n x0c x1b x1n x1c Kn Kr h) (Kr false h)
abbrev n1 (Kn Kr : T0) (h : H) : Prop :=
  n2 x0b x0n x0c x1b x1n x1c Kn Kr h
variable {g} {h : H} {p : Prop}
variable {x0b x0n x0c x1b x1n x1c x4 x5}
theorem D3_mk {K : T3} (hg : E3 g x0b x0n x0c x1b x1n x1c x5) (hk : K x0b x0n x0c x1b x1n x1c x5 h) : D3 K g h := by
  obtain ⟨e0, e1, e5, d⟩ := hg
  unfold D3
  rw [e0, e1, e5, d]
  exact hk
theorem D0_el {K : T0} (hq : D0 K g h) (f : ∀ {x4}, E0 g x4 → K x4 h → p) : p := nilDs_el hq fun d q => vBool_el q fun _ e4 q => f ⟨e4, d⟩ q
theorem D1_el {K : T1} (hq : D1 K g h) (f : ∀ {x0b x0n x0c x1b x1n x1c}, E1 g x0b x0n x0c x1b x1n x1c → K x0b x0n x0c x1b x1n x1c h → p) : p := nilDs_el hq fun d q => vSlice_el q fun _ _ _ e0 q => vSlice_el q fun _ _ _ e1 q => f ⟨e0, e1, d⟩ q
theorem D2_el {K : T2} (hq : D2 K g h) (f : E2 g → K  h → p) : p := nilDs_el hq fun d q => f d q
theorem n4_ok {Kn Kr : T0} (hg : E2 g) (hS : n4 Kn Kr h) : W c6 (Q0 Kn Kr) g h :=
  leafN (by kernel_rfl) (by kernel_rfl) hg hS (by kernel_rfl)
theorem D3_el {K : T3} (hq : D3 K g h) (f : ∀ {x0b x0n x0c x1b x1n x1c x5}, E3 g x0b x0n x0c x1b x1n x1c x5 → K x0b x0n x0c x1b x1n x1c x5 h → p) : p := nilDs_el hq fun d q => vSlice_el q fun _ _ _ e0 q => vSlice_el q fun _ _ _ e1 q => vInt_el q fun _ e5 q => f ⟨e0, e1, e5, d⟩ q
theorem n7_ok {Kn Ke0 : T2} {Kr : T0} (hg : E3 g x0b x0n x0c x1b x1n x1c x5) (hS : n7 x0b x0n x0c x1b x1n x1c x5 Kn Ke0 Kr h) : W c9 (Q2 Kn Ke0 Kr) g h :=
  let ⟨N, hS⟩ := hS
  loopN (x := c10) (I := fun N => D3 (n7_L Kn Ke0 Kr N)) (by kernel_rfl) (fun hq => D3_el hq fun _ hq => hq) (fun hq => D3_el hq fun hg hq => leafN (by kernel_rfl) (by kernel_rfl) hg hq (by kernel_rfl)) N (D3_mk hg hS)
theorem n6_ok {Kn : T2} {Kr : T0} (hg : E3 g x0b x0n x0c x1b x1n x1c x5) (hS : n6 x0b x0n x0c x1b x1n x1c x5 Kn Kr h) : W c8 (Q1 Kn Kr) g h := blockN (by kernel_rfl) (n7_ok hg hS)
theorem n5_ok {Kn : T2} {Kr : T0} (hg : E1 g x0b x0n x0c x1b x1n x1c) (hS : n5 x0b x0n x0c x1b x1n x1c Kn Kr h) : W c5 (Q1 Kn Kr) g h :=
  seqN (x := c7) (N' := D3 (fun z0b z0n z0c z1b z1n z1c z5 h => n6 z0b z0n z0c z1b z1n z1c z5 Kn Kr h)) (by kernel_rfl) (leafN (by kernel_rfl) (by kernel_rfl) hg hS (by kernel_rfl)) fun hq => D3_el hq n6_ok
theorem n3_ok {Kn Kr : T0} (hg : E1 g x0b x0n x0c x1b x1n x1c) (hS : n3 x0b x0n x0c x1b x1n x1c Kn Kr h) : W c4 (Q0 Kn Kr) g h :=
  seqN (by kernel_rfl) (n5_ok hg hS) fun hq => D2_el hq n4_ok
theorem n2_ok {Kn Kr : T0} (hg : E1 g x0b x0n x0c x1b x1n x1c) (hS : n2 x0b x0n x0c x1b x1n x1c Kn Kr h) : W c2 (Q0 Kn Kr) g h :=
  seqN (x := c3) (N' := D1 (fun z0b z0n z0c z1b z1n z1c h => n3 z0b z0n z0c z1b z1n z1c Kn Kr h)) (by kernel_rfl) (leafN (by kernel_rfl) (by kernel_rfl) hg hS (by kernel_rfl)) fun hq => D1_el hq n3_ok
theorem n1_ok {Kn Kr : T0} (hg : E1 g x0b x0n x0c x1b x1n x1c) (hS : n1 x0b x0n x0c x1b x1n x1c Kn Kr h) : W code (Q0 Kn Kr) g h :=
  seqN (x := c1) (N' := D1 (fun z0b z0n z0c z1b z1n z1c h => n2 z0b z0n z0c z1b z1n z1c Kn Kr h)) (by kernel_rfl) (leafN (by kernel_rfl) (by kernel_rfl) hg hS (by kernel_rfl)) fun hq => D1_el hq n2_ok
/-- WHAT tympan/tympanref00.SameNodes ASKS -/
abbrev asks (x0b : Option Addr) (x0n : Nat) (x0c : Nat) (x1b : Option Addr) (x1n : Nat) (x1c : Nat) (K : Value → H → Prop) (h : H) : Prop := n1 x0b x0n x0c x1b x1n x1c (fun y4 h => K (.bool y4) h) (fun y4 h => K (.bool y4) h) h
theorem ok (x0b : Option Addr) (x0n : Nat) (x0c : Nat) (x1b : Option Addr) (x1n : Nat) (x1c : Nat) (K : Value → H → Prop) (h : H) (hS : asks x0b x0n x0c x1b x1n x1c K h) : HCalls Tryz.prog 49 ⟨[(.slice x0b x0n x0c), (.slice x1b x1n x1c)]⟩ h K :=
  callsN (c := code) Tryz.func49 (by kernel_rfl) (by kernel_rfl) (n1_ok ⟨rfl, rfl, rfl⟩ hS) fun hq => D0_el hq fun hg hq => retN hg hq (by kernel_rfl)
end Sx.r00_SameNodes

/-! ### tympan/tympanref00.SameAttrs -/
namespace Sx.r00_SameAttrs
noncomputable def code : Code := bodyOf Tryz.f75
abbrev W := wpC none Tryz.prog 26
variable (g : Env) (x0b : Option Addr) (x0n x0c : Nat) (x1b : Option Addr) (x1n x1c : Nat) (x4 : Bool) (x5 : Int)
abbrev T0 := Bool → H → Prop
abbrev E0 := Held g [(4, .bool x4)]
def D0 (K : T0) (g : Env) (h : H) : Prop := nilDs g.ds (vBool (g.v 4) fun b1 => K b1 h)
abbrev Q0 (Kn Kr : T0) := QX (D0 Kn) (D0 Kr) noX
abbrev T1 := (Option Addr) → Nat → Nat → (Option Addr) → Nat → Nat → H → Prop
abbrev E1 := Held g [(0, .slice x0b x0n x0c), (1, .slice x1b x1n x1c)]
def D1 (K : T1) (g : Env) (h : H) : Prop := nilDs g.ds (vSlice (g.v 0) fun s2b s2n s2c => vSlice (g.v 1) fun s3b s3n s3c => K s2b s2n s2c s3b s3n s3c h)
noncomputable def c1 := cFst code
noncomputable def c2 := cSnd code
noncomputable def c3 := cFst c2
noncomputable def c4 := cSnd c2
noncomputable def c5 := cFst c4
noncomputable def c6 := cSnd c4
abbrev T2 := H → Prop
abbrev E2 := Held g []
def D2 (K : T2) (g : Env) (h : H) : Prop := nilDs g.ds (K h)
abbrev n4 (Kn Kr : T0) (h : H) : Prop :=
  Kr true h
abbrev Q1 (Kn : T2) (Kr : T0) := QX (D2 Kn) (D0 Kr) noX
noncomputable def c7 := cFst c5
noncomputable def c8 := cSnd c5
abbrev T3 := (Option Addr) → Nat → Nat → (Option Addr) → Nat → Nat → Int → H → Prop
abbrev E3 := Held g [(0, .slice x0b x0n x0c), (1, .slice x1b x1n x1c), (5, .int .i64 x5)]
def D3 (K : T3) (g : Env) (h : H) : Prop := nilDs g.ds (vSlice (g.v 0) fun s4b s4n s4c => vSlice (g.v 1) fun s5b s5n s5c => vInt .i64 (g.v 5) fun i6 => K s4b s4n s4c s5b s5n s5c i6 h)
noncomputable def c9 := cFst c8
abbrev Q2 (Kn Ke0 : T2) (Kr : T0) := QX (D2 Kn) (D0 Kr) (exX 0 (D2 Ke0) noX)
noncomputable def c10 := cFst c9
abbrev Q3 (Kn : T3) (Ke0 : T2) (Kr : T0) := QX (D3 Kn) (D0 Kr) (exX 0 (D2 Ke0) noX)
def n7_L (Kn Ke0 : T2) (Kr : T0) : Nat → T3
  | 0 => fun _ _ _ _ _ _ _ _ => False
  | N + 1 => fun x0b x0n x0c x1b x1n x1c x5 h => Spl (x5 < (x0n : Int)) ((0 ≤ x5 ∧ x5 < (x0n : Int)) ∧ (vSome x0b fun a7 => ∃ s8, cell h (((a7.add (Int.toNat x5 * 2))).add 0) = some (S s8) ∧ (∃ s9, cell h (((a7.add (Int.toNat x5 * 2))).add 1) = some (S s9) ∧ ((0 ≤ x5 ∧ x5 < (x1n : Int)) ∧ (vSome x1b fun a10 => ∃ s11, cell h (((a10.add (Int.toNat x5 * 2))).add 0) = some (S s11) ∧ (∃ s12, cell h (((a10.add (Int.toNat x5 * 2))).add 1) = some (S s12) ∧ (SemR Tryz.prog (binS .neq 79 (.tmp 20) (.tmp 24) (.agg ⟨[(S s8), (S s9)]⟩) (.agg ⟨[(S s11), (S s12)]⟩)) h fun v13 => vBool v13 fun b14 => cond b14 (Kr false h) (Rng .i64 (x5 + (1 : Int)) ∧ (n7_L Kn Ke0 Kr N x0b x0n x0c x1b x1n x1c (x5 + (1 : Int)) h))))))))) (Ke0 h)
abbrev n7 (Kn Ke0 : T2) (Kr : T0) (h : H) : Prop :=
  ∃ N, n7_L Kn Ke0 Kr N x0b x0n x0c x1b x1n x1c x5 h
abbrev n6 (Kn : T2) (Kr : T0) (h : H) : Prop :=
  n7 x0b x0n x0c x1b x1n x1c x5 Kn Kn Kr h
abbrev Q4 (Kn : T3) (Kr : T0) := QX (D3 Kn) (D0 Kr) noX
abbrev n5 (Kn : T2) (Kr : T0) (h : H) : Prop :=
  n6 x0b x0n x0c x1b x1n x1c (0 : Int) Kn Kr h
abbrev n3 (Kn Kr : T0) (h : H) : Prop :=
  n5 x0b x0n x0c x1b x1n x1c (fun  h => n4 Kn Kr h) Kr h
abbrev Q5 (Kn : T1) (Kr : T0) := QX (D1 Kn) (D0 Kr) noX
abbrev n2 (Kn Kr : T0) (h : H) : Prop :=
  Spl ((x0n : Int) = (x1n : Int)) (n3 x0b x0n x0c x1b x1n x1c Kn Kr h) (Kr false h)
abbrev n1 (Kn Kr : T0) (h : H) : Prop :=
  n2 x0b x0n x0c x1b x1n x1c Kn Kr h
variable {g} {h : H} {p : Prop}
variable {x0b x0n x0c x1b x1n x1c x4 x5}
theorem D3_mk {K : T3} (hg : E3 g x0b x0n x0c x1b x1n x1c x5) (hk : K x0b x0n x0c x1b x1n x1c x5 h) : D3 K g h := by
  obtain ⟨e0, e1, e5, d⟩ := hg
  unfold D3
  rw [e0, e1, e5, d]
  exact hk
theorem D0_el {K : T0} (hq : D0 K g h) (f : ∀ {x4}, E0 g x4 → K x4 h → p) : p := nilDs_el hq fun d q => vBool_el q fun _ e4 q => f ⟨e4, d⟩ q
theorem D1_el {K : T1} (hq : D1 K g h) (f : ∀ {x0b x0n x0c x1b x1n x1c}, E1 g x0b x0n x0c x1b x1n x1c → K x0b x0n x0c x1b x1n x1c h → p) : p := nilDs_el hq fun d q => vSlice_el q fun _ _ _ e0 q => vSlice_el q fun _ _ _ e1 q => f ⟨e0, e1, d⟩ q
theorem D2_el {K : T2} (hq : D2 K g h) (f : E2 g → K  h → p) : p := nilDs_el hq fun d q => f d q
theorem n4_ok {Kn Kr : T0} (hg : E2 g) (hS : n4 Kn Kr h) : W c6 (Q0 Kn Kr) g h :=
  leafN (by kernel_rfl) (by kernel_rfl) hg hS (by kernel_rfl)
theorem D3_el {K : T3} (hq : D3 K g h) (f : ∀ {x0b x0n x0c x1b x1n x1c x5}, E3 g x0b x0n x0c x1b x1n x1c x5 → K x0b x0n x0c x1b x1n x1c x5 h → p) : p := nilDs_el hq fun d q => vSlice_el q fun _ _ _ e0 q => vSlice_el q fun _ _ _ e1 q => vInt_el q fun _ e5 q => f ⟨e0, e1, e5, d⟩ q
theorem n7_ok {Kn Ke0 : T2} {Kr : T0} (hg : E3 g x0b x0n x0c x1b x1n x1c x5) (hS : n7 x0b x0n x0c x1b x1n x1c x5 Kn Ke0 Kr h) : W c9 (Q2 Kn Ke0 Kr) g h :=
  let ⟨N, hS⟩ := hS
  loopN (x := c10) (I := fun N => D3 (n7_L Kn Ke0 Kr N)) (by kernel_rfl) (fun hq => D3_el hq fun _ hq => hq) (fun hq => D3_el hq fun hg hq => leafN (by kernel_rfl) (by kernel_rfl) hg hq (by kernel_rfl)) N (D3_mk hg hS)
theorem n6_ok {Kn : T2} {Kr : T0} (hg : E3 g x0b x0n x0c x1b x1n x1c x5) (hS : n6 x0b x0n x0c x1b x1n x1c x5 Kn Kr h) : W c8 (Q1 Kn Kr) g h := blockN (by kernel_rfl) (n7_ok hg hS)
theorem n5_ok {Kn : T2} {Kr : T0} (hg : E1 g x0b x0n x0c x1b x1n x1c) (hS : n5 x0b x0n x0c x1b x1n x1c Kn Kr h) : W c5 (Q1 Kn Kr) g h :=
  seqN (x := c7) (N' := D3 (fun z0b z0n z0c z1b z1n z1c z5 h => n6 z0b z0n z0c z1b z1n z1c z5 Kn Kr h)) (by kernel_rfl) (leafN (by kernel_rfl) (by kernel_rfl) hg hS (by kernel_rfl)) fun hq => D3_el hq n6_ok
theorem n3_ok {Kn Kr : T0} (hg : E1 g x0b x0n x0c x1b x1n x1c) (hS : n3 x0b x0n x0c x1b x1n x1c Kn Kr h) : W c4 (Q0 Kn Kr) g h :=
  seqN (by kernel_rfl) (n5_ok hg hS) fun hq => D2_el hq n4_ok
theorem n2_ok {Kn Kr : T0} (hg : E1 g x0b x0n x0c x1b x1n x1c) (hS : n2 x0b x0n x0c x1b x1n x1c Kn Kr h) : W c2 (Q0 Kn Kr) g h :=
  seqN (x := c3) (N' := D1 (fun z0b z0n z0c z1b z1n z1c h => n3 z0b z0n z0c z1b z1n z1c Kn Kr h)) (by kernel_rfl) (leafN (by kernel_rfl) (by kernel_rfl) hg hS (by kernel_rfl)) fun hq => D1_el hq n3_ok
theorem n1_ok {Kn Kr : T0} (hg : E1 g x0b x0n x0c x1b x1n x1c) (hS : n1 x0b x0n x0c x1b x1n x1c Kn Kr h) : W code (Q0 Kn Kr) g h :=
  seqN (x := c1) (N' := D1 (fun z0b z0n z0c z1b z1n z1c h => n2 z0b z0n z0c z1b z1n z1c Kn Kr h)) (by kernel_rfl) (leafN (by kernel_rfl) (by kernel_rfl) hg hS (by kernel_rfl)) fun hq => D1_el hq n2_ok
/-- WHAT tympan/tympanref00.SameAttrs ASKS -/
abbrev asks (x0b : Option Addr) (x0n : Nat) (x0c : Nat) (x1b : Option Addr) (x1n : Nat) (x1c : Nat) (K : Value → H → Prop) (h : H) : Prop := n1 x0b x0n x0c x1b x1n x1c (fun y4 h => K (.bool y4) h) (fun y4 h => K (.bool y4) h) h
theorem ok (x0b : Option Addr) (x0n : Nat) (x0c : Nat) (x1b : Option Addr) (x1n : Nat) (x1c : Nat) (K : Value → H → Prop) (h : H) (hS : asks x0b x0n x0c x1b x1n x1c K h) : HCalls Tryz.prog 75 ⟨[(.slice x0b x0n x0c), (.slice x1b x1n x1c)]⟩ h K :=
  callsN (c := code) Tryz.func75 (by kernel_rfl) (by kernel_rfl) (n1_ok ⟨rfl, rfl, rfl⟩ hS) fun hq => D0_el hq fun hg hq => retN hg hq (by kernel_rfl)
end Sx.r00_SameAttrs

/-! ### tympan/place.New -/
namespace Sx.place_New
noncomputable def code : Code := bodyOf Tryz.f6
abbrev W := wpC none Tryz.prog 6
variable (g : Env) (x0 : Option Addr)
abbrev T0 := (Option Addr) → H → Prop
abbrev E0 := Held g [(0, .pointer x0)]
def D0 (K : T0) (g : Env) (h : H) : Prop := nilDs g.ds (vPtr (g.v 0) fun p1 => K p1 h)
abbrev Q0 (Kn Kr : T0) := QX (D0 Kn) (D0 Kr) noX
abbrev T1 := H → Prop
abbrev E1 := Held g []
def D1 (K : T1) (g : Env) (h : H) : Prop := nilDs g.ds (K h)
abbrev n1 (Kn Kr : T0) (h : H) : Prop :=
  HCalls Tryz.prog 26 ⟨[]⟩ h fun v2 h3 => vPtr v2 fun p4 => newx h3 #[(.int .i64 (0 : Int)), (.int .u8 (0 : Int)), (S ([104, 116, 109, 108] : List UInt8)), (.int .u8 (0 : Int))] 36 fun a5 h6 => newx h6 ⟨[(.pointer p4), (.slice (some a5) 1 1), (.slice none 0 0), (.bool false), (.int .i64 (1 : Int))]⟩ 48 fun a7 h8 => Kr (some a7) h8
variable {g} {h : H} {p : Prop}
variable {x0}
theorem D0_el {K : T0} (hq : D0 K g h) (f : ∀ {x0}, E0 g x0 → K x0 h → p) : p := nilDs_el hq fun d q => vPtr_el q fun _ e0 q => f ⟨e0, d⟩ q
theorem D1_el {K : T1} (hq : D1 K g h) (f : E1 g → K  h → p) : p := nilDs_el hq fun d q => f d q
theorem n1_ok {Kn Kr : T0} (hg : E1 g) (hS : n1 Kn Kr h) : W code (Q0 Kn Kr) g h :=
  leafN (by kernel_rfl) (by kernel_rfl) hg hS (by kernel_rfl)
/-- WHAT tympan/place.New ASKS -/
abbrev asks  (K : Value → H → Prop) (h : H) : Prop := n1  (fun y0 h => K (.pointer y0) h) (fun y0 h => K (.pointer y0) h) h
theorem ok  (K : Value → H → Prop) (h : H) (hS : asks  K h) : HCalls Tryz.prog 6 ⟨[]⟩ h K :=
  callsN (c := code) Tryz.func6 (by kernel_rfl) (by kernel_rfl) (n1_ok rfl hS) fun hq => D0_el hq fun hg hq => retN hg hq (by kernel_rfl)
end Sx.place_New

/-! ### (*tympan/place.World).Insert -/
namespace Sx.place_World_Insert
noncomputable def code : Code := bodyOf Tryz.f8
abbrev W := wpC none Tryz.prog 67
variable (g : Env) (x0 : Option Addr) (x1 x2_0 : Int) (x2_1 : List UInt8) (x2_2b : Option Addr) (x2_2n x2_2c : Nat) (x2_3 : Bool) (x2_4 : List UInt8) (x5 : Addr) (x6 x7 x8 x9 : Int)
abbrev T0 := Int → H → Prop
abbrev E0 := Held g [(6, .int .i64 x6)]
def D0 (K : T0) (g : Env) (h : H) : Prop := nilDs g.ds (vInt .i64 (g.v 6) fun i1 => K i1 h)
abbrev Q0 (Kn Kr : T0) := QX (D0 Kn) (D0 Kr) noX
abbrev T1 := (Option Addr) → Int → Int → (List UInt8) → (Option Addr) → Nat → Nat → Bool → (List UInt8) → H → Prop
abbrev E1 := Held g [(0, .pointer x0), (1, .int .u8 x1), (2, .agg ⟨[(.int .u8 x2_0), (S x2_1), (.slice x2_2b x2_2n x2_2c), (.bool x2_3), (S x2_4)]⟩)]
def D1 (K : T1) (g : Env) (h : H) : Prop := nilDs g.ds (vPtr (g.v 0) fun p2 => vInt .u8 (g.v 1) fun i3 => vAgg (g.v 2) fun l4 => uncons l4 fun e5 l6 => vInt .u8 e5 fun i7 => uncons l6 fun e8 l9 => vStr e8 fun s10 => uncons l9 fun e11 l12 => vSlice e11 fun s13b s13n s13c => uncons l12 fun e14 l15 => vBool e14 fun b16 => uncons l15 fun e17 l18 => vStr e17 fun s19 => unnil l18 (K p2 i3 i7 s10 s13b s13n s13c b16 s19 h))
noncomputable def c1 := cFst code
noncomputable def c2 := cSnd code
abbrev T2 := (Option Addr) → Int → Addr → H → Prop
abbrev E2 := Held g [(0, .pointer x0), (1, .int .u8 x1), (5, .pointer (some x5))]
def D2 (K : T2) (g : Env) (h : H) : Prop := nilDs g.ds (vPtr (g.v 0) fun p20 => vInt .u8 (g.v 1) fun i21 => vAddr (g.v 5) fun a22 => K p20 i21 a22 h)
noncomputable def c3 := cFst c2
noncomputable def c4 := cSnd c2
abbrev T3 := (Option Addr) → Int → Addr → Int → Int → H → Prop
abbrev E3 := Held g [(0, .pointer x0), (1, .int .u8 x1), (5, .pointer (some x5)), (7, .int .i64 x7), (8, .int .i64 x8)]
def D3 (K : T3) (g : Env) (h : H) : Prop := nilDs g.ds (vPtr (g.v 0) fun p23 => vInt .u8 (g.v 1) fun i24 => vAddr (g.v 5) fun a25 => vInt .i64 (g.v 7) fun i26 => vInt .i64 (g.v 8) fun i27 => K p23 i24 a25 i26 i27 h)
noncomputable def c5 := cFst c4
noncomputable def c6 := cSnd c4
abbrev T4 := (Option Addr) → Int → Addr → Int → Int → Int → H → Prop
abbrev E4 := Held g [(0, .pointer x0), (1, .int .u8 x1), (5, .pointer (some x5)), (7, .int .i64 x7), (8, .int .i64 x8), (9, .int .i64 x9)]
def D4 (K : T4) (g : Env) (h : H) : Prop := nilDs g.ds (vPtr (g.v 0) fun p28 => vInt .u8 (g.v 1) fun i29 => vAddr (g.v 5) fun a30 => vInt .i64 (g.v 7) fun i31 => vInt .i64 (g.v 8) fun i32 => vInt .i64 (g.v 9) fun i33 => K p28 i29 a30 i31 i32 i33 h)
noncomputable def c7 := cFst c6
noncomputable def c8 := cSnd c6
abbrev T5 := (Option Addr) → Int → Addr → Int → H → Prop
abbrev E5 := Held g [(0, .pointer x0), (1, .int .u8 x1), (5, .pointer (some x5)), (9, .int .i64 x9)]
def D5 (K : T5) (g : Env) (h : H) : Prop := nilDs g.ds (vPtr (g.v 0) fun p34 => vInt .u8 (g.v 1) fun i35 => vAddr (g.v 5) fun a36 => vInt .i64 (g.v 9) fun i37 => K p34 i35 a36 i37 h)
abbrev n5 (Kn Kr : T0) (h : H) : Prop :=
  vSome x0 fun a38 => ∃ s39b s39n s39c, cell h (a38.add 1) = some (.slice s39b s39n s39c) ∧ (∃ s40, cell h (x5.add 1) = some (S s40) ∧ (∃ i41, cell h ((x5).add 0) = some (.int .u8 i41) ∧ (∃ s42, cell h ((x5).add 1) = some (S s42) ∧ (∃ s43b s43n s43c, cell h ((x5).add 2) = some (.slice s43b s43n s43c) ∧ (∃ b44, cell h ((x5).add 3) = some (.bool b44) ∧ (∃ s45, cell h ((x5).add 4) = some (S s45) ∧ (HCalls Tryz.prog 31 ⟨[(.int .u8 x1), (.agg ⟨[(.int .u8 i41), (S s42), (.slice s43b s43n s43c), (.bool b44), (S s45)]⟩)]⟩ h fun v46 h47 => vInt .u8 v46 fun i48 => ExtH h h47 ∧ (newx h47 #[(.int .i64 x9), (.int .u8 x1), (S s40), (.int .u8 i48)] 36 fun a49 h50 => ExtH h47 h50 ∧ (SemH Tryz.prog (Builtin.append_ #[43, 43] 43 ⟨[(.slice s39b s39n s39c), (.slice (some a49) 1 1)]⟩) h50 fun v51 h52 => vSlice v51 fun s53b s53n s53c => vSome x0 fun a54 => stL (a54.add 1) [(.slice s53b s53n s53c)] 0 h52 fun h55 => vSome x0 fun a56 => ∃ i57, cell h55 (a56.add 4) = some (.int .i64 i57) ∧ (vSome x0 fun a58 => ∃ s59b s59n s59c, cell h55 (a58.add 1) = some (.slice s59b s59n s59c) ∧ (vSome x0 fun a60 => stL (a60.add 4) [(.int .i64 (if (s59n : Int) > i57 then (s59n : Int) else i57))] 0 h55 fun h61 => Kr x9 h61)))))))))))
abbrev Q1 (Kn : T5) (Kr : T0) := QX (D5 Kn) (D0 Kr) noX
abbrev n4 (Kn Kr : T0) (h : H) : Prop :=
  vSome x0 fun a62 => ∃ p63, cell h (a62.add 0) = some (.pointer p63) ∧ (HCalls Tryz.prog 30 ⟨[(.pointer p63), (.int .i64 x7), (.int .i64 x8), (.int .i64 x9)]⟩ h fun v64 h65 => vBool v64 fun b66 => cond b66 (n5 x0 x1 x5 x9 Kn Kr h65) (n5 x0 x1 x5 x9 Kn Kr h65))
abbrev Q2 (Kn : T4) (Kr : T0) := QX (D4 Kn) (D0 Kr) noX
abbrev n3 (Kn Kr : T0) (h : H) : Prop :=
  vSome x0 fun a67 => ∃ p68, cell h (a67.add 0) = some (.pointer p68) ∧ (∃ s69, cell h (x5.add 1) = some (S s69) ∧ (∃ s70b s70n s70c, cell h (x5.add 2) = some (.slice s70b s70n s70c) ∧ (HCalls Tryz.prog 29 ⟨[(.pointer p68), (.agg ⟨[(.int .u8 (1 : Int)), (.int .u8 x1), (S s69), (.slice s70b s70n s70c), (S ([] : List UInt8)), (.slice none 0 0)]⟩)]⟩ h fun v71 h72 => vInt .i64 v71 fun i73 => n4 x0 x1 x5 x7 x8 i73 Kn Kr h72)))
abbrev Q3 (Kn : T3) (Kr : T0) := QX (D3 Kn) (D0 Kr) noX
abbrev n2 (Kn Kr : T0) (h : H) : Prop :=
  HCalls Tryz.prog 25 ⟨[(.pointer x0)]⟩ h fun v74 h75 => vAgg v74 fun l76 => uncons l76 fun e77 l78 => vInt .i64 e77 fun i79 => uncons l78 fun e80 l81 => vInt .u8 e80 fun i82 => uncons l81 fun e83 l84 => vStr e83 fun s85 => uncons l84 fun e86 l87 => vInt .u8 e86 fun i88 => unnil l87 (HCalls Tryz.prog 28 ⟨[(.pointer x0), (.agg ⟨[(.int .i64 i79), (.int .u8 i82), (S s85), (.int .u8 i88)]⟩)]⟩ h75 fun v89 h90 => vTup v89 fun l91 => uncons l91 fun e92 l93 => vInt .i64 e92 fun i94 => uncons l93 fun e95 l96 => vInt .i64 e95 fun i97 => unnil l96 (n3 x0 x1 x5 i94 i97 Kn Kr h90))
abbrev Q4 (Kn : T2) (Kr : T0) := QX (D2 Kn) (D0 Kr) noX
abbrev n1 (Kn Kr : T0) (h : H) : Prop :=
  newx h ⟨[(.int .u8 x2_0), (S x2_1), (.slice x2_2b x2_2n x2_2c), (.bool x2_3), (S x2_4)]⟩ 31 fun a98 h99 => n2 x0 x1 a98 Kn Kr h99
variable {g} {h : H} {p : Prop}
variable {x0 x1 x2_0 x2_1 x2_2b x2_2n x2_2c x2_3 x2_4 x5 x6 x7 x8 x9}
theorem D0_el {K : T0} (hq : D0 K g h) (f : ∀ {x6}, E0 g x6 → K x6 h → p) : p := nilDs_el hq fun d q => vInt_el q fun _ e6 q => f ⟨e6, d⟩ q
theorem D1_el {K : T1} (hq : D1 K g h) (f : ∀ {x0 x1 x2_0 x2_1 x2_2b x2_2n x2_2c x2_3 x2_4}, E1 g x0 x1 x2_0 x2_1 x2_2b x2_2n x2_2c x2_3 x2_4 → K x0 x1 x2_0 x2_1 x2_2b x2_2n x2_2c x2_3 x2_4 h → p) : p := by
  obtain ⟨d, q0⟩ := nilDs_ok hq
  obtain ⟨_, e0, q1⟩ := vPtr_ok q0
  obtain ⟨_, e1, q2⟩ := vInt_ok q1
  obtain ⟨l, e2, q3⟩ := vAgg_ok q2
  obtain ⟨_, l, rfl, q4⟩ := uncI q3
  obtain ⟨_, l, rfl, q5⟩ := uncS q4
  obtain ⟨_, _, _, l, rfl, q6⟩ := uncL q5
  obtain ⟨_, l, rfl, q7⟩ := uncB q6
  obtain ⟨_, l, rfl, q8⟩ := uncS q7
  obtain ⟨rfl, q9⟩ := unnil_ok q8
  exact f ⟨e0, e1, e2, d⟩ q9
theorem D2_el {K : T2} (hq : D2 K g h) (f : ∀ {x0 x1 x5}, E2 g x0 x1 x5 → K x0 x1 x5 h → p) : p := nilDs_el hq fun d q => vPtr_el q fun _ e0 q => vInt_el q fun _ e1 q => vAddr_el q fun _ e5 q => f ⟨e0, e1, e5, d⟩ q
theorem D3_el {K : T3} (hq : D3 K g h) (f : ∀ {x0 x1 x5 x7 x8}, E3 g x0 x1 x5 x7 x8 → K x0 x1 x5 x7 x8 h → p) : p := nilDs_el hq fun d q => vPtr_el q fun _ e0 q => vInt_el q fun _ e1 q => vAddr_el q fun _ e5 q => vInt_el q fun _ e7 q => vInt_el q fun _ e8 q => f ⟨e0, e1, e5, e7, e8, d⟩ q
theorem D4_el {K : T4} (hq : D4 K g h) (f : ∀ {x0 x1 x5 x7 x8 x9}, E4 g x0 x1 x5 x7 x8 x9 → K x0 x1 x5 x7 x8 x9 h → p) : p := nilDs_el hq fun d q => vPtr_el q fun _ e0 q => vInt_el q fun _ e1 q => vAddr_el q fun _ e5 q => vInt_el q fun _ e7 q => vInt_el q fun _ e8 q => vInt_el q fun _ e9 q => f ⟨e0, e1, e5, e7, e8, e9, d⟩ q
theorem D5_el {K : T5} (hq : D5 K g h) (f : ∀ {x0 x1 x5 x9}, E5 g x0 x1 x5 x9 → K x0 x1 x5 x9 h → p) : p := nilDs_el hq fun d q => vPtr_el q fun _ e0 q => vInt_el q fun _ e1 q => vAddr_el q fun _ e5 q => vInt_el q fun _ e9 q => f ⟨e0, e1, e5, e9, d⟩ q
theorem n5_ok {Kn Kr : T0} (hg : E5 g x0 x1 x5 x9) (hS : n5 x0 x1 x5 x9 Kn Kr h) : W c8 (Q0 Kn Kr) g h :=
  leafN (by kernel_rfl) (by kernel_rfl) hg hS (by kernel_rfl)
theorem n4_ok {Kn Kr : T0} (hg : E4 g x0 x1 x5 x7 x8 x9) (hS : n4 x0 x1 x5 x7 x8 x9 Kn Kr h) : W c6 (Q0 Kn Kr) g h :=
  seqN (x := c7) (N' := D5 (fun z0 z1 z5 z9 h => n5 z0 z1 z5 z9 Kn Kr h)) (by kernel_rfl) (leafN (by kernel_rfl) (by kernel_rfl) hg hS (by kernel_rfl)) fun hq => D5_el hq n5_ok
theorem n3_ok {Kn Kr : T0} (hg : E3 g x0 x1 x5 x7 x8) (hS : n3 x0 x1 x5 x7 x8 Kn Kr h) : W c4 (Q0 Kn Kr) g h :=
  seqN (x := c5) (N' := D4 (fun z0 z1 z5 z7 z8 z9 h => n4 z0 z1 z5 z7 z8 z9 Kn Kr h)) (by kernel_rfl) (leafN (by kernel_rfl) (by kernel_rfl) hg hS (by kernel_rfl)) fun hq => D4_el hq n4_ok
theorem n2_ok {Kn Kr : T0} (hg : E2 g x0 x1 x5) (hS : n2 x0 x1 x5 Kn Kr h) : W c2 (Q0 Kn Kr) g h :=
  seqN (x := c3) (N' := D3 (fun z0 z1 z5 z7 z8 h => n3 z0 z1 z5 z7 z8 Kn Kr h)) (by kernel_rfl) (leafN (by kernel_rfl) (by kernel_rfl) hg hS (by kernel_rfl)) fun hq => D3_el hq n3_ok
theorem n1_ok {Kn Kr : T0} (hg : E1 g x0 x1 x2_0 x2_1 x2_2b x2_2n x2_2c x2_3 x2_4) (hS : n1 x0 x1 x2_0 x2_1 x2_2b x2_2n x2_2c x2_3 x2_4 Kn Kr h) : W code (Q0 Kn Kr) g h :=
  seqN (x := c1) (N' := D2 (fun z0 z1 z5 h => n2 z0 z1 z5 Kn Kr h)) (by kernel_rfl) (leafN (by kernel_rfl) (by kernel_rfl) hg hS (by kernel_rfl)) fun hq => D2_el hq n2_ok
/-- WHAT (*tympan/place.World).Insert ASKS -/
abbrev asks (x0 : Option Addr) (x1 : Int) (x2_0 : Int) (x2_1 : List UInt8) (x2_2b : Option Addr) (x2_2n : Nat) (x2_2c : Nat) (x2_3 : Bool) (x2_4 : List UInt8) (K : Value → H → Prop) (h : H) : Prop := n1 x0 x1 x2_0 x2_1 x2_2b x2_2n x2_2c x2_3 x2_4 (fun y6 h => K (.int .i64 y6) h) (fun y6 h => K (.int .i64 y6) h) h
theorem ok (x0 : Option Addr) (x1 : Int) (x2_0 : Int) (x2_1 : List UInt8) (x2_2b : Option Addr) (x2_2n : Nat) (x2_2c : Nat) (x2_3 : Bool) (x2_4 : List UInt8) (K : Value → H → Prop) (h : H) (hS : asks x0 x1 x2_0 x2_1 x2_2b x2_2n x2_2c x2_3 x2_4 K h) : HCalls Tryz.prog 8 ⟨[(.pointer x0), (.int .u8 x1), (.agg ⟨[(.int .u8 x2_0), (S x2_1), (.slice x2_2b x2_2n x2_2c), (.bool x2_3), (S x2_4)]⟩)]⟩ h K :=
  callsN (c := code) Tryz.func8 (by kernel_rfl) (by kernel_rfl) (n1_ok ⟨rfl, rfl, rfl, rfl⟩ hS) fun hq => D0_el hq fun hg hq => retN hg hq (by kernel_rfl)
end Sx.place_World_Insert

/-! ### (*tympan/place.World).Write -/
namespace Sx.place_World_Write
noncomputable def code : Code := bodyOf Tryz.f12
abbrev W := wpC none Tryz.prog 21
variable (g : Env) (x0 : Option Addr) (x1 : List UInt8)
abbrev T0 := H → Prop
abbrev E0 := Held g []
def D0 (K : T0) (g : Env) (h : H) : Prop := nilDs g.ds (K h)
abbrev Q0 (Kn Kr : T0) := QX (D0 Kn) (D0 Kr) noX
abbrev T1 := (Option Addr) → (List UInt8) → H → Prop
abbrev E1 := Held g [(0, .pointer x0), (1, S x1)]
def D1 (K : T1) (g : Env) (h : H) : Prop := nilDs g.ds (vPtr (g.v 0) fun p1 => vStr (g.v 1) fun s2 => K p1 s2 h)
abbrev n1 (Kn Kr : T0) (h : H) : Prop :=
  HCalls Tryz.prog 25 ⟨[(.pointer x0)]⟩ h fun v3 h4 => vAgg v3 fun l5 => uncons l5 fun e6 l7 => vInt .i64 e6 fun i8 => uncons l7 fun e9 l10 => vInt .u8 e9 fun i11 => uncons l10 fun e12 l13 => vStr e12 fun s14 => uncons l13 fun e15 l16 => vInt .u8 e15 fun i17 => unnil l16 (HCalls Tryz.prog 28 ⟨[(.pointer x0), (.agg ⟨[(.int .i64 i8), (.int .u8 i11), (S s14), (.int .u8 i17)]⟩)]⟩ h4 fun v18 h19 => vTup v18 fun l20 => uncons l20 fun e21 l22 => vInt .i64 e21 fun i23 => uncons l22 fun e24 l25 => vInt .i64 e24 fun i26 => unnil l25 (vSome x0 fun a27 => ∃ p28, cell h19 (a27.add 0) = some (.pointer p28) ∧ (HCalls Tryz.prog 38 ⟨[(.pointer p28), (.int .i64 i23), (.int .i64 i26), (S x1)]⟩ h19 fun v29 h30 => vBool v29 fun b31 => cond b31 (Kn h30) (Kn h30))))
variable {g} {h : H} {p : Prop}
variable {x0 x1}
theorem D0_el {K : T0} (hq : D0 K g h) (f : E0 g → K  h → p) : p := nilDs_el hq fun d q => f d q
theorem D1_el {K : T1} (hq : D1 K g h) (f : ∀ {x0 x1}, E1 g x0 x1 → K x0 x1 h → p) : p := nilDs_el hq fun d q => vPtr_el q fun _ e0 q => vStr_el q fun _ e1 q => f ⟨e0, e1, d⟩ q
theorem n1_ok {Kn Kr : T0} (hg : E1 g x0 x1) (hS : n1 x0 x1 Kn Kr h) : W code (Q0 Kn Kr) g h :=
  leafN (by kernel_rfl) (by kernel_rfl) hg hS (by kernel_rfl)
/-- WHAT (*tympan/place.World).Write ASKS -/
abbrev asks (x0 : Option Addr) (x1 : List UInt8) (K : Value → H → Prop) (h : H) : Prop := n1 x0 x1 (fun h => K (.tuple ⟨[]⟩) h) (fun h => K (.tuple ⟨[]⟩) h) h
theorem ok (x0 : Option Addr) (x1 : List UInt8) (K : Value → H → Prop) (h : H) (hS : asks x0 x1 K h) : HCalls Tryz.prog 12 ⟨[(.pointer x0), (S x1)]⟩ h K :=
  callsN (c := code) Tryz.func12 (by kernel_rfl) (by kernel_rfl) (n1_ok ⟨rfl, rfl, rfl⟩ hS) fun hq => D0_el hq fun hg hq => retN hg hq (by kernel_rfl)
end Sx.place_World_Write

/-! ### (*tympan/place.World).Close -/
namespace Sx.place_World_Close
noncomputable def code : Code := bodyOf Tryz.f16
abbrev W := wpC none Tryz.prog 24
variable (g : Env) (x0 : Option Addr) (x1 : Int) (x14 : Bool)
abbrev T0 := H → Prop
abbrev E0 := Held g []
def D0 (K : T0) (g : Env) (h : H) : Prop := nilDs g.ds (K h)
abbrev Q0 (Kn Kr : T0) := QX (D0 Kn) (D0 Kr) noX
abbrev T1 := (Option Addr) → Int → H → Prop
abbrev E1 := Held g [(0, .pointer x0), (1, .int .i64 x1)]
def D1 (K : T1) (g : Env) (h : H) : Prop := nilDs g.ds (vPtr (g.v 0) fun p1 => vInt .i64 (g.v 1) fun i2 => K p1 i2 h)
noncomputable def c1 := cFst code
noncomputable def c2 := cSnd code
abbrev T2 := (Option Addr) → Int → Bool → H → Prop
abbrev E2 := Held g [(0, .pointer x0), (1, .int .i64 x1), (14, .bool x14)]
def D2 (K : T2) (g : Env) (h : H) : Prop := nilDs g.ds (vPtr (g.v 0) fun p3 => vInt .i64 (g.v 1) fun i4 => vBool (g.v 14) fun b5 => K p3 i4 b5 h)
abbrev n2 (Kn Kr : T0) (h : H) : Prop :=
  cond x14 (vSome x0 fun a6 => ∃ s7b s7n s7c, cell h (a6.add 1) = some (.slice s7b s7n s7c) ∧ ((0 ≤ (0 : Int) ∧ (0 : Int) ≤ x1 ∧ x1 ≤ (s7c : Int)) ∧ (vSome x0 fun a8 => stL (a8.add 1) [(.slice (if s7c = Int.toNat (0 : Int) then s7b else Option.map (fun q => q.add (Int.toNat (0 : Int) * 4)) s7b) (Int.toNat x1 - Int.toNat (0 : Int)) (s7c - Int.toNat (0 : Int)))] 0 h fun h9 => Kn h9))) (Kn h)
abbrev Q1 (Kn : T2) (Kr : T0) := QX (D2 Kn) (D0 Kr) noX
abbrev n1 (Kn Kr : T0) (h : H) : Prop :=
  Spl (x1 ≥ (1 : Int)) (vSome x0 fun a10 => ∃ s11b s11n s11c, cell h (a10.add 1) = some (.slice s11b s11n s11c) ∧ (Spl (x1 < (s11n : Int)) (n2 x0 x1 true Kn Kr h) (n2 x0 x1 false Kn Kr h))) (n2 x0 x1 false Kn Kr h)
variable {g} {h : H} {p : Prop}
variable {x0 x1 x14}
theorem D0_el {K : T0} (hq : D0 K g h) (f : E0 g → K  h → p) : p := nilDs_el hq fun d q => f d q
theorem D1_el {K : T1} (hq : D1 K g h) (f : ∀ {x0 x1}, E1 g x0 x1 → K x0 x1 h → p) : p := nilDs_el hq fun d q => vPtr_el q fun _ e0 q => vInt_el q fun _ e1 q => f ⟨e0, e1, d⟩ q
theorem D2_el {K : T2} (hq : D2 K g h) (f : ∀ {x0 x1 x14}, E2 g x0 x1 x14 → K x0 x1 x14 h → p) : p := nilDs_el hq fun d q => vPtr_el q fun _ e0 q => vInt_el q fun _ e1 q => vBool_el q fun _ e14 q => f ⟨e0, e1, e14, d⟩ q
theorem n2_ok {Kn Kr : T0} (hg : E2 g x0 x1 x14) (hS : n2 x0 x1 x14 Kn Kr h) : W c2 (Q0 Kn Kr) g h :=
  leafN (by kernel_rfl) (by kernel_rfl) hg hS (by kernel_rfl)
theorem n1_ok {Kn Kr : T0} (hg : E1 g x0 x1) (hS : n1 x0 x1 Kn Kr h) : W code (Q0 Kn Kr) g h :=
  seqN (x := c1) (N' := D2 (fun z0 z1 z14 h => n2 z0 z1 z14 Kn Kr h)) (by kernel_rfl) (leafN (by kernel_rfl) (by kernel_rfl) hg hS (by kernel_rfl)) fun hq => D2_el hq n2_ok
/-- WHAT (*tympan/place.World).Close ASKS -/
abbrev asks (x0 : Option Addr) (x1 : Int) (K : Value → H → Prop) (h : H) : Prop := n1 x0 x1 (fun h => K (.tuple ⟨[]⟩) h) (fun h => K (.tuple ⟨[]⟩) h) h
theorem ok (x0 : Option Addr) (x1 : Int) (K : Value → H → Prop) (h : H) (hS : asks x0 x1 K h) : HCalls Tryz.prog 16 ⟨[(.pointer x0), (.int .i64 x1)]⟩ h K :=
  callsN (c := code) Tryz.func16 (by kernel_rfl) (by kernel_rfl) (n1_ok ⟨rfl, rfl, rfl⟩ hS) fun hq => D0_el hq fun hg hq => retN hg hq (by kernel_rfl)
end Sx.place_World_Close

/-! ### (*tympan/place.World).Current -/
namespace Sx.place_World_Current
noncomputable def code : Code := bodyOf Tryz.f25
abbrev W := wpC none Tryz.prog 15
variable (g : Env) (x0 : Option Addr) (x2 : Addr)
abbrev T0 := Addr → H → Prop
abbrev E0 := Held g [(2, .pointer (some x2))]
def D0 (K : T0) (g : Env) (h : H) : Prop := nilDs g.ds (vAddr (g.v 2) fun a1 => K a1 h)
abbrev Q0 (Kn Kr : T0) := QX (D0 Kn) (D0 Kr) noX
abbrev T1 := (Option Addr) → H → Prop
abbrev E1 := Held g [(0, .pointer x0)]
def D1 (K : T1) (g : Env) (h : H) : Prop := nilDs g.ds (vPtr (g.v 0) fun p2 => K p2 h)
abbrev n1 (Kn Kr : T0) (h : H) : Prop :=
  newx h ⟨[(.int .i64 (0 : Int)), (.int .u8 (0 : Int)), (S ([] : List UInt8)), (.int .u8 (0 : Int))]⟩ 36 fun a3 h4 => vSome x0 fun a5 => ∃ s6b s6n s6c, cell h4 (a5.add 1) = some (.slice s6b s6n s6c) ∧ (vSome x0 fun a7 => ∃ s8b s8n s8c, cell h4 (a7.add 1) = some (.slice s8b s8n s8c) ∧ (Rng .i64 ((s8n : Int) - (1 : Int)) ∧ ((0 ≤ ((s8n : Int) - (1 : Int)) ∧ ((s8n : Int) - (1 : Int)) < (s6n : Int)) ∧ (vSome s6b fun a9 => ∃ i10, cell h4 (((a9.add (Int.toNat ((s8n : Int) - (1 : Int)) * 4))).add 0) = some (.int .i64 i10) ∧ (∃ i11, cell h4 (((a9.add (Int.toNat ((s8n : Int) - (1 : Int)) * 4))).add 1) = some (.int .u8 i11) ∧ (∃ s12, cell h4 (((a9.add (Int.toNat ((s8n : Int) - (1 : Int)) * 4))).add 2) = some (S s12) ∧ (∃ i13, cell h4 (((a9.add (Int.toNat ((s8n : Int) - (1 : Int)) * 4))).add 3) = some (.int .u8 i13) ∧ (stL a3 [(.int .i64 i10), (.int .u8 i11), (S s12), (.int .u8 i13)] 0 h4 fun h14 => Kr a3 h14))))))))
variable {g} {h : H} {p : Prop}
variable {x0 x2}
theorem D0_el {K : T0} (hq : D0 K g h) (f : ∀ {x2}, E0 g x2 → K x2 h → p) : p := nilDs_el hq fun d q => vAddr_el q fun _ e2 q => f ⟨e2, d⟩ q
theorem D1_el {K : T1} (hq : D1 K g h) (f : ∀ {x0}, E1 g x0 → K x0 h → p) : p := nilDs_el hq fun d q => vPtr_el q fun _ e0 q => f ⟨e0, d⟩ q
theorem n1_ok {Kn Kr : T0} (hg : E1 g x0) (hS : n1 x0 Kn Kr h) : W code (Q0 Kn Kr) g h :=
  leafN (by kernel_rfl) (by kernel_rfl) hg hS (by kernel_rfl)
/-- WHAT (*tympan/place.World).Current ASKS -/
abbrev asks (x0 : Option Addr) (K : Value → H → Prop) (h : H) : Prop := n1 x0 (fun y2 h => ∃ i15, cell h ((y2).add 0) = some (.int .i64 i15) ∧ (∃ i16, cell h ((y2).add 1) = some (.int .u8 i16) ∧ (∃ s17, cell h ((y2).add 2) = some (S s17) ∧ (∃ i18, cell h ((y2).add 3) = some (.int .u8 i18) ∧ (K (.agg ⟨[(.int .i64 i15), (.int .u8 i16), (S s17), (.int .u8 i18)]⟩) h))))) (fun y2 h => ∃ i15, cell h ((y2).add 0) = some (.int .i64 i15) ∧ (∃ i16, cell h ((y2).add 1) = some (.int .u8 i16) ∧ (∃ s17, cell h ((y2).add 2) = some (S s17) ∧ (∃ i18, cell h ((y2).add 3) = some (.int .u8 i18) ∧ (K (.agg ⟨[(.int .i64 i15), (.int .u8 i16), (S s17), (.int .u8 i18)]⟩) h))))) h
theorem ok (x0 : Option Addr) (K : Value → H → Prop) (h : H) (hS : asks x0 K h) : HCalls Tryz.prog 25 ⟨[(.pointer x0)]⟩ h K :=
  callsN (c := code) Tryz.func25 (by kernel_rfl) (by kernel_rfl) (n1_ok ⟨rfl, rfl⟩ hS) fun hq => D0_el hq fun hg hq => retN hg hq (by kernel_rfl)
end Sx.place_World_Current

/-! ### (*tympan/place.World).Where -/
namespace Sx.place_World_Where
noncomputable def code : Code := bodyOf Tryz.f28
abbrev W := wpC none Tryz.prog 57
variable (g : Env) (x0 : Option Addr) (x1_0 x1_1 : Int) (x1_2 : List UInt8) (x1_3 : Int) (x3 : Addr) (x4 x5 : Int)
abbrev T0 := Int → Int → H → Prop
abbrev E0 := Held g [(4, .int .i64 x4), (5, .int .i64 x5)]
def D0 (K : T0) (g : Env) (h : H) : Prop := nilDs g.ds (vInt .i64 (g.v 4) fun i1 => vInt .i64 (g.v 5) fun i2 => K i1 i2 h)
abbrev Q0 (Kn Kr : T0) := QX (D0 Kn) (D0 Kr) noX
abbrev T1 := (Option Addr) → Int → Int → (List UInt8) → Int → H → Prop
abbrev E1 := Held g [(0, .pointer x0), (1, .agg ⟨[(.int .i64 x1_0), (.int .u8 x1_1), (S x1_2), (.int .u8 x1_3)]⟩)]
def D1 (K : T1) (g : Env) (h : H) : Prop := nilDs g.ds (vPtr (g.v 0) fun p3 => vAgg (g.v 1) fun l4 => uncons l4 fun e5 l6 => vInt .i64 e5 fun i7 => uncons l6 fun e8 l9 => vInt .u8 e8 fun i10 => uncons l9 fun e11 l12 => vStr e11 fun s13 => uncons l12 fun e14 l15 => vInt .u8 e14 fun i16 => unnil l15 (K p3 i7 i10 s13 i16 h))
noncomputable def c1 := cFst code
noncomputable def c2 := cSnd code
abbrev T2 := (Option Addr) → Addr → H → Prop
abbrev E2 := Held g [(0, .pointer x0), (3, .pointer (some x3))]
def D2 (K : T2) (g : Env) (h : H) : Prop := nilDs g.ds (vPtr (g.v 0) fun p17 => vAddr (g.v 3) fun a18 => K p17 a18 h)
noncomputable def c3 := cFst c2
noncomputable def c4 := cSnd c2
abbrev T3 := (Option Addr) → H → Prop
abbrev E3 := Held g [(0, .pointer x0)]
def D3 (K : T3) (g : Env) (h : H) : Prop := nilDs g.ds (vPtr (g.v 0) fun p19 => K p19 h)
abbrev n3 (Kn Kr : T0) (h : H) : Prop :=
  vSome x0 fun a20 => ∃ s21b s21n s21c, cell h (a20.add 1) = some (.slice s21b s21n s21c) ∧ (newx h #[(S ([116, 97, 98, 108, 101] : List UInt8))] 9 fun a22 h23 => HCalls Tryz.prog 54 ⟨[(.slice s21b s21n s21c), (.slice (some a22) 1 1)]⟩ h23 fun v24 h25 => vInt .i64 v24 fun i26 => Spl (i26 < (0 : Int)) (Kr (0 : Int) (-1 : Int) h25) (vSome x0 fun a27 => ∃ s28b s28n s28c, cell h25 (a27.add 1) = some (.slice s28b s28n s28c) ∧ ((0 ≤ i26 ∧ i26 < (s28n : Int)) ∧ (vSome s28b fun a29 => ∃ i30, cell h25 ((a29.add (Int.toNat i26 * 4)).add 0) = some (.int .i64 i30) ∧ (vSome x0 fun a31 => ∃ p32, cell h25 (a31.add 0) = some (.pointer p32) ∧ (HCalls Tryz.prog 55 ⟨[(.pointer p32), (.int .i64 i30)]⟩ h25 fun v33 h34 => vInt .i64 v33 fun i35 => Spl (i35 ≥ (0 : Int)) (Kr i35 i30 h34) (vSome x0 fun a36 => ∃ s37b s37n s37c, cell h34 (a36.add 1) = some (.slice s37b s37n s37c) ∧ (Rng .i64 ((if (1 : Int) > i26 then (1 : Int) else i26) - (1 : Int)) ∧ ((0 ≤ ((if (1 : Int) > i26 then (1 : Int) else i26) - (1 : Int)) ∧ ((if (1 : Int) > i26 then (1 : Int) else i26) - (1 : Int)) < (s37n : Int)) ∧ (vSome s37b fun a38 => ∃ i39, cell h34 ((a38.add (Int.toNat ((if (1 : Int) > i26 then (1 : Int) else i26) - (1 : Int)) * 4)).add 0) = some (.int .i64 i39) ∧ (Kr i39 (-1 : Int) h34)))))))))))
abbrev Q1 (Kn : T3) (Kr : T0) := QX (D3 Kn) (D0 Kr) noX
abbrev n2 (Kn Kr : T0) (h : H) : Prop :=
  vSome x0 fun a40 => ∃ b41, cell h (a40.add 3) = some (.bool b41) ∧ (cond b41 (∃ i42, cell h ((x3).add 0) = some (.int .i64 i42) ∧ (∃ i43, cell h ((x3).add 1) = some (.int .u8 i43) ∧ (∃ s44, cell h ((x3).add 2) = some (S s44) ∧ (∃ i45, cell h ((x3).add 3) = some (.int .u8 i45) ∧ (HCalls Tryz.prog 53 ⟨[(.agg ⟨[(.int .i64 i42), (.int .u8 i43), (S s44), (.int .u8 i45)]⟩)]⟩ h fun v46 h47 => vBool v46 fun b48 => cond b48 (n3 x0 Kn Kr h47) (∃ i49, cell h47 (x3.add 0) = some (.int .i64 i49) ∧ (Kr i49 (-1 : Int) h47))))))) (∃ i50, cell h (x3.add 0) = some (.int .i64 i50) ∧ (Kr i50 (-1 : Int) h)))
abbrev Q2 (Kn : T2) (Kr : T0) := QX (D2 Kn) (D0 Kr) noX
abbrev n1 (Kn Kr : T0) (h : H) : Prop :=
  newx h ⟨[(.int .i64 x1_0), (.int .u8 x1_1), (S x1_2), (.int .u8 x1_3)]⟩ 36 fun a51 h52 => n2 x0 a51 Kn Kr h52
variable {g} {h : H} {p : Prop}
variable {x0 x1_0 x1_1 x1_2 x1_3 x3 x4 x5}
theorem D0_el {K : T0} (hq : D0 K g h) (f : ∀ {x4 x5}, E0 g x4 x5 → K x4 x5 h → p) : p := nilDs_el hq fun d q => vInt_el q fun _ e4 q => vInt_el q fun _ e5 q => f ⟨e4, e5, d⟩ q
theorem D1_el {K : T1} (hq : D1 K g h) (f : ∀ {x0 x1_0 x1_1 x1_2 x1_3}, E1 g x0 x1_0 x1_1 x1_2 x1_3 → K x0 x1_0 x1_1 x1_2 x1_3 h → p) : p := by
  obtain ⟨d, q0⟩ := nilDs_ok hq
  obtain ⟨_, e0, q1⟩ := vPtr_ok q0
  obtain ⟨l, e1, q2⟩ := vAgg_ok q1
  obtain ⟨_, l, rfl, q3⟩ := uncI q2
  obtain ⟨_, l, rfl, q4⟩ := uncI q3
  obtain ⟨_, l, rfl, q5⟩ := uncS q4
  obtain ⟨_, l, rfl, q6⟩ := uncI q5
  obtain ⟨rfl, q7⟩ := unnil_ok q6
  exact f ⟨e0, e1, d⟩ q7
theorem D2_el {K : T2} (hq : D2 K g h) (f : ∀ {x0 x3}, E2 g x0 x3 → K x0 x3 h → p) : p := nilDs_el hq fun d q => vPtr_el q fun _ e0 q => vAddr_el q fun _ e3 q => f ⟨e0, e3, d⟩ q
theorem D3_el {K : T3} (hq : D3 K g h) (f : ∀ {x0}, E3 g x0 → K x0 h → p) : p := nilDs_el hq fun d q => vPtr_el q fun _ e0 q => f ⟨e0, d⟩ q
theorem n3_ok {Kn Kr : T0} (hg : E3 g x0) (hS : n3 x0 Kn Kr h) : W c4 (Q0 Kn Kr) g h :=
  leafN (by kernel_rfl) (by kernel_rfl) hg hS (by kernel_rfl)
theorem n2_ok {Kn Kr : T0} (hg : E2 g x0 x3) (hS : n2 x0 x3 Kn Kr h) : W c2 (Q0 Kn Kr) g h :=
  seqN (x := c3) (N' := D3 (fun z0 h => n3 z0 Kn Kr h)) (by kernel_rfl) (leafN (by kernel_rfl) (by kernel_rfl) hg hS (by kernel_rfl)) fun hq => D3_el hq n3_ok
theorem n1_ok {Kn Kr : T0} (hg : E1 g x0 x1_0 x1_1 x1_2 x1_3) (hS : n1 x0 x1_0 x1_1 x1_2 x1_3 Kn Kr h) : W code (Q0 Kn Kr) g h :=
  seqN (x := c1) (N' := D2 (fun z0 z3 h => n2 z0 z3 Kn Kr h)) (by kernel_rfl) (leafN (by kernel_rfl) (by kernel_rfl) hg hS (by kernel_rfl)) fun hq => D2_el hq n2_ok
/-- WHAT (*tympan/place.World).Where ASKS -/
abbrev asks (x0 : Option Addr) (x1_0 : Int) (x1_1 : Int) (x1_2 : List UInt8) (x1_3 : Int) (K : Value → H → Prop) (h : H) : Prop := n1 x0 x1_0 x1_1 x1_2 x1_3 (fun y4 y5 h => K (.tuple ⟨[(.int .i64 y4), (.int .i64 y5)]⟩) h) (fun y4 y5 h => K (.tuple ⟨[(.int .i64 y4), (.int .i64 y5)]⟩) h) h
theorem ok (x0 : Option Addr) (x1_0 : Int) (x1_1 : Int) (x1_2 : List UInt8) (x1_3 : Int) (K : Value → H → Prop) (h : H) (hS : asks x0 x1_0 x1_1 x1_2 x1_3 K h) : HCalls Tryz.prog 28 ⟨[(.pointer x0), (.agg ⟨[(.int .i64 x1_0), (.int .u8 x1_1), (S x1_2), (.int .u8 x1_3)]⟩)]⟩ h K :=
  callsN (c := code) Tryz.func28 (by kernel_rfl) (by kernel_rfl) (n1_ok ⟨rfl, rfl, rfl⟩ hS) fun hq => D0_el hq fun hg hq => retN hg hq (by kernel_rfl)
end Sx.place_World_Where

/-! ### tympan/place.point -/
namespace Sx.place_point
noncomputable def code : Code := bodyOf Tryz.f31
abbrev W := wpC none Tryz.prog 53
variable (g : Env) (x0 x1_0 : Int) (x1_1 : List UInt8) (x1_2b : Option Addr) (x1_2n x1_2c : Nat) (x1_3 : Bool) (x1_4 : List UInt8) (x3 : Addr) (x4 : Int) (x8 x17 : Bool) (x32b : Option Addr) (x32n x32c : Nat) (x33 x34 : Int)
abbrev T0 := Int → H → Prop
abbrev E0 := Held g [(4, .int .u8 x4)]
def D0 (K : T0) (g : Env) (h : H) : Prop := nilDs g.ds (vInt .u8 (g.v 4) fun i1 => K i1 h)
abbrev Q0 (Kn Kr : T0) := QX (D0 Kn) (D0 Kr) noX
abbrev T1 := Int → Int → (List UInt8) → (Option Addr) → Nat → Nat → Bool → (List UInt8) → H → Prop
abbrev E1 := Held g [(0, .int .u8 x0), (1, .agg ⟨[(.int .u8 x1_0), (S x1_1), (.slice x1_2b x1_2n x1_2c), (.bool x1_3), (S x1_4)]⟩)]
def D1 (K : T1) (g : Env) (h : H) : Prop := nilDs g.ds (vInt .u8 (g.v 0) fun i2 => vAgg (g.v 1) fun l3 => uncons l3 fun e4 l5 => vInt .u8 e4 fun i6 => uncons l5 fun e7 l8 => vStr e7 fun s9 => uncons l8 fun e10 l11 => vSlice e10 fun s12b s12n s12c => uncons l11 fun e13 l14 => vBool e13 fun b15 => uncons l14 fun e16 l17 => vStr e16 fun s18 => unnil l17 (K i2 i6 s9 s12b s12n s12c b15 s18 h))
noncomputable def c1 := cFst code
noncomputable def c2 := cSnd code
abbrev T2 := Int → Addr → H → Prop
abbrev E2 := Held g [(0, .int .u8 x0), (3, .pointer (some x3))]
def D2 (K : T2) (g : Env) (h : H) : Prop := nilDs g.ds (vInt .u8 (g.v 0) fun i19 => vAddr (g.v 3) fun a20 => K i19 a20 h)
noncomputable def c3 := cFst c2
noncomputable def c4 := cSnd c2
abbrev T3 := Addr → H → Prop
abbrev E3 := Held g [(3, .pointer (some x3))]
def D3 (K : T3) (g : Env) (h : H) : Prop := nilDs g.ds (vAddr (g.v 3) fun a21 => K a21 h)
noncomputable def c5 := cFst c4
noncomputable def c6 := cSnd c4
abbrev T4 := H → Prop
abbrev E4 := Held g []
def D4 (K : T4) (g : Env) (h : H) : Prop := nilDs g.ds (K h)
abbrev n4 (Kn Kr : T0) (h : H) : Prop :=
  Kr (0 : Int) h
abbrev Q1 (Kn : T4) (Kr : T0) := QX (D4 Kn) (D0 Kr) noX
noncomputable def c7 := cFst c5
noncomputable def c8 := cSnd c5
abbrev T5 := (Option Addr) → Nat → Nat → Int → Int → H → Prop
abbrev E5 := Held g [(32, .slice x32b x32n x32c), (33, .int .i64 x33), (34, .int .i64 x34)]
def D5 (K : T5) (g : Env) (h : H) : Prop := nilDs g.ds (vSlice (g.v 32) fun s22b s22n s22c => vInt .i64 (g.v 33) fun i23 => vInt .i64 (g.v 34) fun i24 => K s22b s22n s22c i23 i24 h)
noncomputable def c9 := cFst c8
abbrev Q2 (Kn Ke1 : T4) (Kr : T0) := QX (D4 Kn) (D0 Kr) (exX 1 (D4 Ke1) noX)
noncomputable def c10 := cFst c9
abbrev Q3 (Kn : T5) (Ke1 : T4) (Kr : T0) := QX (D5 Kn) (D0 Kr) (exX 1 (D4 Ke1) noX)
def n7_L (Kn Ke1 : T4) (Kr : T0) : Nat → T5
  | 0 => fun _ _ _ _ _ _ => False
  | N + 1 => fun x32b x32n x32c x33 x34 h => Spl (x34 < x33) ((0 ≤ x34 ∧ x34 < (x32n : Int)) ∧ (vSome x32b fun a25 => ∃ s26, cell h (((a25.add (Int.toNat x34 * 2))).add 0) = some (S s26) ∧ (∃ s27, cell h (((a25.add (Int.toNat x34 * 2))).add 1) = some (S s27) ∧ (newx h ⟨[(S ([] : List UInt8)), (S ([] : List UInt8))]⟩ 79 fun a28 h29 => stL a28 [(S s26), (S s27)] 0 h29 fun h30 => ∃ s31, cell h30 (a28.add 1) = some (S s31) ∧ (HCalls Tryz.prog 62 ⟨[(S s31)]⟩ h30 fun v32 h33 => vStr v32 fun s34 => ∃ s35, cell h33 (a28.add 0) = some (S s35) ∧ (Spl (s35 = ([101, 110, 99, 111, 100, 105, 110, 103] : List UInt8)) (Spl (s34 = ([116, 101, 120, 116, 47, 104, 116, 109, 108] : List UInt8)) (Kr (2 : Int) h33) (Spl (s34 = ([97, 112, 112, 108, 105, 99, 97, 116, 105, 111, 110, 47, 120, 104, 116, 109, 108, 43, 120, 109, 108] : List UInt8)) (Kr (2 : Int) h33) (Rng .i64 (x34 + (1 : Int)) ∧ (n7_L Kn Ke1 Kr N x32b x32n x32c x33 (x34 + (1 : Int)) h33)))) (Rng .i64 (x34 + (1 : Int)) ∧ (n7_L Kn Ke1 Kr N x32b x32n x32c x33 (x34 + (1 : Int)) h33)))))))) (Ke1 h)
abbrev n7 (Kn Ke1 : T4) (Kr : T0) (h : H) : Prop :=
  ∃ N, n7_L Kn Ke1 Kr N x32b x32n x32c x33 x34 h
abbrev n6 (Kn : T4) (Kr : T0) (h : H) : Prop :=
  n7 x32b x32n x32c x33 x34 Kn Kn Kr h
abbrev Q4 (Kn : T5) (Kr : T0) := QX (D5 Kn) (D0 Kr) noX
abbrev n5 (Kn : T4) (Kr : T0) (h : H) : Prop :=
  ∃ s36b s36n s36c, cell h (x3.add 2) = some (.slice s36b s36n s36c) ∧ (n6 s36b s36n s36c (s36n : Int) (0 : Int) Kn Kr h)
abbrev n3 (Kn Kr : T0) (h : H) : Prop :=
  n5 x3 (fun  h => n4 Kn Kr h) Kr h
abbrev Q5 (Kn : T3) (Kr : T0) := QX (D3 Kn) (D0 Kr) noX
noncomputable def c11 := cFst c3
abbrev Q6 (Kn Ke0 : T3) (Kr : T0) := QX (D3 Kn) (D0 Kr) (exX 0 (D3 Ke0) noX)
noncomputable def c12 := cFst c11
noncomputable def c13 := cSnd c11
abbrev T6 := Int → Addr → Bool → H → Prop
abbrev E6 := Held g [(0, .int .u8 x0), (3, .pointer (some x3)), (8, .bool x8)]
def D6 (K : T6) (g : Env) (h : H) : Prop := nilDs g.ds (vInt .u8 (g.v 0) fun i37 => vAddr (g.v 3) fun a38 => vBool (g.v 8) fun b39 => K i37 a38 b39 h)
noncomputable def c14 := cFst c13
noncomputable def c15 := cSnd c13
abbrev n11 (Kn Ke0 : T3) (Kr : T0) (h : H) : Prop :=
  Kr (2 : Int) h
noncomputable def c16 := cFst c15
noncomputable def c17 := cSnd c15
abbrev T7 := Addr → Bool → H → Prop
abbrev E7 := Held g [(3, .pointer (some x3)), (17, .bool x17)]
def D7 (K : T7) (g : Env) (h : H) : Prop := nilDs g.ds (vAddr (g.v 3) fun a40 => vBool (g.v 17) fun b41 => K a40 b41 h)
abbrev n13 (Kn Ke0 : T3) (Kr : T0) (h : H) : Prop :=
  cond x17 (Kr (0 : Int) h) (∃ s42, cell h (x3.add 1) = some (S s42) ∧ (Spl (s42 = ([97, 110, 110, 111, 116, 97, 116, 105, 111, 110, 45, 120, 109, 108] : List UInt8)) (Kn x3 h) (Kr (1 : Int) h)))
abbrev Q7 (Kn : T7) (Ke0 : T3) (Kr : T0) := QX (D7 Kn) (D0 Kr) (exX 0 (D3 Ke0) noX)
abbrev n12 (Kn Ke0 : T3) (Kr : T0) (h : H) : Prop :=
  Spl (x0 = (2 : Int)) (∃ s43, cell h (x3.add 1) = some (S s43) ∧ (HCalls Tryz.prog 61 ⟨[(.int .u8 x0), (S s43)]⟩ h fun v44 h45 => vBool v44 fun b46 => cond b46 (n13 x3 false Kn Ke0 Kr h45) (n13 x3 true Kn Ke0 Kr h45))) (n13 x3 true Kn Ke0 Kr h)
abbrev n10 (Kn Ke0 : T3) (Kr : T0) (h : H) : Prop :=
  cond x8 (n11  Kn Ke0 Kr h) (n12 x0 x3 Kn Ke0 Kr h)
abbrev Q8 (Kn : T6) (Ke0 : T3) (Kr : T0) := QX (D6 Kn) (D0 Kr) (exX 0 (D3 Ke0) noX)
abbrev n9 (Kn Ke0 : T3) (Kr : T0) (h : H) : Prop :=
  Spl (x0 = (1 : Int)) (∃ s47, cell h (x3.add 1) = some (S s47) ∧ (HCalls Tryz.prog 61 ⟨[(.int .u8 x0), (S s47)]⟩ h fun v48 h49 => vBool v48 fun b50 => cond b50 (n10 x0 x3 true Kn Ke0 Kr h49) (n10 x0 x3 false Kn Ke0 Kr h49))) (n10 x0 x3 false Kn Ke0 Kr h)
abbrev n8 (Kn : T3) (Kr : T0) (h : H) : Prop :=
  n9 x0 x3 Kn Kn Kr h
abbrev n2 (Kn Kr : T0) (h : H) : Prop :=
  n8 x0 x3 (fun z3 h => n3 z3 Kn Kr h) Kr h
abbrev Q9 (Kn : T2) (Kr : T0) := QX (D2 Kn) (D0 Kr) noX
abbrev n1 (Kn Kr : T0) (h : H) : Prop :=
  newx h ⟨[(.int .u8 x1_0), (S x1_1), (.slice x1_2b x1_2n x1_2c), (.bool x1_3), (S x1_4)]⟩ 31 fun a51 h52 => n2 x0 a51 Kn Kr h52
variable {g} {h : H} {p : Prop}
variable {x0 x1_0 x1_1 x1_2b x1_2n x1_2c x1_3 x1_4 x3 x4 x8 x17 x32b x32n x32c x33 x34}
theorem D5_mk {K : T5} (hg : E5 g x32b x32n x32c x33 x34) (hk : K x32b x32n x32c x33 x34 h) : D5 K g h := by
  obtain ⟨e32, e33, e34, d⟩ := hg
  unfold D5
  rw [e32, e33, e34, d]
  exact hk
theorem D0_el {K : T0} (hq : D0 K g h) (f : ∀ {x4}, E0 g x4 → K x4 h → p) : p := nilDs_el hq fun d q => vInt_el q fun _ e4 q => f ⟨e4, d⟩ q
theorem D1_el {K : T1} (hq : D1 K g h) (f : ∀ {x0 x1_0 x1_1 x1_2b x1_2n x1_2c x1_3 x1_4}, E1 g x0 x1_0 x1_1 x1_2b x1_2n x1_2c x1_3 x1_4 → K x0 x1_0 x1_1 x1_2b x1_2n x1_2c x1_3 x1_4 h → p) : p := by
  obtain ⟨d, q0⟩ := nilDs_ok hq
  obtain ⟨_, e0, q1⟩ := vInt_ok q0
  obtain ⟨l, e1, q2⟩ := vAgg_ok q1
  obtain ⟨_, l, rfl, q3⟩ := uncI q2
  obtain ⟨_, l, rfl, q4⟩ := uncS q3
  obtain ⟨_, _, _, l, rfl, q5⟩ := uncL q4
  obtain ⟨_, l, rfl, q6⟩ := uncB q5
  obtain ⟨_, l, rfl, q7⟩ := uncS q6
  obtain ⟨rfl, q8⟩ := unnil_ok q7
  exact f ⟨e0, e1, d⟩ q8
theorem D2_el {K : T2} (hq : D2 K g h) (f : ∀ {x0 x3}, E2 g x0 x3 → K x0 x3 h → p) : p := nilDs_el hq fun d q => vInt_el q fun _ e0 q => vAddr_el q fun _ e3 q => f ⟨e0, e3, d⟩ q
theorem D3_el {K : T3} (hq : D3 K g h) (f : ∀ {x3}, E3 g x3 → K x3 h → p) : p := nilDs_el hq fun d q => vAddr_el q fun _ e3 q => f ⟨e3, d⟩ q
theorem D4_el {K : T4} (hq : D4 K g h) (f : E4 g → K  h → p) : p := nilDs_el hq fun d q => f d q
theorem n4_ok {Kn Kr : T0} (hg : E4 g) (hS : n4 Kn Kr h) : W c6 (Q0 Kn Kr) g h :=
  leafN (by kernel_rfl) (by kernel_rfl) hg hS (by kernel_rfl)
theorem D5_el {K : T5} (hq : D5 K g h) (f : ∀ {x32b x32n x32c x33 x34}, E5 g x32b x32n x32c x33 x34 → K x32b x32n x32c x33 x34 h → p) : p := nilDs_el hq fun d q => vSlice_el q fun _ _ _ e32 q => vInt_el q fun _ e33 q => vInt_el q fun _ e34 q => f ⟨e32, e33, e34, d⟩ q
theorem n7_ok {Kn Ke1 : T4} {Kr : T0} (hg : E5 g x32b x32n x32c x33 x34) (hS : n7 x32b x32n x32c x33 x34 Kn Ke1 Kr h) : W c9 (Q2 Kn Ke1 Kr) g h :=
  let ⟨N, hS⟩ := hS
  loopN (x := c10) (I := fun N => D5 (n7_L Kn Ke1 Kr N)) (by kernel_rfl) (fun hq => D5_el hq fun _ hq => hq) (fun hq => D5_el hq fun hg hq => leafN (by kernel_rfl) (by kernel_rfl) hg hq (by kernel_rfl)) N (D5_mk hg hS)
theorem n6_ok {Kn : T4} {Kr : T0} (hg : E5 g x32b x32n x32c x33 x34) (hS : n6 x32b x32n x32c x33 x34 Kn Kr h) : W c8 (Q1 Kn Kr) g h := blockN (by kernel_rfl) (n7_ok hg hS)
theorem n5_ok {Kn : T4} {Kr : T0} (hg : E3 g x3) (hS : n5 x3 Kn Kr h) : W c5 (Q1 Kn Kr) g h :=
  seqN (x := c7) (N' := D5 (fun z32b z32n z32c z33 z34 h => n6 z32b z32n z32c z33 z34 Kn Kr h)) (by kernel_rfl) (leafN (by kernel_rfl) (by kernel_rfl) hg hS (by kernel_rfl)) fun hq => D5_el hq n6_ok
theorem n3_ok {Kn Kr : T0} (hg : E3 g x3) (hS : n3 x3 Kn Kr h) : W c4 (Q0 Kn Kr) g h :=
  seqN (by kernel_rfl) (n5_ok hg hS) fun hq => D4_el hq n4_ok
theorem D6_el {K : T6} (hq : D6 K g h) (f : ∀ {x0 x3 x8}, E6 g x0 x3 x8 → K x0 x3 x8 h → p) : p := nilDs_el hq fun d q => vInt_el q fun _ e0 q => vAddr_el q fun _ e3 q => vBool_el q fun _ e8 q => f ⟨e0, e3, e8, d⟩ q
theorem n11_ok {Kn Ke0 : T3} {Kr : T0} (hg : E4 g) (hS : n11 Kn Ke0 Kr h) : W c14 (Q6 Kn Ke0 Kr) g h :=
  leafN (by kernel_rfl) (by kernel_rfl) hg hS (by kernel_rfl)
theorem D7_el {K : T7} (hq : D7 K g h) (f : ∀ {x3 x17}, E7 g x3 x17 → K x3 x17 h → p) : p := nilDs_el hq fun d q => vAddr_el q fun _ e3 q => vBool_el q fun _ e17 q => f ⟨e3, e17, d⟩ q
theorem n13_ok {Kn Ke0 : T3} {Kr : T0} (hg : E7 g x3 x17) (hS : n13 x3 x17 Kn Ke0 Kr h) : W c17 (Q6 Kn Ke0 Kr) g h :=
  leafN (by kernel_rfl) (by kernel_rfl) hg hS (by kernel_rfl)
theorem n12_ok {Kn Ke0 : T3} {Kr : T0} (hg : E2 g x0 x3) (hS : n12 x0 x3 Kn Ke0 Kr h) : W c15 (Q6 Kn Ke0 Kr) g h :=
  seqN (x := c16) (N' := D7 (fun z3 z17 h => n13 z3 z17 Kn Ke0 Kr h)) (by kernel_rfl) (leafN (by kernel_rfl) (by kernel_rfl) hg hS (by kernel_rfl)) fun hq => D7_el hq n13_ok
theorem n10_ok {Kn Ke0 : T3} {Kr : T0} (hg : E6 g x0 x3 x8) (hS : n10 x0 x3 x8 Kn Ke0 Kr h) : W c13 (Q6 Kn Ke0 Kr) g h :=
  let ⟨hg0, hg3, hg8, d⟩ := hg
  condN (by kernel_rfl) rfl hg8 hS (fun hS e => n11_ok d hS) (fun hS e => n12_ok ⟨hg0, hg3, d⟩ hS)
theorem n9_ok {Kn Ke0 : T3} {Kr : T0} (hg : E2 g x0 x3) (hS : n9 x0 x3 Kn Ke0 Kr h) : W c11 (Q6 Kn Ke0 Kr) g h :=
  seqN (x := c12) (N' := D6 (fun z0 z3 z8 h => n10 z0 z3 z8 Kn Ke0 Kr h)) (by kernel_rfl) (leafN (by kernel_rfl) (by kernel_rfl) hg hS (by kernel_rfl)) fun hq => D6_el hq n10_ok
theorem n8_ok {Kn : T3} {Kr : T0} (hg : E2 g x0 x3) (hS : n8 x0 x3 Kn Kr h) : W c3 (Q5 Kn Kr) g h := blockN (by kernel_rfl) (n9_ok hg hS)
theorem n2_ok {Kn Kr : T0} (hg : E2 g x0 x3) (hS : n2 x0 x3 Kn Kr h) : W c2 (Q0 Kn Kr) g h :=
  seqN (by kernel_rfl) (n8_ok hg hS) fun hq => D3_el hq n3_ok
theorem n1_ok {Kn Kr : T0} (hg : E1 g x0 x1_0 x1_1 x1_2b x1_2n x1_2c x1_3 x1_4) (hS : n1 x0 x1_0 x1_1 x1_2b x1_2n x1_2c x1_3 x1_4 Kn Kr h) : W code (Q0 Kn Kr) g h :=
  seqN (x := c1) (N' := D2 (fun z0 z3 h => n2 z0 z3 Kn Kr h)) (by kernel_rfl) (leafN (by kernel_rfl) (by kernel_rfl) hg hS (by kernel_rfl)) fun hq => D2_el hq n2_ok
/-- WHAT tympan/place.point ASKS -/
abbrev asks (x0 : Int) (x1_0 : Int) (x1_1 : List UInt8) (x1_2b : Option Addr) (x1_2n : Nat) (x1_2c : Nat) (x1_3 : Bool) (x1_4 : List UInt8) (K : Value → H → Prop) (h : H) : Prop := n1 x0 x1_0 x1_1 x1_2b x1_2n x1_2c x1_3 x1_4 (fun y4 h => K (.int .u8 y4) h) (fun y4 h => K (.int .u8 y4) h) h
theorem ok (x0 : Int) (x1_0 : Int) (x1_1 : List UInt8) (x1_2b : Option Addr) (x1_2n : Nat) (x1_2c : Nat) (x1_3 : Bool) (x1_4 : List UInt8) (K : Value → H → Prop) (h : H) (hS : asks x0 x1_0 x1_1 x1_2b x1_2n x1_2c x1_3 x1_4 K h) : HCalls Tryz.prog 31 ⟨[(.int .u8 x0), (.agg ⟨[(.int .u8 x1_0), (S x1_1), (.slice x1_2b x1_2n x1_2c), (.bool x1_3), (S x1_4)]⟩)]⟩ h K :=
  callsN (c := code) Tryz.func31 (by kernel_rfl) (by kernel_rfl) (n1_ok ⟨rfl, rfl, rfl⟩ hS) fun hq => D0_el hq fun hg hq => retN hg hq (by kernel_rfl)
end Sx.place_point

/-! ### tympan/place.grid -/
namespace Sx.place_grid
noncomputable def code : Code := bodyOf Tryz.f53
abbrev W := wpC none Tryz.prog 14
variable (g : Env) (x0_0 x0_1 : Int) (x0_2 : List UInt8) (x0_3 : Int) (x1 : Addr) (x2 : Bool) (x4 : List UInt8) (x5 : Bool)
abbrev T0 := Bool → H → Prop
abbrev E0 := Held g [(2, .bool x2)]
def D0 (K : T0) (g : Env) (h : H) : Prop := nilDs g.ds (vBool (g.v 2) fun b1 => K b1 h)
abbrev Q0 (Kn Kr : T0) := QX (D0 Kn) (D0 Kr) noX
abbrev T1 := Int → Int → (List UInt8) → Int → H → Prop
abbrev E1 := Held g [(0, .agg ⟨[(.int .i64 x0_0), (.int .u8 x0_1), (S x0_2), (.int .u8 x0_3)]⟩)]
def D1 (K : T1) (g : Env) (h : H) : Prop := nilDs g.ds (vAgg (g.v 0) fun l2 => uncons l2 fun e3 l4 => vInt .i64 e3 fun i5 => uncons l4 fun e6 l7 => vInt .u8 e6 fun i8 => uncons l7 fun e9 l10 => vStr e9 fun s11 => uncons l10 fun e12 l13 => vInt .u8 e12 fun i14 => unnil l13 (K i5 i8 s11 i14 h))
noncomputable def c1 := cFst code
noncomputable def c2 := cSnd code
abbrev T2 := Addr → H → Prop
abbrev E2 := Held g [(1, .pointer (some x1))]
def D2 (K : T2) (g : Env) (h : H) : Prop := nilDs g.ds (vAddr (g.v 1) fun a15 => K a15 h)
noncomputable def c3 := cFst c2
noncomputable def c4 := cSnd c2
abbrev T3 := H → Prop
abbrev E3 := Held g []
def D3 (K : T3) (g : Env) (h : H) : Prop := nilDs g.ds (K h)
abbrev n3 (Kn Kr : T0) (h : H) : Prop :=
  Kr false h
abbrev Q1 (Kn : T3) (Kr : T0) := QX (D3 Kn) (D0 Kr) noX
noncomputable def c5 := cFst c3
noncomputable def c6 := cSnd c3
abbrev T4 := Addr → (List UInt8) → H → Prop
abbrev E4 := Held g [(1, .pointer (some x1)), (4, S x4)]
def D4 (K : T4) (g : Env) (h : H) : Prop := nilDs g.ds (vAddr (g.v 1) fun a16 => vStr (g.v 4) fun s17 => K a16 s17 h)
noncomputable def c7 := cFst c6
abbrev Q2 (Kn Ke0 : T3) (Kr : T0) := QX (D3 Kn) (D0 Kr) (exX 0 (D3 Ke0) noX)
noncomputable def c8 := cFst c7
noncomputable def c9 := cSnd c7
abbrev T5 := Addr → Bool → H → Prop
abbrev E5 := Held g [(1, .pointer (some x1)), (5, .bool x5)]
def D5 (K : T5) (g : Env) (h : H) : Prop := nilDs g.ds (vAddr (g.v 1) fun a18 => vBool (g.v 5) fun b19 => K a18 b19 h)
abbrev n7 (Kn Ke0 : T3) (Kr : T0) (h : H) : Prop :=
  cond x5 (∃ i20, cell h (x1.add 1) = some (.int .u8 i20) ∧ (Spl (i20 = (0 : Int)) (Kr true h) (Kr false h))) (Kn h)
abbrev Q3 (Kn : T5) (Ke0 : T3) (Kr : T0) := QX (D5 Kn) (D0 Kr) (exX 0 (D3 Ke0) noX)
noncomputable def c10 := cFst c8
noncomputable def c11 := cSnd c8
abbrev T6 := Addr → (List UInt8) → Bool → H → Prop
abbrev E6 := Held g [(1, .pointer (some x1)), (4, S x4), (5, .bool x5)]
def D6 (K : T6) (g : Env) (h : H) : Prop := nilDs g.ds (vAddr (g.v 1) fun a21 => vStr (g.v 4) fun s22 => vBool (g.v 5) fun b23 => K a21 s22 b23 h)
abbrev n9 (Kn : T5) (Ke0 : T3) (Kr : T0) (h : H) : Prop :=
  cond x5 (Kn x1 x5 h) (Spl (x4 = ([116, 98, 111, 100, 121] : List UInt8)) (Kn x1 true h) (Spl (x4 = ([116, 102, 111, 111, 116] : List UInt8)) (Kn x1 true h) (Spl (x4 = ([116, 104, 101, 97, 100] : List UInt8)) (Kn x1 true h) (Spl (x4 = ([116, 114] : List UInt8)) (Kn x1 true h) (Kn x1 false h)))))
abbrev Q4 (Kn : T6) (Ke0 : T3) (Kr : T0) := QX (D6 Kn) (D0 Kr) (exX 0 (D3 Ke0) noX)
abbrev n8 (Kn : T5) (Ke0 : T3) (Kr : T0) (h : H) : Prop :=
  Spl (x4 = ([116, 97, 98, 108, 101] : List UInt8)) (n9 x1 x4 true Kn Ke0 Kr h) (n9 x1 x4 false Kn Ke0 Kr h)
abbrev n6 (Kn Ke0 : T3) (Kr : T0) (h : H) : Prop :=
  n8 x1 x4 (fun z1 z5 h => n7 z1 z5 Kn Ke0 Kr h) Ke0 Kr h
abbrev n5 (Kn : T3) (Kr : T0) (h : H) : Prop :=
  n6 x1 x4 Kn Kn Kr h
abbrev Q5 (Kn : T4) (Kr : T0) := QX (D4 Kn) (D0 Kr) noX
abbrev n4 (Kn : T3) (Kr : T0) (h : H) : Prop :=
  ∃ s24, cell h (x1.add 2) = some (S s24) ∧ (n5 x1 s24 Kn Kr h)
abbrev n2 (Kn Kr : T0) (h : H) : Prop :=
  n4 x1 (fun  h => n3 Kn Kr h) Kr h
abbrev Q6 (Kn : T2) (Kr : T0) := QX (D2 Kn) (D0 Kr) noX
abbrev n1 (Kn Kr : T0) (h : H) : Prop :=
  newx h ⟨[(.int .i64 x0_0), (.int .u8 x0_1), (S x0_2), (.int .u8 x0_3)]⟩ 36 fun a25 h26 => n2 a25 Kn Kr h26
variable {g} {h : H} {p : Prop}
variable {x0_0 x0_1 x0_2 x0_3 x1 x2 x4 x5}
theorem D0_el {K : T0} (hq : D0 K g h) (f : ∀ {x2}, E0 g x2 → K x2 h → p) : p := nilDs_el hq fun d q => vBool_el q fun _ e2 q => f ⟨e2, d⟩ q
theorem D1_el {K : T1} (hq : D1 K g h) (f : ∀ {x0_0 x0_1 x0_2 x0_3}, E1 g x0_0 x0_1 x0_2 x0_3 → K x0_0 x0_1 x0_2 x0_3 h → p) : p := by
  obtain ⟨d, q0⟩ := nilDs_ok hq
  obtain ⟨l, e0, q1⟩ := vAgg_ok q0
  obtain ⟨_, l, rfl, q2⟩ := uncI q1
  obtain ⟨_, l, rfl, q3⟩ := uncI q2
  obtain ⟨_, l, rfl, q4⟩ := uncS q3
  obtain ⟨_, l, rfl, q5⟩ := uncI q4
  obtain ⟨rfl, q6⟩ := unnil_ok q5
  exact f ⟨e0, d⟩ q6
theorem D2_el {K : T2} (hq : D2 K g h) (f : ∀ {x1}, E2 g x1 → K x1 h → p) : p := nilDs_el hq fun d q => vAddr_el q fun _ e1 q => f ⟨e1, d⟩ q
theorem D3_el {K : T3} (hq : D3 K g h) (f : E3 g → K  h → p) : p := nilDs_el hq fun d q => f d q
theorem n3_ok {Kn Kr : T0} (hg : E3 g) (hS : n3 Kn Kr h) : W c4 (Q0 Kn Kr) g h :=
  leafN (by kernel_rfl) (by kernel_rfl) hg hS (by kernel_rfl)
theorem D4_el {K : T4} (hq : D4 K g h) (f : ∀ {x1 x4}, E4 g x1 x4 → K x1 x4 h → p) : p := nilDs_el hq fun d q => vAddr_el q fun _ e1 q => vStr_el q fun _ e4 q => f ⟨e1, e4, d⟩ q
theorem D5_el {K : T5} (hq : D5 K g h) (f : ∀ {x1 x5}, E5 g x1 x5 → K x1 x5 h → p) : p := nilDs_el hq fun d q => vAddr_el q fun _ e1 q => vBool_el q fun _ e5 q => f ⟨e1, e5, d⟩ q
theorem n7_ok {Kn Ke0 : T3} {Kr : T0} (hg : E5 g x1 x5) (hS : n7 x1 x5 Kn Ke0 Kr h) : W c9 (Q2 Kn Ke0 Kr) g h :=
  leafN (by kernel_rfl) (by kernel_rfl) hg hS (by kernel_rfl)
theorem D6_el {K : T6} (hq : D6 K g h) (f : ∀ {x1 x4 x5}, E6 g x1 x4 x5 → K x1 x4 x5 h → p) : p := nilDs_el hq fun d q => vAddr_el q fun _ e1 q => vStr_el q fun _ e4 q => vBool_el q fun _ e5 q => f ⟨e1, e4, e5, d⟩ q
theorem n9_ok {Kn : T5} {Ke0 : T3} {Kr : T0} (hg : E6 g x1 x4 x5) (hS : n9 x1 x4 x5 Kn Ke0 Kr h) : W c11 (Q3 Kn Ke0 Kr) g h :=
  leafN (by kernel_rfl) (by kernel_rfl) hg hS (by kernel_rfl)
theorem n8_ok {Kn : T5} {Ke0 : T3} {Kr : T0} (hg : E4 g x1 x4) (hS : n8 x1 x4 Kn Ke0 Kr h) : W c8 (Q3 Kn Ke0 Kr) g h :=
  seqN (x := c10) (N' := D6 (fun z1 z4 z5 h => n9 z1 z4 z5 Kn Ke0 Kr h)) (by kernel_rfl) (leafN (by kernel_rfl) (by kernel_rfl) hg hS (by kernel_rfl)) fun hq => D6_el hq n9_ok
theorem n6_ok {Kn Ke0 : T3} {Kr : T0} (hg : E4 g x1 x4) (hS : n6 x1 x4 Kn Ke0 Kr h) : W c7 (Q2 Kn Ke0 Kr) g h :=
  seqN (by kernel_rfl) (n8_ok hg hS) fun hq => D5_el hq n7_ok
theorem n5_ok {Kn : T3} {Kr : T0} (hg : E4 g x1 x4) (hS : n5 x1 x4 Kn Kr h) : W c6 (Q1 Kn Kr) g h := blockN (by kernel_rfl) (n6_ok hg hS)
theorem n4_ok {Kn : T3} {Kr : T0} (hg : E2 g x1) (hS : n4 x1 Kn Kr h) : W c3 (Q1 Kn Kr) g h :=
  seqN (x := c5) (N' := D4 (fun z1 z4 h => n5 z1 z4 Kn Kr h)) (by kernel_rfl) (leafN (by kernel_rfl) (by kernel_rfl) hg hS (by kernel_rfl)) fun hq => D4_el hq n5_ok
theorem n2_ok {Kn Kr : T0} (hg : E2 g x1) (hS : n2 x1 Kn Kr h) : W c2 (Q0 Kn Kr) g h :=
  seqN (by kernel_rfl) (n4_ok hg hS) fun hq => D3_el hq n3_ok
theorem n1_ok {Kn Kr : T0} (hg : E1 g x0_0 x0_1 x0_2 x0_3) (hS : n1 x0_0 x0_1 x0_2 x0_3 Kn Kr h) : W code (Q0 Kn Kr) g h :=
  seqN (x := c1) (N' := D2 (fun z1 h => n2 z1 Kn Kr h)) (by kernel_rfl) (leafN (by kernel_rfl) (by kernel_rfl) hg hS (by kernel_rfl)) fun hq => D2_el hq n2_ok
/-- WHAT tympan/place.grid ASKS -/
abbrev asks (x0_0 : Int) (x0_1 : Int) (x0_2 : List UInt8) (x0_3 : Int) (K : Value → H → Prop) (h : H) : Prop := n1 x0_0 x0_1 x0_2 x0_3 (fun y2 h => K (.bool y2) h) (fun y2 h => K (.bool y2) h) h
theorem ok (x0_0 : Int) (x0_1 : Int) (x0_2 : List UInt8) (x0_3 : Int) (K : Value → H → Prop) (h : H) (hS : asks x0_0 x0_1 x0_2 x0_3 K h) : HCalls Tryz.prog 53 ⟨[(.agg ⟨[(.int .i64 x0_0), (.int .u8 x0_1), (S x0_2), (.int .u8 x0_3)]⟩)]⟩ h K :=
  callsN (c := code) Tryz.func53 (by kernel_rfl) (by kernel_rfl) (n1_ok ⟨rfl, rfl⟩ hS) fun hq => D0_el hq fun hg hq => retN hg hq (by kernel_rfl)
end Sx.place_grid

/-! ### tympan/class.Lower -/
namespace Sx.class_Lower
noncomputable def code : Code := bodyOf Tryz.f62
abbrev W := wpC none Tryz.prog 23
variable (g : Env) (x0 x2 : List UInt8) (x3b : Option Addr) (x3n x3c : Nat) (x8b : Option Addr) (x8n x8c : Nat) (x9 x10 : Int)
abbrev T0 := (List UInt8) → H → Prop
abbrev E0 := Held g [(2, S x2)]
def D0 (K : T0) (g : Env) (h : H) : Prop := nilDs g.ds (vStr (g.v 2) fun s1 => K s1 h)
abbrev Q0 (Kn Kr : T0) := QX (D0 Kn) (D0 Kr) noX
abbrev T1 := (List UInt8) → H → Prop
abbrev E1 := Held g [(0, S x0)]
def D1 (K : T1) (g : Env) (h : H) : Prop := nilDs g.ds (vStr (g.v 0) fun s2 => K s2 h)
noncomputable def c1 := cFst code
noncomputable def c2 := cSnd code
noncomputable def c3 := cFst c2
noncomputable def c4 := cSnd c2
abbrev T2 := (Option Addr) → Nat → Nat → H → Prop
abbrev E2 := Held g [(3, .slice x3b x3n x3c)]
def D2 (K : T2) (g : Env) (h : H) : Prop := nilDs g.ds (vSlice (g.v 3) fun s3b s3n s3c => K s3b s3n s3c h)
noncomputable def c5 := cFst c4
noncomputable def c6 := cSnd c4
abbrev n4 (Kn Kr : T0) (h : H) : Prop :=
  SemH Tryz.prog (convert 122 9 (.slice x3b x3n x3c)) h fun v4 h5 => vStr v4 fun s6 => Kr s6 h5
abbrev Q1 (Kn : T2) (Kr : T0) := QX (D2 Kn) (D0 Kr) noX
noncomputable def c7 := cFst c5
noncomputable def c8 := cSnd c5
abbrev T3 := (Option Addr) → Nat → Nat → (Option Addr) → Nat → Nat → Int → Int → H → Prop
abbrev E3 := Held g [(3, .slice x3b x3n x3c), (8, .slice x8b x8n x8c), (9, .int .i64 x9), (10, .int .i64 x10)]
def D3 (K : T3) (g : Env) (h : H) : Prop := nilDs g.ds (vSlice (g.v 3) fun s7b s7n s7c => vSlice (g.v 8) fun s8b s8n s8c => vInt .i64 (g.v 9) fun i9 => vInt .i64 (g.v 10) fun i10 => K s7b s7n s7c s8b s8n s8c i9 i10 h)
noncomputable def c9 := cFst c8
abbrev Q2 (Kn Ke0 : T2) (Kr : T0) := QX (D2 Kn) (D0 Kr) (exX 0 (D2 Ke0) noX)
noncomputable def c10 := cFst c9
abbrev Q3 (Kn : T3) (Ke0 : T2) (Kr : T0) := QX (D3 Kn) (D0 Kr) (exX 0 (D2 Ke0) noX)
def n7_L (Kn Ke0 : T2) (Kr : T0) : Nat → T3
  | 0 => fun _ _ _ _ _ _ _ _ _ => False
  | N + 1 => fun x3b x3n x3c x8b x8n x8c x9 x10 h => Spl (x10 < x9) ((0 ≤ x10 ∧ x10 < (x8n : Int)) ∧ (vSome x8b fun a11 => ∃ i12, cell h (a11.add (Int.toNat x10 * 1)) = some (.int .u8 i12) ∧ (HCalls Tryz.prog 84 ⟨[(.int .u8 i12)]⟩ h fun v13 h14 => vInt .u8 v13 fun i15 => (0 ≤ x10 ∧ x10 < (x3n : Int)) ∧ (vSome x3b fun a16 => stL (a16.add (Int.toNat x10 * 1)) [(.int .u8 i15)] 0 h14 fun h17 => Rng .i64 (x10 + (1 : Int)) ∧ (n7_L Kn Ke0 Kr N x3b x3n x3c x8b x8n x8c x9 (x10 + (1 : Int)) h17))))) (Ke0 x3b x3n x3c h)
abbrev n7 (Kn Ke0 : T2) (Kr : T0) (h : H) : Prop :=
  ∃ N, n7_L Kn Ke0 Kr N x3b x3n x3c x8b x8n x8c x9 x10 h
abbrev n6 (Kn : T2) (Kr : T0) (h : H) : Prop :=
  n7 x3b x3n x3c x8b x8n x8c x9 x10 Kn Kn Kr h
abbrev Q4 (Kn : T3) (Kr : T0) := QX (D3 Kn) (D0 Kr) noX
abbrev n5 (Kn : T2) (Kr : T0) (h : H) : Prop :=
  n6 x3b x3n x3c x3b x3n x3c (x3n : Int) (0 : Int) Kn Kr h
abbrev n3 (Kn Kr : T0) (h : H) : Prop :=
  n5 x3b x3n x3c (fun z3b z3n z3c h => n4 z3b z3n z3c Kn Kr h) Kr h
abbrev n2 (Kn Kr : T0) (h : H) : Prop :=
  SemH Tryz.prog (convert 9 122 (S x0)) h fun v18 h19 => vSlice v18 fun s20b s20n s20c => n3 s20b s20n s20c Kn Kr h19
abbrev Q5 (Kn : T1) (Kr : T0) := QX (D1 Kn) (D0 Kr) noX
abbrev n1 (Kn Kr : T0) (h : H) : Prop :=
  n2 x0 Kn Kr h
variable {g} {h : H} {p : Prop}
variable {x0 x2 x3b x3n x3c x8b x8n x8c x9 x10}
theorem D3_mk {K : T3} (hg : E3 g x3b x3n x3c x8b x8n x8c x9 x10) (hk : K x3b x3n x3c x8b x8n x8c x9 x10 h) : D3 K g h := by
  obtain ⟨e3, e8, e9, e10, d⟩ := hg
  unfold D3
  rw [e3, e8, e9, e10, d]
  exact hk
theorem D0_el {K : T0} (hq : D0 K g h) (f : ∀ {x2}, E0 g x2 → K x2 h → p) : p := nilDs_el hq fun d q => vStr_el q fun _ e2 q => f ⟨e2, d⟩ q
theorem D1_el {K : T1} (hq : D1 K g h) (f : ∀ {x0}, E1 g x0 → K x0 h → p) : p := nilDs_el hq fun d q => vStr_el q fun _ e0 q => f ⟨e0, d⟩ q
theorem D2_el {K : T2} (hq : D2 K g h) (f : ∀ {x3b x3n x3c}, E2 g x3b x3n x3c → K x3b x3n x3c h → p) : p := nilDs_el hq fun d q => vSlice_el q fun _ _ _ e3 q => f ⟨e3, d⟩ q
theorem n4_ok {Kn Kr : T0} (hg : E2 g x3b x3n x3c) (hS : n4 x3b x3n x3c Kn Kr h) : W c6 (Q0 Kn Kr) g h :=
  leafN (by kernel_rfl) (by kernel_rfl) hg hS (by kernel_rfl)
theorem D3_el {K : T3} (hq : D3 K g h) (f : ∀ {x3b x3n x3c x8b x8n x8c x9 x10}, E3 g x3b x3n x3c x8b x8n x8c x9 x10 → K x3b x3n x3c x8b x8n x8c x9 x10 h → p) : p := nilDs_el hq fun d q => vSlice_el q fun _ _ _ e3 q => vSlice_el q fun _ _ _ e8 q => vInt_el q fun _ e9 q => vInt_el q fun _ e10 q => f ⟨e3, e8, e9, e10, d⟩ q
theorem n7_ok {Kn Ke0 : T2} {Kr : T0} (hg : E3 g x3b x3n x3c x8b x8n x8c x9 x10) (hS : n7 x3b x3n x3c x8b x8n x8c x9 x10 Kn Ke0 Kr h) : W c9 (Q2 Kn Ke0 Kr) g h :=
  let ⟨N, hS⟩ := hS
  loopN (x := c10) (I := fun N => D3 (n7_L Kn Ke0 Kr N)) (by kernel_rfl) (fun hq => D3_el hq fun _ hq => hq) (fun hq => D3_el hq fun hg hq => leafN (by kernel_rfl) (by kernel_rfl) hg hq (by kernel_rfl)) N (D3_mk hg hS)
theorem n6_ok {Kn : T2} {Kr : T0} (hg : E3 g x3b x3n x3c x8b x8n x8c x9 x10) (hS : n6 x3b x3n x3c x8b x8n x8c x9 x10 Kn Kr h) : W c8 (Q1 Kn Kr) g h := blockN (by kernel_rfl) (n7_ok hg hS)
theorem n5_ok {Kn : T2} {Kr : T0} (hg : E2 g x3b x3n x3c) (hS : n5 x3b x3n x3c Kn Kr h) : W c5 (Q1 Kn Kr) g h :=
  seqN (x := c7) (N' := D3 (fun z3b z3n z3c z8b z8n z8c z9 z10 h => n6 z3b z3n z3c z8b z8n z8c z9 z10 Kn Kr h)) (by kernel_rfl) (leafN (by kernel_rfl) (by kernel_rfl) hg hS (by kernel_rfl)) fun hq => D3_el hq n6_ok
theorem n3_ok {Kn Kr : T0} (hg : E2 g x3b x3n x3c) (hS : n3 x3b x3n x3c Kn Kr h) : W c4 (Q0 Kn Kr) g h :=
  seqN (by kernel_rfl) (n5_ok hg hS) fun hq => D2_el hq n4_ok
theorem n2_ok {Kn Kr : T0} (hg : E1 g x0) (hS : n2 x0 Kn Kr h) : W c2 (Q0 Kn Kr) g h :=
  seqN (x := c3) (N' := D2 (fun z3b z3n z3c h => n3 z3b z3n z3c Kn Kr h)) (by kernel_rfl) (leafN (by kernel_rfl) (by kernel_rfl) hg hS (by kernel_rfl)) fun hq => D2_el hq n3_ok
theorem n1_ok {Kn Kr : T0} (hg : E1 g x0) (hS : n1 x0 Kn Kr h) : W code (Q0 Kn Kr) g h :=
  seqN (x := c1) (N' := D1 (fun z0 h => n2 z0 Kn Kr h)) (by kernel_rfl) (leafN (by kernel_rfl) (by kernel_rfl) hg hS (by kernel_rfl)) fun hq => D1_el hq n2_ok
/-- WHAT tympan/class.Lower ASKS -/
abbrev asks (x0 : List UInt8) (K : Value → H → Prop) (h : H) : Prop := n1 x0 (fun y2 h => K (S y2) h) (fun y2 h => K (S y2) h) h
theorem ok (x0 : List UInt8) (K : Value → H → Prop) (h : H) (hS : asks x0 K h) : HCalls Tryz.prog 62 ⟨[(S x0)]⟩ h K :=
  callsN (c := code) Tryz.func62 (by kernel_rfl) (by kernel_rfl) (n1_ok ⟨rfl, rfl⟩ hS) fun hq => D0_el hq fun hg hq => retN hg hq (by kernel_rfl)
end Sx.class_Lower

/-! ### tympan/class.small -/
namespace Sx.class_small
noncomputable def code : Code := bodyOf Tryz.f84
abbrev W := wpC none Tryz.prog 12
variable (g : Env) (x0 x2 : Int)
abbrev T0 := Int → H → Prop
abbrev E0 := Held g [(2, .int .u8 x2)]
def D0 (K : T0) (g : Env) (h : H) : Prop := nilDs g.ds (vInt .u8 (g.v 2) fun i1 => K i1 h)
abbrev Q0 (Kn Kr : T0) := QX (D0 Kn) (D0 Kr) noX
abbrev T1 := Int → H → Prop
abbrev E1 := Held g [(0, .int .u8 x0)]
def D1 (K : T1) (g : Env) (h : H) : Prop := nilDs g.ds (vInt .u8 (g.v 0) fun i2 => K i2 h)
abbrev n1 (Kn Kr : T0) (h : H) : Prop :=
  Spl (x0 ≥ (65 : Int)) (Spl (x0 ≤ (90 : Int)) (Kr (bits .or .u8 x0 (32 : Int)) h) (Kr x0 h)) (Kr x0 h)
variable {g} {h : H} {p : Prop}
variable {x0 x2}
theorem D0_el {K : T0} (hq : D0 K g h) (f : ∀ {x2}, E0 g x2 → K x2 h → p) : p := nilDs_el hq fun d q => vInt_el q fun _ e2 q => f ⟨e2, d⟩ q
theorem D1_el {K : T1} (hq : D1 K g h) (f : ∀ {x0}, E1 g x0 → K x0 h → p) : p := nilDs_el hq fun d q => vInt_el q fun _ e0 q => f ⟨e0, d⟩ q
theorem n1_ok {Kn Kr : T0} (hg : E1 g x0) (hS : n1 x0 Kn Kr h) : W code (Q0 Kn Kr) g h :=
  leafN (by kernel_rfl) (by kernel_rfl) hg hS (by kernel_rfl)
/-- WHAT tympan/class.small ASKS -/
abbrev asks (x0 : Int) (K : Value → H → Prop) (h : H) : Prop := n1 x0 (fun y2 h => K (.int .u8 y2) h) (fun y2 h => K (.int .u8 y2) h) h
theorem ok (x0 : Int) (K : Value → H → Prop) (h : H) (hS : asks x0 K h) : HCalls Tryz.prog 84 ⟨[(.int .u8 x0)]⟩ h K :=
  callsN (c := code) Tryz.func84 (by kernel_rfl) (by kernel_rfl) (n1_ok ⟨rfl, rfl⟩ hS) fun hq => D0_el hq fun hg hq => retN hg hq (by kernel_rfl)
end Sx.class_small
end Go.Proofs
