/- The shallow forms of functions, printed by sh.py out of the translation; each with its proof. No condition. -/
import Derived.Test.YtgkaebhnamcfkaaShJ
import Derived.Test.YtgkaebhnamcfkaaProg
namespace Go.Proofs
open Go Go.Sh
set_option linter.unusedVariables false
set_option maxRecDepth 100000

/-! ### tympan/dom.Print -/
namespace Sx.dom_Print
noncomputable def code : Code := bodyOf Try.f32
abbrev T0 := (List UInt8) → H → Prop
def E0 (g : Env) (x2 : List UInt8) : Prop := g.v 2 = (S x2) ∧ g.ds = []
def D0 (K : T0) (g : Env) (h : H) : Prop := nilDs g.ds (vStr (g.v 2) fun s1 => K s1 h)
theorem D0_ok {K : T0} {g : Env} {h : H} (hq : D0 K g h) : ∃ (x2 : List UInt8), E0 g x2 ∧ K x2 h := by
  obtain ⟨hd, hq⟩ := nilDs_ok hq
  obtain ⟨y3, e2, q4⟩ := vStr_ok hq
  exact ⟨y3, ⟨e2, hd⟩, q4⟩
def Q0 (Kn : T0) (Kr : T0) : XPost
  | .normal, g, h => D0 Kn g h
  | .ret, g, h => D0 Kr g h
  | _, _, _ => False
abbrev T1 := (Option Addr) → Nat → Nat → H → Prop
def E1 (g : Env) (x0b : Option Addr) (x0n : Nat) (x0c : Nat) : Prop := g.v 0 = (.slice x0b x0n x0c) ∧ g.ds = []
def D1 (K : T1) (g : Env) (h : H) : Prop := nilDs g.ds (vSlice (g.v 0) fun s5b s5n s5c => K s5b s5n s5c h)
theorem D1_ok {K : T1} {g : Env} {h : H} (hq : D1 K g h) : ∃ (x0b : Option Addr) (x0n : Nat) (x0c : Nat), E1 g x0b x0n x0c ∧ K x0b x0n x0c h := by
  obtain ⟨hd, hq⟩ := nilDs_ok hq
  obtain ⟨y7b, y7n, y7c, e6, q8⟩ := vSlice_ok hq
  exact ⟨y7b, y7n, y7c, ⟨e6, hd⟩, q8⟩
abbrev n1 (x0b : Option Addr) (x0n : Nat) (x0c : Nat) (Kn : T0) (Kr : T0) (h : H) : Prop :=
  newx h ⟨[(.pointer none), (.slice none 0 0)]⟩ 78 fun a9 h10 => newx h10 #[.nilFunc] 84 fun a11 h12 => stL a11 [(.func (.func 57) ⟨[]⟩ ⟨[(.pointer (some a9))]⟩)] 0 h12 fun h13 => SemH Try.prog (Instr.makeMap 85 none) h13 fun v14 h15 => vMap v14 fun m16 => SemU Try.prog (Instr.mapUpdate 85 (.map m16) (.int .u8 (1 : Int)) (S ([115, 118, 103, 32] : List UInt8))) h15 fun h17 => SemU Try.prog (Instr.mapUpdate 85 (.map m16) (.int .u8 (2 : Int)) (S ([109, 97, 116, 104, 32] : List UInt8))) h17 fun h18 => newx h18 #[(.map none)] 85 fun a19 h20 => stL a19 [(.map m16)] 0 h20 fun h21 => newx h21 #[.nilFunc] 86 fun a22 h23 => stL a22 [(.func (.func 60) ⟨[]⟩ ⟨[(.pointer (some a11)), (.pointer (some a19)), (.pointer (some a22))]⟩)] 0 h23 fun h24 => ∃ v25, cell h24 a22 = some v25 ∧ CallV Try.prog 0 v25 ⟨[(.slice x0b x0n x0c), (.int .i64 (0 : Int))]⟩ h24 fun v26 h27 => HCalls Try.prog 61 ⟨[(.pointer (some a9))]⟩ h27 fun v28 h29 => vStr v28 fun s30 => Kr s30 h29
theorem n1_ok (x0b : Option Addr) (x0n : Nat) (x0c : Nat) (Kn : T0) (Kr : T0) (g : Env) (hg : E1 g x0b x0n x0c) (h : H) (hS : n1 x0b x0n x0c Kn Kr h) : wpC none Try.prog 15 code (Q0 Kn Kr) g h := by
  obtain ⟨hg0, hds⟩ := hg
  refine wpC_of_wpx (by kernel_rfl) (by kernel_rfl) (g' := (⟨g.v, []⟩ : Env).upd (some 0) (.slice x0b x0n x0c)) (by rw [env_ds hds, upd_self hg0]) ?_
  have e : (n1 x0b x0n x0c Kn Kr h) = wpx none Try.prog 15 code (Q0 Kn Kr) ((⟨g.v, []⟩ : Env).upd (some 0) (.slice x0b x0n x0c)) h := by kernel_rfl
  exact e ▸ hS
/-- WHAT tympan/dom.Print ASKS -/
abbrev asks (x0b : Option Addr) (x0n : Nat) (x0c : Nat) (K : Value → H → Prop) (h : H) : Prop := n1 x0b x0n x0c (fun y2 h => K (S y2) h) (fun y2 h => K (S y2) h) h
theorem ok (x0b : Option Addr) (x0n : Nat) (x0c : Nat) (K : Value → H → Prop) (h : H) (hS : asks x0b x0n x0c K h) : HCalls Try.prog 32 ⟨[(.slice x0b x0n x0c)]⟩ h K := by
  refine calls_of_wpC (c := code) Try.func32 (by kernel_rfl) (Nat.le_of_ble_eq_true (by kernel_rfl)) ?_
  refine (n1_ok x0b x0n x0c (fun y2 h => K (S y2) h) (fun y2 h => K (S y2) h) (env0 [(.slice x0b x0n x0c)]) ⟨rfl, rfl⟩ h hS).mono ?_
  intro e g' h' hq
  cases e with
  | normal =>
    have hq : D0 (fun y2 h => K (S y2) h) g' h' := hq
    obtain ⟨y2, ⟨hg2, hd⟩, hq⟩ := D0_ok hq
    show leaveX g'.ds h' _
    rw [hd]
    show K (g'.v 2) h'
    rw [hg2]
    exact hq
  | ret =>
    have hq : D0 (fun y2 h => K (S y2) h) g' h' := hq
    obtain ⟨y2, ⟨hg2, hd⟩, hq⟩ := D0_ok hq
    show leaveX g'.ds h' _
    rw [hd]
    show K (g'.v 2) h'
    rw [hg2]
    exact hq
  | _ => exact hq
end Sx.dom_Print

/-! ### tympan/dom.Print$1 -/
namespace Sx.dom_Print_1
noncomputable def code : Code := bodyOf Try.f57
abbrev T0 := H → Prop
def E0 (g : Env)  : Prop := g.ds = []
def D0 (K : T0) (g : Env) (h : H) : Prop := nilDs g.ds (K h)
theorem D0_ok {K : T0} {g : Env} {h : H} (hq : D0 K g h) : E0 g  ∧ K  h := by
  obtain ⟨hd, hq⟩ := nilDs_ok hq
  skip
  exact ⟨hd, hq⟩
def Q0 (Kn : T0) (Kr : T0) : XPost
  | .normal, g, h => D0 Kn g h
  | .ret, g, h => D0 Kr g h
  | _, _, _ => False
abbrev T1 := Int → (List UInt8) → Value → H → Prop
def E1 (g : Env) (x0 : Int) (x1 : List UInt8) (x2 : Value) : Prop := g.v 0 = (.int .i64 x0) ∧ g.v 1 = (S x1) ∧ g.v 2 = x2 ∧ g.ds = []
def D1 (K : T1) (g : Env) (h : H) : Prop := nilDs g.ds (vInt .i64 (g.v 0) fun i1 => vStr (g.v 1) fun s2 => K i1 s2 (g.v 2) h)
theorem D1_ok {K : T1} {g : Env} {h : H} (hq : D1 K g h) : ∃ (x0 : Int) (x1 : List UInt8) (x2 : Value), E1 g x0 x1 x2 ∧ K x0 x1 x2 h := by
  obtain ⟨hd, hq⟩ := nilDs_ok hq
  obtain ⟨y4, e3, q5⟩ := vInt_ok hq
  obtain ⟨y7, e6, q8⟩ := vStr_ok q5
  exact ⟨y4, y7, (g.v 2), ⟨e3, e6, rfl, hd⟩, q8⟩
abbrev n1 (x0 : Int) (x1 : List UInt8) (x2 : Value) (Kn : T0) (Kr : T0) (h : H) : Prop :=
  HCalls Try.prog 59 ⟨[(S ([32, 32] : List UInt8)), (.int .i64 x0)]⟩ h fun v9 h10 => vStr v9 fun s11 => ((s11.length + x1.length : Nat) : Int) ≤ 9223372036854775807 ∧ ((((s11 ++ x1).length + ([10] : List UInt8).length : Nat) : Int) ≤ 9223372036854775807 ∧ (HCalls Try.prog 58 ⟨[x2, (S ((s11 ++ x1) ++ ([10] : List UInt8)))]⟩ h10 fun v12 h13 => vTup v12 fun l14 => uncons l14 fun e15 l16 => vInt .i64 e15 fun i17 => uncons l16 fun e18 l19 => unnil l19 (Kn h13)))
theorem n1_ok (x0 : Int) (x1 : List UInt8) (x2 : Value) (Kn : T0) (Kr : T0) (g : Env) (hg : E1 g x0 x1 x2) (h : H) (hS : n1 x0 x1 x2 Kn Kr h) : wpC none Try.prog 11 code (Q0 Kn Kr) g h := by
  obtain ⟨hg0, hg1, hg2, hds⟩ := hg
  refine wpC_of_wpx (by kernel_rfl) (by kernel_rfl) (g' := (((⟨g.v, []⟩ : Env).upd (some 0) (.int .i64 x0)).upd (some 1) (S x1)).upd (some 2) x2) (by rw [env_ds hds, upd_self hg0, upd_self hg1, upd_self hg2]) ?_
  have e : (n1 x0 x1 x2 Kn Kr h) = wpx none Try.prog 11 code (Q0 Kn Kr) ((((⟨g.v, []⟩ : Env).upd (some 0) (.int .i64 x0)).upd (some 1) (S x1)).upd (some 2) x2) h := by kernel_rfl
  exact e ▸ hS
/-- WHAT tympan/dom.Print$1 ASKS -/
abbrev asks (x0 : Int) (x1 : List UInt8) (x2 : Value) (K : Value → H → Prop) (h : H) : Prop := n1 x0 x1 x2 (fun h => K (.tuple ⟨[]⟩) h) (fun h => K (.tuple ⟨[]⟩) h) h
theorem ok (x0 : Int) (x1 : List UInt8) (x2 : Value) (K : Value → H → Prop) (h : H) (hS : asks x0 x1 x2 K h) : HCalls Try.prog 57 ⟨[(.int .i64 x0), (S x1), x2]⟩ h K := by
  refine calls_of_wpC (c := code) Try.func57 (by kernel_rfl) (Nat.le_of_ble_eq_true (by kernel_rfl)) ?_
  refine (n1_ok x0 x1 x2 (fun h => K (.tuple ⟨[]⟩) h) (fun h => K (.tuple ⟨[]⟩) h) (env0 [(.int .i64 x0), (S x1), x2]) ⟨rfl, rfl, rfl, rfl⟩ h hS).mono ?_
  intro e g' h' hq
  cases e with
  | normal =>
    have hq : D0 (fun h => K (.tuple ⟨[]⟩) h) g' h' := hq
    obtain ⟨hd, hq⟩ := D0_ok hq
    show leaveX g'.ds h' _
    rw [hd]
    show K (.tuple ⟨[]⟩) h'
    exact hq
  | ret =>
    have hq : D0 (fun h => K (.tuple ⟨[]⟩) h) g' h' := hq
    obtain ⟨hd, hq⟩ := D0_ok hq
    show leaveX g'.ds h' _
    rw [hd]
    show K (.tuple ⟨[]⟩) h'
    exact hq
  | _ => exact hq
end Sx.dom_Print_1

/-! ### tympan/dom.Print$2 -/
namespace Sx.dom_Print_2
noncomputable def code : Code := bodyOf Try.f60
abbrev T0 := H → Prop
def E0 (g : Env)  : Prop := g.ds = []
def D0 (K : T0) (g : Env) (h : H) : Prop := nilDs g.ds (K h)
theorem D0_ok {K : T0} {g : Env} {h : H} (hq : D0 K g h) : E0 g  ∧ K  h := by
  obtain ⟨hd, hq⟩ := nilDs_ok hq
  skip
  exact ⟨hd, hq⟩
def Q0 (Kn : T0) (Kr : T0) : XPost
  | .normal, g, h => D0 Kn g h
  | .ret, g, h => D0 Kr g h
  | _, _, _ => False
abbrev T1 := (Option Addr) → Nat → Nat → Int → Addr → Addr → Addr → H → Prop
def E1 (g : Env) (x0b : Option Addr) (x0n : Nat) (x0c : Nat) (x1 : Int) (x2 : Addr) (x3 : Addr) (x4 : Addr) : Prop := g.v 0 = (.slice x0b x0n x0c) ∧ g.v 1 = (.int .i64 x1) ∧ g.v 2 = (.pointer (some x2)) ∧ g.v 3 = (.pointer (some x3)) ∧ g.v 4 = (.pointer (some x4)) ∧ g.ds = []
def D1 (K : T1) (g : Env) (h : H) : Prop := nilDs g.ds (vSlice (g.v 0) fun s1b s1n s1c => vInt .i64 (g.v 1) fun i2 => vAddr (g.v 2) fun a3 => vAddr (g.v 3) fun a4 => vAddr (g.v 4) fun a5 => K s1b s1n s1c i2 a3 a4 a5 h)
theorem D1_ok {K : T1} {g : Env} {h : H} (hq : D1 K g h) : ∃ (x0b : Option Addr) (x0n : Nat) (x0c : Nat) (x1 : Int) (x2 : Addr) (x3 : Addr) (x4 : Addr), E1 g x0b x0n x0c x1 x2 x3 x4 ∧ K x0b x0n x0c x1 x2 x3 x4 h := by
  obtain ⟨hd, hq⟩ := nilDs_ok hq
  obtain ⟨y7b, y7n, y7c, e6, q8⟩ := vSlice_ok hq
  obtain ⟨y10, e9, q11⟩ := vInt_ok q8
  obtain ⟨y13, e12, q14⟩ := vAddr_ok q11
  obtain ⟨y16, e15, q17⟩ := vAddr_ok q14
  obtain ⟨y19, e18, q20⟩ := vAddr_ok q17
  exact ⟨y7b, y7n, y7c, y10, y13, y16, y19, ⟨e6, e9, e12, e15, e18, hd⟩, q20⟩
noncomputable def n1_c1 : Code := cFst code
noncomputable def n1_c2 : Code := cSnd code
abbrev T2 := Int → Addr → Addr → Addr → (Option Addr) → Nat → Nat → Int → Int → H → Prop
def E2 (g : Env) (x1 : Int) (x2 : Addr) (x3 : Addr) (x4 : Addr) (x11b : Option Addr) (x11n : Nat) (x11c : Nat) (x12 : Int) (x13 : Int) : Prop := g.v 1 = (.int .i64 x1) ∧ g.v 2 = (.pointer (some x2)) ∧ g.v 3 = (.pointer (some x3)) ∧ g.v 4 = (.pointer (some x4)) ∧ g.v 11 = (.slice x11b x11n x11c) ∧ g.v 12 = (.int .i64 x12) ∧ g.v 13 = (.int .i64 x13) ∧ g.ds = []
def D2 (K : T2) (g : Env) (h : H) : Prop := nilDs g.ds (vInt .i64 (g.v 1) fun i21 => vAddr (g.v 2) fun a22 => vAddr (g.v 3) fun a23 => vAddr (g.v 4) fun a24 => vSlice (g.v 11) fun s25b s25n s25c => vInt .i64 (g.v 12) fun i26 => vInt .i64 (g.v 13) fun i27 => K i21 a22 a23 a24 s25b s25n s25c i26 i27 h)
theorem D2_ok {K : T2} {g : Env} {h : H} (hq : D2 K g h) : ∃ (x1 : Int) (x2 : Addr) (x3 : Addr) (x4 : Addr) (x11b : Option Addr) (x11n : Nat) (x11c : Nat) (x12 : Int) (x13 : Int), E2 g x1 x2 x3 x4 x11b x11n x11c x12 x13 ∧ K x1 x2 x3 x4 x11b x11n x11c x12 x13 h := by
  obtain ⟨hd, hq⟩ := nilDs_ok hq
  obtain ⟨y29, e28, q30⟩ := vInt_ok hq
  obtain ⟨y32, e31, q33⟩ := vAddr_ok q30
  obtain ⟨y35, e34, q36⟩ := vAddr_ok q33
  obtain ⟨y38, e37, q39⟩ := vAddr_ok q36
  obtain ⟨y41b, y41n, y41c, e40, q42⟩ := vSlice_ok q39
  obtain ⟨y44, e43, q45⟩ := vInt_ok q42
  obtain ⟨y47, e46, q48⟩ := vInt_ok q45
  exact ⟨y29, y32, y35, y38, y41b, y41n, y41c, y44, y47, ⟨e28, e31, e34, e37, e40, e43, e46, hd⟩, q48⟩
noncomputable def n2_c1 : Code := cFst n1_c2
def Q1 (Kn : T0) (Ke0 : T0) (Kr : T0) : XPost
  | .normal, g, h => D0 Kn g h
  | .ret, g, h => D0 Kr g h
  | .exit id, g, h => cond (Nat.beq id 0) (D0 Ke0 g h) (False)
  | _, _, _ => False
noncomputable def n3_c1 : Code := cFst n2_c1
def Q2 (Kn : T2) (Ke0 : T0) (Kr : T0) : XPost
  | .normal, g, h => D2 Kn g h
  | .ret, g, h => D0 Kr g h
  | .exit id, g, h => cond (Nat.beq id 0) (D0 Ke0 g h) (False)
  | _, _, _ => False
noncomputable def n4_c1 : Code := cFst n3_c1
noncomputable def n4_c2 : Code := cSnd n3_c1
abbrev T3 := Int → Addr → Addr → Addr → (Option Addr) → Nat → Nat → Int → Int → Value → H → Prop
def E3 (g : Env) (x1 : Int) (x2 : Addr) (x3 : Addr) (x4 : Addr) (x11b : Option Addr) (x11n : Nat) (x11c : Nat) (x12 : Int) (x13 : Int) (x14 : Value) : Prop := g.v 1 = (.int .i64 x1) ∧ g.v 2 = (.pointer (some x2)) ∧ g.v 3 = (.pointer (some x3)) ∧ g.v 4 = (.pointer (some x4)) ∧ g.v 11 = (.slice x11b x11n x11c) ∧ g.v 12 = (.int .i64 x12) ∧ g.v 13 = (.int .i64 x13) ∧ g.v 14 = x14 ∧ g.ds = []
def D3 (K : T3) (g : Env) (h : H) : Prop := nilDs g.ds (vInt .i64 (g.v 1) fun i49 => vAddr (g.v 2) fun a50 => vAddr (g.v 3) fun a51 => vAddr (g.v 4) fun a52 => vSlice (g.v 11) fun s53b s53n s53c => vInt .i64 (g.v 12) fun i54 => vInt .i64 (g.v 13) fun i55 => K i49 a50 a51 a52 s53b s53n s53c i54 i55 (g.v 14) h)
theorem D3_ok {K : T3} {g : Env} {h : H} (hq : D3 K g h) : ∃ (x1 : Int) (x2 : Addr) (x3 : Addr) (x4 : Addr) (x11b : Option Addr) (x11n : Nat) (x11c : Nat) (x12 : Int) (x13 : Int) (x14 : Value), E3 g x1 x2 x3 x4 x11b x11n x11c x12 x13 x14 ∧ K x1 x2 x3 x4 x11b x11n x11c x12 x13 x14 h := by
  obtain ⟨hd, hq⟩ := nilDs_ok hq
  obtain ⟨y57, e56, q58⟩ := vInt_ok hq
  obtain ⟨y60, e59, q61⟩ := vAddr_ok q58
  obtain ⟨y63, e62, q64⟩ := vAddr_ok q61
  obtain ⟨y66, e65, q67⟩ := vAddr_ok q64
  obtain ⟨y69b, y69n, y69c, e68, q70⟩ := vSlice_ok q67
  obtain ⟨y72, e71, q73⟩ := vInt_ok q70
  obtain ⟨y75, e74, q76⟩ := vInt_ok q73
  exact ⟨y57, y60, y63, y66, y69b, y69n, y69c, y72, y75, (g.v 14), ⟨e56, e59, e62, e65, e68, e71, e74, rfl, hd⟩, q76⟩
noncomputable def n5_c1 : Code := cFst n4_c2
noncomputable def n5_c2 : Code := cSnd n4_c2
noncomputable def n6_c1 : Code := cFst n5_c2
noncomputable def n6_c2 : Code := cSnd n5_c2
abbrev n7 (x1 : Int) (x2 : Addr) (x3 : Addr) (x4 : Addr) (x11b : Option Addr) (x11n : Nat) (x11c : Nat) (x12 : Int) (x13 : Int) (Kn : T2) (Ke0 : T0) (Kr : T0) (h : H) : Prop :=
  Rng .i64 (x13 + (1 : Int)) ∧ (Kn x1 x2 x3 x4 x11b x11n x11c x12 (x13 + (1 : Int)) h)
theorem n7_ok (x1 : Int) (x2 : Addr) (x3 : Addr) (x4 : Addr) (x11b : Option Addr) (x11n : Nat) (x11c : Nat) (x12 : Int) (x13 : Int) (Kn : T2) (Ke0 : T0) (Kr : T0) (g : Env) (hg : E2 g x1 x2 x3 x4 x11b x11n x11c x12 x13) (h : H) (hS : n7 x1 x2 x3 x4 x11b x11n x11c x12 x13 Kn Ke0 Kr h) : wpC none Try.prog 77 n6_c2 (Q2 Kn Ke0 Kr) g h := by
  obtain ⟨hg1, hg2, hg3, hg4, hg11, hg12, hg13, hds⟩ := hg
  refine wpC_of_wpx (by kernel_rfl) (by kernel_rfl) (g' := (((((((⟨g.v, []⟩ : Env).upd (some 1) (.int .i64 x1)).upd (some 2) (.pointer (some x2))).upd (some 3) (.pointer (some x3))).upd (some 4) (.pointer (some x4))).upd (some 11) (.slice x11b x11n x11c)).upd (some 12) (.int .i64 x12)).upd (some 13) (.int .i64 x13)) (by rw [env_ds hds, upd_self hg1, upd_self hg2, upd_self hg3, upd_self hg4, upd_self hg11, upd_self hg12, upd_self hg13]) ?_
  have e : (n7 x1 x2 x3 x4 x11b x11n x11c x12 x13 Kn Ke0 Kr h) = wpx none Try.prog 77 n6_c2 (Q2 Kn Ke0 Kr) ((((((((⟨g.v, []⟩ : Env).upd (some 1) (.int .i64 x1)).upd (some 2) (.pointer (some x2))).upd (some 3) (.pointer (some x3))).upd (some 4) (.pointer (some x4))).upd (some 11) (.slice x11b x11n x11c)).upd (some 12) (.int .i64 x12)).upd (some 13) (.int .i64 x13)) h := by kernel_rfl
  exact e ▸ hS
noncomputable def n8_c1 : Code := cFst n6_c1
def Q3 (Kn : T2) (Ke1 : T2) (Ke0 : T0) (Kr : T0) : XPost
  | .normal, g, h => D2 Kn g h
  | .ret, g, h => D0 Kr g h
  | .exit id, g, h => cond (Nat.beq id 1) (D2 Ke1 g h) (cond (Nat.beq id 0) (D0 Ke0 g h) (False))
  | _, _, _ => False
noncomputable def n9_c1 : Code := cFst n8_c1
noncomputable def n9_c2 : Code := cSnd n8_c1
abbrev T4 := Int → Addr → Addr → Addr → Addr → (Option Addr) → Nat → Nat → Int → Int → H → Prop
def E4 (g : Env) (x1 : Int) (x2 : Addr) (x3 : Addr) (x4 : Addr) (x8 : Addr) (x11b : Option Addr) (x11n : Nat) (x11c : Nat) (x12 : Int) (x13 : Int) : Prop := g.v 1 = (.int .i64 x1) ∧ g.v 2 = (.pointer (some x2)) ∧ g.v 3 = (.pointer (some x3)) ∧ g.v 4 = (.pointer (some x4)) ∧ g.v 8 = (.pointer (some x8)) ∧ g.v 11 = (.slice x11b x11n x11c) ∧ g.v 12 = (.int .i64 x12) ∧ g.v 13 = (.int .i64 x13) ∧ g.ds = []
def D4 (K : T4) (g : Env) (h : H) : Prop := nilDs g.ds (vInt .i64 (g.v 1) fun i77 => vAddr (g.v 2) fun a78 => vAddr (g.v 3) fun a79 => vAddr (g.v 4) fun a80 => vAddr (g.v 8) fun a81 => vSlice (g.v 11) fun s82b s82n s82c => vInt .i64 (g.v 12) fun i83 => vInt .i64 (g.v 13) fun i84 => K i77 a78 a79 a80 a81 s82b s82n s82c i83 i84 h)
theorem D4_ok {K : T4} {g : Env} {h : H} (hq : D4 K g h) : ∃ (x1 : Int) (x2 : Addr) (x3 : Addr) (x4 : Addr) (x8 : Addr) (x11b : Option Addr) (x11n : Nat) (x11c : Nat) (x12 : Int) (x13 : Int), E4 g x1 x2 x3 x4 x8 x11b x11n x11c x12 x13 ∧ K x1 x2 x3 x4 x8 x11b x11n x11c x12 x13 h := by
  obtain ⟨hd, hq⟩ := nilDs_ok hq
  obtain ⟨y86, e85, q87⟩ := vInt_ok hq
  obtain ⟨y89, e88, q90⟩ := vAddr_ok q87
  obtain ⟨y92, e91, q93⟩ := vAddr_ok q90
  obtain ⟨y95, e94, q96⟩ := vAddr_ok q93
  obtain ⟨y98, e97, q99⟩ := vAddr_ok q96
  obtain ⟨y101b, y101n, y101c, e100, q102⟩ := vSlice_ok q99
  obtain ⟨y104, e103, q105⟩ := vInt_ok q102
  obtain ⟨y107, e106, q108⟩ := vInt_ok q105
  exact ⟨y86, y89, y92, y95, y98, y101b, y101n, y101c, y104, y107, ⟨e85, e88, e91, e94, e97, e100, e103, e106, hd⟩, q108⟩
noncomputable def n10_c1 : Code := cFst n9_c2
noncomputable def n10_c2 : Code := cSnd n9_c2
abbrev T5 := Int → Addr → Addr → Addr → Addr → (Option Addr) → Nat → Nat → Int → Int → Int → H → Prop
def E5 (g : Env) (x1 : Int) (x2 : Addr) (x3 : Addr) (x4 : Addr) (x8 : Addr) (x11b : Option Addr) (x11n : Nat) (x11c : Nat) (x12 : Int) (x13 : Int) (x18 : Int) : Prop := g.v 1 = (.int .i64 x1) ∧ g.v 2 = (.pointer (some x2)) ∧ g.v 3 = (.pointer (some x3)) ∧ g.v 4 = (.pointer (some x4)) ∧ g.v 8 = (.pointer (some x8)) ∧ g.v 11 = (.slice x11b x11n x11c) ∧ g.v 12 = (.int .i64 x12) ∧ g.v 13 = (.int .i64 x13) ∧ g.v 18 = (.int .u8 x18) ∧ g.ds = []
def D5 (K : T5) (g : Env) (h : H) : Prop := nilDs g.ds (vInt .i64 (g.v 1) fun i109 => vAddr (g.v 2) fun a110 => vAddr (g.v 3) fun a111 => vAddr (g.v 4) fun a112 => vAddr (g.v 8) fun a113 => vSlice (g.v 11) fun s114b s114n s114c => vInt .i64 (g.v 12) fun i115 => vInt .i64 (g.v 13) fun i116 => vInt .u8 (g.v 18) fun i117 => K i109 a110 a111 a112 a113 s114b s114n s114c i115 i116 i117 h)
theorem D5_ok {K : T5} {g : Env} {h : H} (hq : D5 K g h) : ∃ (x1 : Int) (x2 : Addr) (x3 : Addr) (x4 : Addr) (x8 : Addr) (x11b : Option Addr) (x11n : Nat) (x11c : Nat) (x12 : Int) (x13 : Int) (x18 : Int), E5 g x1 x2 x3 x4 x8 x11b x11n x11c x12 x13 x18 ∧ K x1 x2 x3 x4 x8 x11b x11n x11c x12 x13 x18 h := by
  obtain ⟨hd, hq⟩ := nilDs_ok hq
  obtain ⟨y119, e118, q120⟩ := vInt_ok hq
  obtain ⟨y122, e121, q123⟩ := vAddr_ok q120
  obtain ⟨y125, e124, q126⟩ := vAddr_ok q123
  obtain ⟨y128, e127, q129⟩ := vAddr_ok q126
  obtain ⟨y131, e130, q132⟩ := vAddr_ok q129
  obtain ⟨y134b, y134n, y134c, e133, q135⟩ := vSlice_ok q132
  obtain ⟨y137, e136, q138⟩ := vInt_ok q135
  obtain ⟨y140, e139, q141⟩ := vInt_ok q138
  obtain ⟨y143, e142, q144⟩ := vInt_ok q141
  exact ⟨y119, y122, y125, y128, y131, y134b, y134n, y134c, y137, y140, y143, ⟨e118, e121, e124, e127, e130, e133, e136, e139, e142, hd⟩, q144⟩
noncomputable def n11_c1 : Code := cFst n10_c2
def Q4 (Kn : T2) (Ke2 : T2) (Ke1 : T2) (Ke0 : T0) (Kr : T0) : XPost
  | .normal, g, h => D2 Kn g h
  | .ret, g, h => D0 Kr g h
  | .exit id, g, h => cond (Nat.beq id 2) (D2 Ke2 g h) (cond (Nat.beq id 1) (D2 Ke1 g h) (cond (Nat.beq id 0) (D0 Ke0 g h) (False)))
  | _, _, _ => False
noncomputable def n12_c1 : Code := cFst n11_c1
noncomputable def n12_c2 : Code := cSnd n11_c1
abbrev T6 := Int → Addr → Addr → Addr → Addr → (Option Addr) → Nat → Nat → Int → Int → Int → Bool → H → Prop
def E6 (g : Env) (x1 : Int) (x2 : Addr) (x3 : Addr) (x4 : Addr) (x8 : Addr) (x11b : Option Addr) (x11n : Nat) (x11c : Nat) (x12 : Int) (x13 : Int) (x18 : Int) (x19 : Bool) : Prop := g.v 1 = (.int .i64 x1) ∧ g.v 2 = (.pointer (some x2)) ∧ g.v 3 = (.pointer (some x3)) ∧ g.v 4 = (.pointer (some x4)) ∧ g.v 8 = (.pointer (some x8)) ∧ g.v 11 = (.slice x11b x11n x11c) ∧ g.v 12 = (.int .i64 x12) ∧ g.v 13 = (.int .i64 x13) ∧ g.v 18 = (.int .u8 x18) ∧ g.v 19 = (.bool x19) ∧ g.ds = []
def D6 (K : T6) (g : Env) (h : H) : Prop := nilDs g.ds (vInt .i64 (g.v 1) fun i145 => vAddr (g.v 2) fun a146 => vAddr (g.v 3) fun a147 => vAddr (g.v 4) fun a148 => vAddr (g.v 8) fun a149 => vSlice (g.v 11) fun s150b s150n s150c => vInt .i64 (g.v 12) fun i151 => vInt .i64 (g.v 13) fun i152 => vInt .u8 (g.v 18) fun i153 => vBool (g.v 19) fun b154 => K i145 a146 a147 a148 a149 s150b s150n s150c i151 i152 i153 b154 h)
theorem D6_ok {K : T6} {g : Env} {h : H} (hq : D6 K g h) : ∃ (x1 : Int) (x2 : Addr) (x3 : Addr) (x4 : Addr) (x8 : Addr) (x11b : Option Addr) (x11n : Nat) (x11c : Nat) (x12 : Int) (x13 : Int) (x18 : Int) (x19 : Bool), E6 g x1 x2 x3 x4 x8 x11b x11n x11c x12 x13 x18 x19 ∧ K x1 x2 x3 x4 x8 x11b x11n x11c x12 x13 x18 x19 h := by
  obtain ⟨hd, hq⟩ := nilDs_ok hq
  obtain ⟨y156, e155, q157⟩ := vInt_ok hq
  obtain ⟨y159, e158, q160⟩ := vAddr_ok q157
  obtain ⟨y162, e161, q163⟩ := vAddr_ok q160
  obtain ⟨y165, e164, q166⟩ := vAddr_ok q163
  obtain ⟨y168, e167, q169⟩ := vAddr_ok q166
  obtain ⟨y171b, y171n, y171c, e170, q172⟩ := vSlice_ok q169
  obtain ⟨y174, e173, q175⟩ := vInt_ok q172
  obtain ⟨y177, e176, q178⟩ := vInt_ok q175
  obtain ⟨y180, e179, q181⟩ := vInt_ok q178
  obtain ⟨y183, e182, q184⟩ := vBool_ok q181
  exact ⟨y156, y159, y162, y165, y168, y171b, y171n, y171c, y174, y177, y180, y183, ⟨e155, e158, e161, e164, e167, e170, e173, e176, e179, e182, hd⟩, q184⟩
noncomputable def n13_c1 : Code := cFst n12_c2
noncomputable def n13_c2 : Code := cSnd n12_c2
abbrev n14 (x1 : Int) (x2 : Addr) (x3 : Addr) (x4 : Addr) (x8 : Addr) (x11b : Option Addr) (x11n : Nat) (x11c : Nat) (x12 : Int) (x13 : Int) (Kn : T2) (Ke2 : T2) (Ke1 : T2) (Ke0 : T0) (Kr : T0) (h : H) : Prop :=
  ∃ v185, cell h x2 = some v185 ∧ ∃ s186, cell h (x8.add 4) = some (S s186) ∧ (((([34] : List UInt8).length + s186.length : Nat) : Int) ≤ 9223372036854775807 ∧ ((((([34] : List UInt8) ++ s186).length + ([34] : List UInt8).length : Nat) : Int) ≤ 9223372036854775807 ∧ (CallV Try.prog 0 v185 ⟨[(.int .i64 x1), (S ((([34] : List UInt8) ++ s186) ++ ([34] : List UInt8)))]⟩ h fun v187 h188 => Kn x1 x2 x3 x4 x11b x11n x11c x12 x13 h188)))
theorem n14_ok (x1 : Int) (x2 : Addr) (x3 : Addr) (x4 : Addr) (x8 : Addr) (x11b : Option Addr) (x11n : Nat) (x11c : Nat) (x12 : Int) (x13 : Int) (Kn : T2) (Ke2 : T2) (Ke1 : T2) (Ke0 : T0) (Kr : T0) (g : Env) (hg : E4 g x1 x2 x3 x4 x8 x11b x11n x11c x12 x13) (h : H) (hS : n14 x1 x2 x3 x4 x8 x11b x11n x11c x12 x13 Kn Ke2 Ke1 Ke0 Kr h) : wpC none Try.prog 77 n13_c1 (Q4 Kn Ke2 Ke1 Ke0 Kr) g h := by
  obtain ⟨hg1, hg2, hg3, hg4, hg8, hg11, hg12, hg13, hds⟩ := hg
  refine wpC_of_wpx (by kernel_rfl) (by kernel_rfl) (g' := ((((((((⟨g.v, []⟩ : Env).upd (some 1) (.int .i64 x1)).upd (some 2) (.pointer (some x2))).upd (some 3) (.pointer (some x3))).upd (some 4) (.pointer (some x4))).upd (some 8) (.pointer (some x8))).upd (some 11) (.slice x11b x11n x11c)).upd (some 12) (.int .i64 x12)).upd (some 13) (.int .i64 x13)) (by rw [env_ds hds, upd_self hg1, upd_self hg2, upd_self hg3, upd_self hg4, upd_self hg8, upd_self hg11, upd_self hg12, upd_self hg13]) ?_
  have e : (n14 x1 x2 x3 x4 x8 x11b x11n x11c x12 x13 Kn Ke2 Ke1 Ke0 Kr h) = wpx none Try.prog 77 n13_c1 (Q4 Kn Ke2 Ke1 Ke0 Kr) (((((((((⟨g.v, []⟩ : Env).upd (some 1) (.int .i64 x1)).upd (some 2) (.pointer (some x2))).upd (some 3) (.pointer (some x3))).upd (some 4) (.pointer (some x4))).upd (some 8) (.pointer (some x8))).upd (some 11) (.slice x11b x11n x11c)).upd (some 12) (.int .i64 x12)).upd (some 13) (.int .i64 x13)) h := by kernel_rfl
  exact e ▸ hS
noncomputable def n15_c1 : Code := cFst n13_c2
noncomputable def n15_c2 : Code := cSnd n13_c2
abbrev T7 := Int → Addr → Addr → Addr → Addr → (Option Addr) → Nat → Nat → Int → Int → Int → Bool → H → Prop
def E7 (g : Env) (x1 : Int) (x2 : Addr) (x3 : Addr) (x4 : Addr) (x8 : Addr) (x11b : Option Addr) (x11n : Nat) (x11c : Nat) (x12 : Int) (x13 : Int) (x18 : Int) (x28 : Bool) : Prop := g.v 1 = (.int .i64 x1) ∧ g.v 2 = (.pointer (some x2)) ∧ g.v 3 = (.pointer (some x3)) ∧ g.v 4 = (.pointer (some x4)) ∧ g.v 8 = (.pointer (some x8)) ∧ g.v 11 = (.slice x11b x11n x11c) ∧ g.v 12 = (.int .i64 x12) ∧ g.v 13 = (.int .i64 x13) ∧ g.v 18 = (.int .u8 x18) ∧ g.v 28 = (.bool x28) ∧ g.ds = []
def D7 (K : T7) (g : Env) (h : H) : Prop := nilDs g.ds (vInt .i64 (g.v 1) fun i189 => vAddr (g.v 2) fun a190 => vAddr (g.v 3) fun a191 => vAddr (g.v 4) fun a192 => vAddr (g.v 8) fun a193 => vSlice (g.v 11) fun s194b s194n s194c => vInt .i64 (g.v 12) fun i195 => vInt .i64 (g.v 13) fun i196 => vInt .u8 (g.v 18) fun i197 => vBool (g.v 28) fun b198 => K i189 a190 a191 a192 a193 s194b s194n s194c i195 i196 i197 b198 h)
theorem D7_ok {K : T7} {g : Env} {h : H} (hq : D7 K g h) : ∃ (x1 : Int) (x2 : Addr) (x3 : Addr) (x4 : Addr) (x8 : Addr) (x11b : Option Addr) (x11n : Nat) (x11c : Nat) (x12 : Int) (x13 : Int) (x18 : Int) (x28 : Bool), E7 g x1 x2 x3 x4 x8 x11b x11n x11c x12 x13 x18 x28 ∧ K x1 x2 x3 x4 x8 x11b x11n x11c x12 x13 x18 x28 h := by
  obtain ⟨hd, hq⟩ := nilDs_ok hq
  obtain ⟨y200, e199, q201⟩ := vInt_ok hq
  obtain ⟨y203, e202, q204⟩ := vAddr_ok q201
  obtain ⟨y206, e205, q207⟩ := vAddr_ok q204
  obtain ⟨y209, e208, q210⟩ := vAddr_ok q207
  obtain ⟨y212, e211, q213⟩ := vAddr_ok q210
  obtain ⟨y215b, y215n, y215c, e214, q216⟩ := vSlice_ok q213
  obtain ⟨y218, e217, q219⟩ := vInt_ok q216
  obtain ⟨y221, e220, q222⟩ := vInt_ok q219
  obtain ⟨y224, e223, q225⟩ := vInt_ok q222
  obtain ⟨y227, e226, q228⟩ := vBool_ok q225
  exact ⟨y200, y203, y206, y209, y212, y215b, y215n, y215c, y218, y221, y224, y227, ⟨e199, e202, e205, e208, e211, e214, e217, e220, e223, e226, hd⟩, q228⟩
noncomputable def n16_c1 : Code := cFst n15_c2
noncomputable def n16_c2 : Code := cSnd n15_c2
abbrev n17 (x1 : Int) (x2 : Addr) (x3 : Addr) (x4 : Addr) (x8 : Addr) (x11b : Option Addr) (x11n : Nat) (x11c : Nat) (x12 : Int) (x13 : Int) (Kn : T2) (Ke2 : T2) (Ke1 : T2) (Ke0 : T0) (Kr : T0) (h : H) : Prop :=
  ∃ v229, cell h x2 = some v229 ∧ ∃ s230, cell h (x8.add 4) = some (S s230) ∧ (((([60, 33, 45, 45, 32] : List UInt8).length + s230.length : Nat) : Int) ≤ 9223372036854775807 ∧ ((((([60, 33, 45, 45, 32] : List UInt8) ++ s230).length + ([32, 45, 45, 62] : List UInt8).length : Nat) : Int) ≤ 9223372036854775807 ∧ (CallV Try.prog 0 v229 ⟨[(.int .i64 x1), (S ((([60, 33, 45, 45, 32] : List UInt8) ++ s230) ++ ([32, 45, 45, 62] : List UInt8)))]⟩ h fun v231 h232 => Kn x1 x2 x3 x4 x11b x11n x11c x12 x13 h232)))
theorem n17_ok (x1 : Int) (x2 : Addr) (x3 : Addr) (x4 : Addr) (x8 : Addr) (x11b : Option Addr) (x11n : Nat) (x11c : Nat) (x12 : Int) (x13 : Int) (Kn : T2) (Ke2 : T2) (Ke1 : T2) (Ke0 : T0) (Kr : T0) (g : Env) (hg : E4 g x1 x2 x3 x4 x8 x11b x11n x11c x12 x13) (h : H) (hS : n17 x1 x2 x3 x4 x8 x11b x11n x11c x12 x13 Kn Ke2 Ke1 Ke0 Kr h) : wpC none Try.prog 77 n16_c1 (Q4 Kn Ke2 Ke1 Ke0 Kr) g h := by
  obtain ⟨hg1, hg2, hg3, hg4, hg8, hg11, hg12, hg13, hds⟩ := hg
  refine wpC_of_wpx (by kernel_rfl) (by kernel_rfl) (g' := ((((((((⟨g.v, []⟩ : Env).upd (some 1) (.int .i64 x1)).upd (some 2) (.pointer (some x2))).upd (some 3) (.pointer (some x3))).upd (some 4) (.pointer (some x4))).upd (some 8) (.pointer (some x8))).upd (some 11) (.slice x11b x11n x11c)).upd (some 12) (.int .i64 x12)).upd (some 13) (.int .i64 x13)) (by rw [env_ds hds, upd_self hg1, upd_self hg2, upd_self hg3, upd_self hg4, upd_self hg8, upd_self hg11, upd_self hg12, upd_self hg13]) ?_
  have e : (n17 x1 x2 x3 x4 x8 x11b x11n x11c x12 x13 Kn Ke2 Ke1 Ke0 Kr h) = wpx none Try.prog 77 n16_c1 (Q4 Kn Ke2 Ke1 Ke0 Kr) (((((((((⟨g.v, []⟩ : Env).upd (some 1) (.int .i64 x1)).upd (some 2) (.pointer (some x2))).upd (some 3) (.pointer (some x3))).upd (some 4) (.pointer (some x4))).upd (some 8) (.pointer (some x8))).upd (some 11) (.slice x11b x11n x11c)).upd (some 12) (.int .i64 x12)).upd (some 13) (.int .i64 x13)) h := by kernel_rfl
  exact e ▸ hS
noncomputable def n18_c1 : Code := cFst n16_c2
noncomputable def n18_c2 : Code := cSnd n16_c2
abbrev T8 := Int → Addr → Addr → Addr → Addr → (Option Addr) → Nat → Nat → Int → Int → Bool → H → Prop
def E8 (g : Env) (x1 : Int) (x2 : Addr) (x3 : Addr) (x4 : Addr) (x8 : Addr) (x11b : Option Addr) (x11n : Nat) (x11c : Nat) (x12 : Int) (x13 : Int) (x37 : Bool) : Prop := g.v 1 = (.int .i64 x1) ∧ g.v 2 = (.pointer (some x2)) ∧ g.v 3 = (.pointer (some x3)) ∧ g.v 4 = (.pointer (some x4)) ∧ g.v 8 = (.pointer (some x8)) ∧ g.v 11 = (.slice x11b x11n x11c) ∧ g.v 12 = (.int .i64 x12) ∧ g.v 13 = (.int .i64 x13) ∧ g.v 37 = (.bool x37) ∧ g.ds = []
def D8 (K : T8) (g : Env) (h : H) : Prop := nilDs g.ds (vInt .i64 (g.v 1) fun i233 => vAddr (g.v 2) fun a234 => vAddr (g.v 3) fun a235 => vAddr (g.v 4) fun a236 => vAddr (g.v 8) fun a237 => vSlice (g.v 11) fun s238b s238n s238c => vInt .i64 (g.v 12) fun i239 => vInt .i64 (g.v 13) fun i240 => vBool (g.v 37) fun b241 => K i233 a234 a235 a236 a237 s238b s238n s238c i239 i240 b241 h)
theorem D8_ok {K : T8} {g : Env} {h : H} (hq : D8 K g h) : ∃ (x1 : Int) (x2 : Addr) (x3 : Addr) (x4 : Addr) (x8 : Addr) (x11b : Option Addr) (x11n : Nat) (x11c : Nat) (x12 : Int) (x13 : Int) (x37 : Bool), E8 g x1 x2 x3 x4 x8 x11b x11n x11c x12 x13 x37 ∧ K x1 x2 x3 x4 x8 x11b x11n x11c x12 x13 x37 h := by
  obtain ⟨hd, hq⟩ := nilDs_ok hq
  obtain ⟨y243, e242, q244⟩ := vInt_ok hq
  obtain ⟨y246, e245, q247⟩ := vAddr_ok q244
  obtain ⟨y249, e248, q250⟩ := vAddr_ok q247
  obtain ⟨y252, e251, q253⟩ := vAddr_ok q250
  obtain ⟨y255, e254, q256⟩ := vAddr_ok q253
  obtain ⟨y258b, y258n, y258c, e257, q259⟩ := vSlice_ok q256
  obtain ⟨y261, e260, q262⟩ := vInt_ok q259
  obtain ⟨y264, e263, q265⟩ := vInt_ok q262
  obtain ⟨y267, e266, q268⟩ := vBool_ok q265
  exact ⟨y243, y246, y249, y252, y255, y258b, y258n, y258c, y261, y264, y267, ⟨e242, e245, e248, e251, e254, e257, e260, e263, e266, hd⟩, q268⟩
noncomputable def n19_c1 : Code := cFst n18_c2
noncomputable def n19_c2 : Code := cSnd n18_c2
noncomputable def n20_c1 : Code := cFst n19_c1
noncomputable def n20_c2 : Code := cSnd n19_c1
noncomputable def n21_c1 : Code := cFst n20_c2
noncomputable def n21_c2 : Code := cSnd n20_c2
abbrev n22 (x1 : Int) (x2 : Addr) (x3 : Addr) (x4 : Addr) (x8 : Addr) (x11b : Option Addr) (x11n : Nat) (x11c : Nat) (x12 : Int) (x13 : Int) (Kn : T2) (Ke2 : T2) (Ke1 : T2) (Ke0 : T0) (Kr : T0) (h : H) : Prop :=
  ∃ v269, cell h x4 = some v269 ∧ ∃ s270b s270n s270c, cell h (x8.add 5) = some (.slice s270b s270n s270c) ∧ (Rng .i64 (x1 + (1 : Int)) ∧ (CallV Try.prog 0 v269 ⟨[(.slice s270b s270n s270c), (.int .i64 (x1 + (1 : Int)))]⟩ h fun v271 h272 => Kn x1 x2 x3 x4 x11b x11n x11c x12 x13 h272))
theorem n22_ok (x1 : Int) (x2 : Addr) (x3 : Addr) (x4 : Addr) (x8 : Addr) (x11b : Option Addr) (x11n : Nat) (x11c : Nat) (x12 : Int) (x13 : Int) (Kn : T2) (Ke2 : T2) (Ke1 : T2) (Ke0 : T0) (Kr : T0) (g : Env) (hg : E4 g x1 x2 x3 x4 x8 x11b x11n x11c x12 x13) (h : H) (hS : n22 x1 x2 x3 x4 x8 x11b x11n x11c x12 x13 Kn Ke2 Ke1 Ke0 Kr h) : wpC none Try.prog 77 n21_c2 (Q4 Kn Ke2 Ke1 Ke0 Kr) g h := by
  obtain ⟨hg1, hg2, hg3, hg4, hg8, hg11, hg12, hg13, hds⟩ := hg
  refine wpC_of_wpx (by kernel_rfl) (by kernel_rfl) (g' := ((((((((⟨g.v, []⟩ : Env).upd (some 1) (.int .i64 x1)).upd (some 2) (.pointer (some x2))).upd (some 3) (.pointer (some x3))).upd (some 4) (.pointer (some x4))).upd (some 8) (.pointer (some x8))).upd (some 11) (.slice x11b x11n x11c)).upd (some 12) (.int .i64 x12)).upd (some 13) (.int .i64 x13)) (by rw [env_ds hds, upd_self hg1, upd_self hg2, upd_self hg3, upd_self hg4, upd_self hg8, upd_self hg11, upd_self hg12, upd_self hg13]) ?_
  have e : (n22 x1 x2 x3 x4 x8 x11b x11n x11c x12 x13 Kn Ke2 Ke1 Ke0 Kr h) = wpx none Try.prog 77 n21_c2 (Q4 Kn Ke2 Ke1 Ke0 Kr) (((((((((⟨g.v, []⟩ : Env).upd (some 1) (.int .i64 x1)).upd (some 2) (.pointer (some x2))).upd (some 3) (.pointer (some x3))).upd (some 4) (.pointer (some x4))).upd (some 8) (.pointer (some x8))).upd (some 11) (.slice x11b x11n x11c)).upd (some 12) (.int .i64 x12)).upd (some 13) (.int .i64 x13)) h := by kernel_rfl
  exact e ▸ hS
def Q5 (Kn : T4) (Ke2 : T2) (Ke1 : T2) (Ke0 : T0) (Kr : T0) : XPost
  | .normal, g, h => D4 Kn g h
  | .ret, g, h => D0 Kr g h
  | .exit id, g, h => cond (Nat.beq id 2) (D2 Ke2 g h) (cond (Nat.beq id 1) (D2 Ke1 g h) (cond (Nat.beq id 0) (D0 Ke0 g h) (False)))
  | _, _, _ => False
noncomputable def n23_c1 : Code := cFst n21_c1
noncomputable def n23_c2 : Code := cSnd n21_c1
abbrev T9 := Int → Addr → Addr → Addr → Addr → (Option Addr) → Nat → Nat → Int → Int → (Option Addr) → Nat → Nat → Int → Int → H → Prop
def E9 (g : Env) (x1 : Int) (x2 : Addr) (x3 : Addr) (x4 : Addr) (x8 : Addr) (x11b : Option Addr) (x11n : Nat) (x11c : Nat) (x12 : Int) (x13 : Int) (x52b : Option Addr) (x52n : Nat) (x52c : Nat) (x53 : Int) (x54 : Int) : Prop := g.v 1 = (.int .i64 x1) ∧ g.v 2 = (.pointer (some x2)) ∧ g.v 3 = (.pointer (some x3)) ∧ g.v 4 = (.pointer (some x4)) ∧ g.v 8 = (.pointer (some x8)) ∧ g.v 11 = (.slice x11b x11n x11c) ∧ g.v 12 = (.int .i64 x12) ∧ g.v 13 = (.int .i64 x13) ∧ g.v 52 = (.slice x52b x52n x52c) ∧ g.v 53 = (.int .i64 x53) ∧ g.v 54 = (.int .i64 x54) ∧ g.ds = []
def D9 (K : T9) (g : Env) (h : H) : Prop := nilDs g.ds (vInt .i64 (g.v 1) fun i273 => vAddr (g.v 2) fun a274 => vAddr (g.v 3) fun a275 => vAddr (g.v 4) fun a276 => vAddr (g.v 8) fun a277 => vSlice (g.v 11) fun s278b s278n s278c => vInt .i64 (g.v 12) fun i279 => vInt .i64 (g.v 13) fun i280 => vSlice (g.v 52) fun s281b s281n s281c => vInt .i64 (g.v 53) fun i282 => vInt .i64 (g.v 54) fun i283 => K i273 a274 a275 a276 a277 s278b s278n s278c i279 i280 s281b s281n s281c i282 i283 h)
theorem D9_ok {K : T9} {g : Env} {h : H} (hq : D9 K g h) : ∃ (x1 : Int) (x2 : Addr) (x3 : Addr) (x4 : Addr) (x8 : Addr) (x11b : Option Addr) (x11n : Nat) (x11c : Nat) (x12 : Int) (x13 : Int) (x52b : Option Addr) (x52n : Nat) (x52c : Nat) (x53 : Int) (x54 : Int), E9 g x1 x2 x3 x4 x8 x11b x11n x11c x12 x13 x52b x52n x52c x53 x54 ∧ K x1 x2 x3 x4 x8 x11b x11n x11c x12 x13 x52b x52n x52c x53 x54 h := by
  obtain ⟨hd, hq⟩ := nilDs_ok hq
  obtain ⟨y285, e284, q286⟩ := vInt_ok hq
  obtain ⟨y288, e287, q289⟩ := vAddr_ok q286
  obtain ⟨y291, e290, q292⟩ := vAddr_ok q289
  obtain ⟨y294, e293, q295⟩ := vAddr_ok q292
  obtain ⟨y297, e296, q298⟩ := vAddr_ok q295
  obtain ⟨y300b, y300n, y300c, e299, q301⟩ := vSlice_ok q298
  obtain ⟨y303, e302, q304⟩ := vInt_ok q301
  obtain ⟨y306, e305, q307⟩ := vInt_ok q304
  obtain ⟨y309b, y309n, y309c, e308, q310⟩ := vSlice_ok q307
  obtain ⟨y312, e311, q313⟩ := vInt_ok q310
  obtain ⟨y315, e314, q316⟩ := vInt_ok q313
  exact ⟨y285, y288, y291, y294, y297, y300b, y300n, y300c, y303, y306, y309b, y309n, y309c, y312, y315, ⟨e284, e287, e290, e293, e296, e299, e302, e305, e308, e311, e314, hd⟩, q316⟩
noncomputable def n24_c1 : Code := cFst n23_c2
def Q6 (Kn : T4) (Ke3 : T4) (Ke2 : T2) (Ke1 : T2) (Ke0 : T0) (Kr : T0) : XPost
  | .normal, g, h => D4 Kn g h
  | .ret, g, h => D0 Kr g h
  | .exit id, g, h => cond (Nat.beq id 3) (D4 Ke3 g h) (cond (Nat.beq id 2) (D2 Ke2 g h) (cond (Nat.beq id 1) (D2 Ke1 g h) (cond (Nat.beq id 0) (D0 Ke0 g h) (False))))
  | _, _, _ => False
noncomputable def n25_c1 : Code := cFst n24_c1
def Q7 (Kn : T9) (Ke3 : T4) (Ke2 : T2) (Ke1 : T2) (Ke0 : T0) (Kr : T0) : XPost
  | .normal, g, h => D9 Kn g h
  | .ret, g, h => D0 Kr g h
  | .exit id, g, h => cond (Nat.beq id 3) (D4 Ke3 g h) (cond (Nat.beq id 2) (D2 Ke2 g h) (cond (Nat.beq id 1) (D2 Ke1 g h) (cond (Nat.beq id 0) (D0 Ke0 g h) (False))))
  | _, _, _ => False
def n25_L (Kn : T4) (Ke3 : T4) (Ke2 : T2) (Ke1 : T2) (Ke0 : T0) (Kr : T0) : Nat → Int → Addr → Addr → Addr → Addr → (Option Addr) → Nat → Nat → Int → Int → (Option Addr) → Nat → Nat → Int → Int → H → Prop
  | 0 => fun _ _ _ _ _ _ _ _ _ _ _ _ _ _ _ _ => False
  | N + 1 => fun x1 x2 x3 x4 x8 x11b x11n x11c x12 x13 x52b x52n x52c x53 x54 h => Spl (x54 < x53) ((0 ≤ x54 ∧ x54 < (x52n : Int)) ∧ (vSome x52b fun a317 => ∃ s318, cell h (((a317.add (Int.toNat x54 * 2))).add 0) = some (S s318) ∧ (∃ s319, cell h (((a317.add (Int.toNat x54 * 2))).add 1) = some (S s319) ∧ (newx h ⟨[(S ([] : List UInt8)), (S ([] : List UInt8))]⟩ 59 fun a320 h321 => stL a320 [(S s318), (S s319)] 0 h321 fun h322 => ∃ v323, cell h322 x2 = some v323 ∧ Rng .i64 (x1 + (1 : Int)) ∧ (∃ s324, cell h322 (a320.add 0) = some (S s324) ∧ (((s324.length + ([61, 34] : List UInt8).length : Nat) : Int) ≤ 9223372036854775807 ∧ (∃ s325, cell h322 (a320.add 1) = some (S s325) ∧ ((((s324 ++ ([61, 34] : List UInt8)).length + s325.length : Nat) : Int) ≤ 9223372036854775807 ∧ (((((s324 ++ ([61, 34] : List UInt8)) ++ s325).length + ([34] : List UInt8).length : Nat) : Int) ≤ 9223372036854775807 ∧ (CallV Try.prog 0 v323 ⟨[(.int .i64 (x1 + (1 : Int))), (S (((s324 ++ ([61, 34] : List UInt8)) ++ s325) ++ ([34] : List UInt8)))]⟩ h322 fun v326 h327 => Rng .i64 (x54 + (1 : Int)) ∧ (n25_L Kn Ke3 Ke2 Ke1 Ke0 Kr N x1 x2 x3 x4 x8 x11b x11n x11c x12 x13 x52b x52n x52c x53 (x54 + (1 : Int)) h327))))))))))) (Ke3 x1 x2 x3 x4 x8 x11b x11n x11c x12 x13 h)
abbrev n25 (x1 : Int) (x2 : Addr) (x3 : Addr) (x4 : Addr) (x8 : Addr) (x11b : Option Addr) (x11n : Nat) (x11c : Nat) (x12 : Int) (x13 : Int) (x52b : Option Addr) (x52n : Nat) (x52c : Nat) (x53 : Int) (x54 : Int) (Kn : T4) (Ke3 : T4) (Ke2 : T2) (Ke1 : T2) (Ke0 : T0) (Kr : T0) (h : H) : Prop := ∃ N, n25_L Kn Ke3 Ke2 Ke1 Ke0 Kr N x1 x2 x3 x4 x8 x11b x11n x11c x12 x13 x52b x52n x52c x53 x54 h
theorem n25_ok (x1 : Int) (x2 : Addr) (x3 : Addr) (x4 : Addr) (x8 : Addr) (x11b : Option Addr) (x11n : Nat) (x11c : Nat) (x12 : Int) (x13 : Int) (x52b : Option Addr) (x52n : Nat) (x52c : Nat) (x53 : Int) (x54 : Int) (Kn : T4) (Ke3 : T4) (Ke2 : T2) (Ke1 : T2) (Ke0 : T0) (Kr : T0) (g : Env) (hg : E9 g x1 x2 x3 x4 x8 x11b x11n x11c x12 x13 x52b x52n x52c x53 x54) (h : H) (hS : n25 x1 x2 x3 x4 x8 x11b x11n x11c x12 x13 x52b x52n x52c x53 x54 Kn Ke3 Ke2 Ke1 Ke0 Kr h) : wpC none Try.prog 77 n24_c1 (Q6 Kn Ke3 Ke2 Ke1 Ke0 Kr) g h := by
  obtain ⟨N0, hS⟩ := hS
  refine wpC_loop' (x := n25_c1) (by kernel_rfl) (fun k g h => ∃ (x1 : Int) (x2 : Addr) (x3 : Addr) (x4 : Addr) (x8 : Addr) (x11b : Option Addr) (x11n : Nat) (x11c : Nat) (x12 : Int) (x13 : Int) (x52b : Option Addr) (x52n : Nat) (x52c : Nat) (x53 : Int) (x54 : Int), E9 g x1 x2 x3 x4 x8 x11b x11n x11c x12 x13 x52b x52n x52c x53 x54 ∧ n25_L Kn Ke3 Ke2 Ke1 Ke0 Kr k x1 x2 x3 x4 x8 x11b x11n x11c x12 x13 x52b x52n x52c x53 x54 h) (fun g h hr => ?_) (fun N g h hr => ?_) N0 ⟨x1, x2, x3, x4, x8, x11b, x11n, x11c, x12, x13, x52b, x52n, x52c, x53, x54, hg, hS⟩
  · obtain ⟨x1, x2, x3, x4, x8, x11b, x11n, x11c, x12, x13, x52b, x52n, x52c, x53, x54, hg, hS⟩ := hr
    exact hS.elim
  · obtain ⟨x1, x2, x3, x4, x8, x11b, x11n, x11c, x12, x13, x52b, x52n, x52c, x53, x54, hg, hS⟩ := hr
    have hw : wpC none Try.prog 77 n25_c1 (Q7 (fun z1 z2 z3 z4 z8 z11b z11n z11c z12 z13 z52b z52n z52c z53 z54 h => n25_L Kn Ke3 Ke2 Ke1 Ke0 Kr N z1 z2 z3 z4 z8 z11b z11n z11c z12 z13 z52b z52n z52c z53 z54 h) Ke3 Ke2 Ke1 Ke0 Kr) g h := by
      obtain ⟨hg1, hg2, hg3, hg4, hg8, hg11, hg12, hg13, hg52, hg53, hg54, hds⟩ := hg
      refine wpC_of_wpx (by kernel_rfl) (by kernel_rfl) (g' := (((((((((((⟨g.v, []⟩ : Env).upd (some 1) (.int .i64 x1)).upd (some 2) (.pointer (some x2))).upd (some 3) (.pointer (some x3))).upd (some 4) (.pointer (some x4))).upd (some 8) (.pointer (some x8))).upd (some 11) (.slice x11b x11n x11c)).upd (some 12) (.int .i64 x12)).upd (some 13) (.int .i64 x13)).upd (some 52) (.slice x52b x52n x52c)).upd (some 53) (.int .i64 x53)).upd (some 54) (.int .i64 x54)) (by rw [env_ds hds, upd_self hg1, upd_self hg2, upd_self hg3, upd_self hg4, upd_self hg8, upd_self hg11, upd_self hg12, upd_self hg13, upd_self hg52, upd_self hg53, upd_self hg54]) ?_
      have e : (n25_L Kn Ke3 Ke2 Ke1 Ke0 Kr (N + 1) x1 x2 x3 x4 x8 x11b x11n x11c x12 x13 x52b x52n x52c x53 x54 h) = wpx none Try.prog 77 n25_c1 (Q7 (fun z1 z2 z3 z4 z8 z11b z11n z11c z12 z13 z52b z52n z52c z53 z54 h => n25_L Kn Ke3 Ke2 Ke1 Ke0 Kr N z1 z2 z3 z4 z8 z11b z11n z11c z12 z13 z52b z52n z52c z53 z54 h) Ke3 Ke2 Ke1 Ke0 Kr) ((((((((((((⟨g.v, []⟩ : Env).upd (some 1) (.int .i64 x1)).upd (some 2) (.pointer (some x2))).upd (some 3) (.pointer (some x3))).upd (some 4) (.pointer (some x4))).upd (some 8) (.pointer (some x8))).upd (some 11) (.slice x11b x11n x11c)).upd (some 12) (.int .i64 x12)).upd (some 13) (.int .i64 x13)).upd (some 52) (.slice x52b x52n x52c)).upd (some 53) (.int .i64 x53)).upd (some 54) (.int .i64 x54)) h := by kernel_rfl
      exact e ▸ hS
    refine hw.mono ?_
    intro e g' h' hq
    cases e with
    | normal => exact D9_ok (K := (fun z1 z2 z3 z4 z8 z11b z11n z11c z12 z13 z52b z52n z52c z53 z54 h => n25_L Kn Ke3 Ke2 Ke1 Ke0 Kr N z1 z2 z3 z4 z8 z11b z11n z11c z12 z13 z52b z52n z52c z53 z54 h)) hq
    | _ => exact hq
abbrev n24 (x1 : Int) (x2 : Addr) (x3 : Addr) (x4 : Addr) (x8 : Addr) (x11b : Option Addr) (x11n : Nat) (x11c : Nat) (x12 : Int) (x13 : Int) (x52b : Option Addr) (x52n : Nat) (x52c : Nat) (x53 : Int) (x54 : Int) (Kn : T4) (Ke2 : T2) (Ke1 : T2) (Ke0 : T0) (Kr : T0) (h : H) : Prop := n25 x1 x2 x3 x4 x8 x11b x11n x11c x12 x13 x52b x52n x52c x53 x54 Kn Kn Ke2 Ke1 Ke0 Kr h
theorem n24_ok (x1 : Int) (x2 : Addr) (x3 : Addr) (x4 : Addr) (x8 : Addr) (x11b : Option Addr) (x11n : Nat) (x11c : Nat) (x12 : Int) (x13 : Int) (x52b : Option Addr) (x52n : Nat) (x52c : Nat) (x53 : Int) (x54 : Int) (Kn : T4) (Ke2 : T2) (Ke1 : T2) (Ke0 : T0) (Kr : T0) (g : Env) (hg : E9 g x1 x2 x3 x4 x8 x11b x11n x11c x12 x13 x52b x52n x52c x53 x54) (h : H) (hS : n24 x1 x2 x3 x4 x8 x11b x11n x11c x12 x13 x52b x52n x52c x53 x54 Kn Ke2 Ke1 Ke0 Kr h) : wpC none Try.prog 77 n23_c2 (Q5 Kn Ke2 Ke1 Ke0 Kr) g h := by
  refine wpC_block' (id := 3) (x := n24_c1) (by kernel_rfl) (n25_ok x1 x2 x3 x4 x8 x11b x11n x11c x12 x13 x52b x52n x52c x53 x54 Kn Kn Ke2 Ke1 Ke0 Kr g hg h hS) ?_
  intro e g' h' hq
  cases e <;> exact hq
def Q8 (Kn : T9) (Ke2 : T2) (Ke1 : T2) (Ke0 : T0) (Kr : T0) : XPost
  | .normal, g, h => D9 Kn g h
  | .ret, g, h => D0 Kr g h
  | .exit id, g, h => cond (Nat.beq id 2) (D2 Ke2 g h) (cond (Nat.beq id 1) (D2 Ke1 g h) (cond (Nat.beq id 0) (D0 Ke0 g h) (False)))
  | _, _, _ => False
abbrev n23 (x1 : Int) (x2 : Addr) (x3 : Addr) (x4 : Addr) (x8 : Addr) (x11b : Option Addr) (x11n : Nat) (x11c : Nat) (x12 : Int) (x13 : Int) (Kn : T4) (Ke2 : T2) (Ke1 : T2) (Ke0 : T0) (Kr : T0) (h : H) : Prop :=
  ∃ s328b s328n s328c, cell h (x8.add 3) = some (.slice s328b s328n s328c) ∧ (n24 x1 x2 x3 x4 x8 x11b x11n x11c x12 x13 s328b s328n s328c (s328n : Int) (0 : Int) Kn Ke2 Ke1 Ke0 Kr h)
theorem n23_ok (x1 : Int) (x2 : Addr) (x3 : Addr) (x4 : Addr) (x8 : Addr) (x11b : Option Addr) (x11n : Nat) (x11c : Nat) (x12 : Int) (x13 : Int) (Kn : T4) (Ke2 : T2) (Ke1 : T2) (Ke0 : T0) (Kr : T0) (g : Env) (hg : E4 g x1 x2 x3 x4 x8 x11b x11n x11c x12 x13) (h : H) (hS : n23 x1 x2 x3 x4 x8 x11b x11n x11c x12 x13 Kn Ke2 Ke1 Ke0 Kr h) : wpC none Try.prog 77 n21_c1 (Q5 Kn Ke2 Ke1 Ke0 Kr) g h := by
  obtain ⟨hg1, hg2, hg3, hg4, hg8, hg11, hg12, hg13, hds⟩ := hg
  refine wpC_seq' (x := n23_c1) (y := n23_c2) (Q' := (Q8 (fun z1 z2 z3 z4 z8 z11b z11n z11c z12 z13 z52b z52n z52c z53 z54 h => n24 z1 z2 z3 z4 z8 z11b z11n z11c z12 z13 z52b z52n z52c z53 z54 Kn Ke2 Ke1 Ke0 Kr h) Ke2 Ke1 Ke0 Kr)) (by kernel_rfl) ?_ ?_
  · refine wpC_of_wpx (by kernel_rfl) (by kernel_rfl) (g' := ((((((((⟨g.v, []⟩ : Env).upd (some 1) (.int .i64 x1)).upd (some 2) (.pointer (some x2))).upd (some 3) (.pointer (some x3))).upd (some 4) (.pointer (some x4))).upd (some 8) (.pointer (some x8))).upd (some 11) (.slice x11b x11n x11c)).upd (some 12) (.int .i64 x12)).upd (some 13) (.int .i64 x13)) (by rw [env_ds hds, upd_self hg1, upd_self hg2, upd_self hg3, upd_self hg4, upd_self hg8, upd_self hg11, upd_self hg12, upd_self hg13]) ?_
    have e : (n23 x1 x2 x3 x4 x8 x11b x11n x11c x12 x13 Kn Ke2 Ke1 Ke0 Kr h) = wpx none Try.prog 77 n23_c1 (Q8 (fun z1 z2 z3 z4 z8 z11b z11n z11c z12 z13 z52b z52n z52c z53 z54 h => n24 z1 z2 z3 z4 z8 z11b z11n z11c z12 z13 z52b z52n z52c z53 z54 Kn Ke2 Ke1 Ke0 Kr h) Ke2 Ke1 Ke0 Kr) (((((((((⟨g.v, []⟩ : Env).upd (some 1) (.int .i64 x1)).upd (some 2) (.pointer (some x2))).upd (some 3) (.pointer (some x3))).upd (some 4) (.pointer (some x4))).upd (some 8) (.pointer (some x8))).upd (some 11) (.slice x11b x11n x11c)).upd (some 12) (.int .i64 x12)).upd (some 13) (.int .i64 x13)) h := by kernel_rfl
    exact e ▸ hS
  · intro e g' h' hq
    cases e with
    | normal =>
      have hq : D9 (fun z1 z2 z3 z4 z8 z11b z11n z11c z12 z13 z52b z52n z52c z53 z54 h => n24 z1 z2 z3 z4 z8 z11b z11n z11c z12 z13 z52b z52n z52c z53 z54 Kn Ke2 Ke1 Ke0 Kr h) g' h' := hq
      obtain ⟨y1, y2, y3, y4, y8, y11b, y11n, y11c, y12, y13, y52b, y52n, y52c, y53, y54, hg', hq⟩ := D9_ok hq
      exact n24_ok y1 y2 y3 y4 y8 y11b y11n y11c y12 y13 y52b y52n y52c y53 y54 Kn Ke2 Ke1 Ke0 Kr g' hg' h' hq
    | _ => exact hq
abbrev n21 (x1 : Int) (x2 : Addr) (x3 : Addr) (x4 : Addr) (x8 : Addr) (x11b : Option Addr) (x11n : Nat) (x11c : Nat) (x12 : Int) (x13 : Int) (Kn : T2) (Ke2 : T2) (Ke1 : T2) (Ke0 : T0) (Kr : T0) (h : H) : Prop := n23 x1 x2 x3 x4 x8 x11b x11n x11c x12 x13 (fun z1 z2 z3 z4 z8 z11b z11n z11c z12 z13 h => n22 z1 z2 z3 z4 z8 z11b z11n z11c z12 z13 Kn Ke2 Ke1 Ke0 Kr h) Ke2 Ke1 Ke0 Kr h
theorem n21_ok (x1 : Int) (x2 : Addr) (x3 : Addr) (x4 : Addr) (x8 : Addr) (x11b : Option Addr) (x11n : Nat) (x11c : Nat) (x12 : Int) (x13 : Int) (Kn : T2) (Ke2 : T2) (Ke1 : T2) (Ke0 : T0) (Kr : T0) (g : Env) (hg : E4 g x1 x2 x3 x4 x8 x11b x11n x11c x12 x13) (h : H) (hS : n21 x1 x2 x3 x4 x8 x11b x11n x11c x12 x13 Kn Ke2 Ke1 Ke0 Kr h) : wpC none Try.prog 77 n20_c2 (Q4 Kn Ke2 Ke1 Ke0 Kr) g h := by
  refine wpC_seq' (x := n21_c1) (y := n21_c2) (by kernel_rfl) (n23_ok x1 x2 x3 x4 x8 x11b x11n x11c x12 x13 (fun z1 z2 z3 z4 z8 z11b z11n z11c z12 z13 h => n22 z1 z2 z3 z4 z8 z11b z11n z11c z12 z13 Kn Ke2 Ke1 Ke0 Kr h) Ke2 Ke1 Ke0 Kr g hg h hS) ?_
  intro e g' h' hq
  cases e with
  | normal =>
    have hq : D4 (fun z1 z2 z3 z4 z8 z11b z11n z11c z12 z13 h => n22 z1 z2 z3 z4 z8 z11b z11n z11c z12 z13 Kn Ke2 Ke1 Ke0 Kr h) g' h' := hq
    obtain ⟨y1, y2, y3, y4, y8, y11b, y11n, y11c, y12, y13, hg', hq⟩ := D4_ok hq
    exact n22_ok y1 y2 y3 y4 y8 y11b y11n y11c y12 y13 Kn Ke2 Ke1 Ke0 Kr g' hg' h' hq
  | _ => exact hq
abbrev n20 (x1 : Int) (x2 : Addr) (x3 : Addr) (x4 : Addr) (x8 : Addr) (x11b : Option Addr) (x11n : Nat) (x11c : Nat) (x12 : Int) (x13 : Int) (Kn : T2) (Ke2 : T2) (Ke1 : T2) (Ke0 : T0) (Kr : T0) (h : H) : Prop :=
  ∃ v329, cell h x2 = some v329 ∧ ∃ m330, cell h x3 = some (.map m330) ∧ (∃ i331, cell h (x8.add 1) = some (.int .u8 i331) ∧ (SemH Try.prog (Instr.lookup 85 (.map m330) (.int .u8 i331) false) h fun v332 h333 => vStr v332 fun s334 => ((([60] : List UInt8).length + s334.length : Nat) : Int) ≤ 9223372036854775807 ∧ (∃ s335, cell h333 (x8.add 2) = some (S s335) ∧ ((((([60] : List UInt8) ++ s334).length + s335.length : Nat) : Int) ≤ 9223372036854775807 ∧ (((((([60] : List UInt8) ++ s334) ++ s335).length + ([62] : List UInt8).length : Nat) : Int) ≤ 9223372036854775807 ∧ (CallV Try.prog 0 v329 ⟨[(.int .i64 x1), (S (((([60] : List UInt8) ++ s334) ++ s335) ++ ([62] : List UInt8)))]⟩ h333 fun v336 h337 => n21 x1 x2 x3 x4 x8 x11b x11n x11c x12 x13 Kn Ke2 Ke1 Ke0 Kr h337))))))
theorem n20_ok (x1 : Int) (x2 : Addr) (x3 : Addr) (x4 : Addr) (x8 : Addr) (x11b : Option Addr) (x11n : Nat) (x11c : Nat) (x12 : Int) (x13 : Int) (Kn : T2) (Ke2 : T2) (Ke1 : T2) (Ke0 : T0) (Kr : T0) (g : Env) (hg : E4 g x1 x2 x3 x4 x8 x11b x11n x11c x12 x13) (h : H) (hS : n20 x1 x2 x3 x4 x8 x11b x11n x11c x12 x13 Kn Ke2 Ke1 Ke0 Kr h) : wpC none Try.prog 77 n19_c1 (Q4 Kn Ke2 Ke1 Ke0 Kr) g h := by
  obtain ⟨hg1, hg2, hg3, hg4, hg8, hg11, hg12, hg13, hds⟩ := hg
  refine wpC_seq' (x := n20_c1) (y := n20_c2) (Q' := (Q5 (fun z1 z2 z3 z4 z8 z11b z11n z11c z12 z13 h => n21 z1 z2 z3 z4 z8 z11b z11n z11c z12 z13 Kn Ke2 Ke1 Ke0 Kr h) Ke2 Ke1 Ke0 Kr)) (by kernel_rfl) ?_ ?_
  · refine wpC_of_wpx (by kernel_rfl) (by kernel_rfl) (g' := ((((((((⟨g.v, []⟩ : Env).upd (some 1) (.int .i64 x1)).upd (some 2) (.pointer (some x2))).upd (some 3) (.pointer (some x3))).upd (some 4) (.pointer (some x4))).upd (some 8) (.pointer (some x8))).upd (some 11) (.slice x11b x11n x11c)).upd (some 12) (.int .i64 x12)).upd (some 13) (.int .i64 x13)) (by rw [env_ds hds, upd_self hg1, upd_self hg2, upd_self hg3, upd_self hg4, upd_self hg8, upd_self hg11, upd_self hg12, upd_self hg13]) ?_
    have e : (n20 x1 x2 x3 x4 x8 x11b x11n x11c x12 x13 Kn Ke2 Ke1 Ke0 Kr h) = wpx none Try.prog 77 n20_c1 (Q5 (fun z1 z2 z3 z4 z8 z11b z11n z11c z12 z13 h => n21 z1 z2 z3 z4 z8 z11b z11n z11c z12 z13 Kn Ke2 Ke1 Ke0 Kr h) Ke2 Ke1 Ke0 Kr) (((((((((⟨g.v, []⟩ : Env).upd (some 1) (.int .i64 x1)).upd (some 2) (.pointer (some x2))).upd (some 3) (.pointer (some x3))).upd (some 4) (.pointer (some x4))).upd (some 8) (.pointer (some x8))).upd (some 11) (.slice x11b x11n x11c)).upd (some 12) (.int .i64 x12)).upd (some 13) (.int .i64 x13)) h := by kernel_rfl
    exact e ▸ hS
  · intro e g' h' hq
    cases e with
    | normal =>
      have hq : D4 (fun z1 z2 z3 z4 z8 z11b z11n z11c z12 z13 h => n21 z1 z2 z3 z4 z8 z11b z11n z11c z12 z13 Kn Ke2 Ke1 Ke0 Kr h) g' h' := hq
      obtain ⟨y1, y2, y3, y4, y8, y11b, y11n, y11c, y12, y13, hg', hq⟩ := D4_ok hq
      exact n21_ok y1 y2 y3 y4 y8 y11b y11n y11c y12 y13 Kn Ke2 Ke1 Ke0 Kr g' hg' h' hq
    | _ => exact hq
abbrev n26 (x1 : Int) (x2 : Addr) (x3 : Addr) (x4 : Addr) (x11b : Option Addr) (x11n : Nat) (x11c : Nat) (x12 : Int) (x13 : Int) (Kn : T2) (Ke2 : T2) (Ke1 : T2) (Ke0 : T0) (Kr : T0) (h : H) : Prop :=
  Kn x1 x2 x3 x4 x11b x11n x11c x12 x13 h
theorem n26_ok (x1 : Int) (x2 : Addr) (x3 : Addr) (x4 : Addr) (x11b : Option Addr) (x11n : Nat) (x11c : Nat) (x12 : Int) (x13 : Int) (Kn : T2) (Ke2 : T2) (Ke1 : T2) (Ke0 : T0) (Kr : T0) (g : Env) (hg : E2 g x1 x2 x3 x4 x11b x11n x11c x12 x13) (h : H) (hS : n26 x1 x2 x3 x4 x11b x11n x11c x12 x13 Kn Ke2 Ke1 Ke0 Kr h) : wpC none Try.prog 77 n19_c2 (Q4 Kn Ke2 Ke1 Ke0 Kr) g h := by
  obtain ⟨hg1, hg2, hg3, hg4, hg11, hg12, hg13, hds⟩ := hg
  refine wpC_of_wpx (by kernel_rfl) (by kernel_rfl) (g' := (((((((⟨g.v, []⟩ : Env).upd (some 1) (.int .i64 x1)).upd (some 2) (.pointer (some x2))).upd (some 3) (.pointer (some x3))).upd (some 4) (.pointer (some x4))).upd (some 11) (.slice x11b x11n x11c)).upd (some 12) (.int .i64 x12)).upd (some 13) (.int .i64 x13)) (by rw [env_ds hds, upd_self hg1, upd_self hg2, upd_self hg3, upd_self hg4, upd_self hg11, upd_self hg12, upd_self hg13]) ?_
  have e : (n26 x1 x2 x3 x4 x11b x11n x11c x12 x13 Kn Ke2 Ke1 Ke0 Kr h) = wpx none Try.prog 77 n19_c2 (Q4 Kn Ke2 Ke1 Ke0 Kr) ((((((((⟨g.v, []⟩ : Env).upd (some 1) (.int .i64 x1)).upd (some 2) (.pointer (some x2))).upd (some 3) (.pointer (some x3))).upd (some 4) (.pointer (some x4))).upd (some 11) (.slice x11b x11n x11c)).upd (some 12) (.int .i64 x12)).upd (some 13) (.int .i64 x13)) h := by kernel_rfl
  exact e ▸ hS
abbrev n19 (x1 : Int) (x2 : Addr) (x3 : Addr) (x4 : Addr) (x8 : Addr) (x11b : Option Addr) (x11n : Nat) (x11c : Nat) (x12 : Int) (x13 : Int) (x37 : Bool) (Kn : T2) (Ke2 : T2) (Ke1 : T2) (Ke0 : T0) (Kr : T0) (h : H) : Prop := cond x37 (n20 x1 x2 x3 x4 x8 x11b x11n x11c x12 x13 Kn Ke2 Ke1 Ke0 Kr h) (n26 x1 x2 x3 x4 x11b x11n x11c x12 x13 Kn Ke2 Ke1 Ke0 Kr h)
theorem n19_ok (x1 : Int) (x2 : Addr) (x3 : Addr) (x4 : Addr) (x8 : Addr) (x11b : Option Addr) (x11n : Nat) (x11c : Nat) (x12 : Int) (x13 : Int) (x37 : Bool) (Kn : T2) (Ke2 : T2) (Ke1 : T2) (Ke0 : T0) (Kr : T0) (g : Env) (hg : E8 g x1 x2 x3 x4 x8 x11b x11n x11c x12 x13 x37) (h : H) (hS : n19 x1 x2 x3 x4 x8 x11b x11n x11c x12 x13 x37 Kn Ke2 Ke1 Ke0 Kr h) : wpC none Try.prog 77 n18_c2 (Q4 Kn Ke2 Ke1 Ke0 Kr) g h := by
  obtain ⟨hg1, hg2, hg3, hg4, hg8, hg11, hg12, hg13, hg37, hds⟩ := hg
  have hx : evalE 77 g (.tmp 37) = .bool x37 := by
    show cond (Nat.blt 37 77) (g.v 37) undef = _
    rw [hg37]; rfl
  unfold n19 at hS
  refine wpC_cond' (o := .tmp 37) (x := n19_c1) (y := n19_c2) (by kernel_rfl) hx (fun hb => ?_) (fun hb => ?_)
  · subst hb
    exact n20_ok x1 x2 x3 x4 x8 x11b x11n x11c x12 x13 Kn Ke2 Ke1 Ke0 Kr g ⟨hg1, hg2, hg3, hg4, hg8, hg11, hg12, hg13, hds⟩ h hS
  · subst hb
    exact n26_ok x1 x2 x3 x4 x11b x11n x11c x12 x13 Kn Ke2 Ke1 Ke0 Kr g ⟨hg1, hg2, hg3, hg4, hg11, hg12, hg13, hds⟩ h hS
def Q9 (Kn : T8) (Ke2 : T2) (Ke1 : T2) (Ke0 : T0) (Kr : T0) : XPost
  | .normal, g, h => D8 Kn g h
  | .ret, g, h => D0 Kr g h
  | .exit id, g, h => cond (Nat.beq id 2) (D2 Ke2 g h) (cond (Nat.beq id 1) (D2 Ke1 g h) (cond (Nat.beq id 0) (D0 Ke0 g h) (False)))
  | _, _, _ => False
abbrev n18 (x1 : Int) (x2 : Addr) (x3 : Addr) (x4 : Addr) (x8 : Addr) (x11b : Option Addr) (x11n : Nat) (x11c : Nat) (x12 : Int) (x13 : Int) (x18 : Int) (Kn : T2) (Ke2 : T2) (Ke1 : T2) (Ke0 : T0) (Kr : T0) (h : H) : Prop :=
  Spl (x18 = (1 : Int)) (n19 x1 x2 x3 x4 x8 x11b x11n x11c x12 x13 true Kn Ke2 Ke1 Ke0 Kr h) (n19 x1 x2 x3 x4 x8 x11b x11n x11c x12 x13 false Kn Ke2 Ke1 Ke0 Kr h)
theorem n18_ok (x1 : Int) (x2 : Addr) (x3 : Addr) (x4 : Addr) (x8 : Addr) (x11b : Option Addr) (x11n : Nat) (x11c : Nat) (x12 : Int) (x13 : Int) (x18 : Int) (Kn : T2) (Ke2 : T2) (Ke1 : T2) (Ke0 : T0) (Kr : T0) (g : Env) (hg : E5 g x1 x2 x3 x4 x8 x11b x11n x11c x12 x13 x18) (h : H) (hS : n18 x1 x2 x3 x4 x8 x11b x11n x11c x12 x13 x18 Kn Ke2 Ke1 Ke0 Kr h) : wpC none Try.prog 77 n16_c2 (Q4 Kn Ke2 Ke1 Ke0 Kr) g h := by
  obtain ⟨hg1, hg2, hg3, hg4, hg8, hg11, hg12, hg13, hg18, hds⟩ := hg
  refine wpC_seq' (x := n18_c1) (y := n18_c2) (Q' := (Q9 (fun z1 z2 z3 z4 z8 z11b z11n z11c z12 z13 z37 h => n19 z1 z2 z3 z4 z8 z11b z11n z11c z12 z13 z37 Kn Ke2 Ke1 Ke0 Kr h) Ke2 Ke1 Ke0 Kr)) (by kernel_rfl) ?_ ?_
  · refine wpC_of_wpx (by kernel_rfl) (by kernel_rfl) (g' := (((((((((⟨g.v, []⟩ : Env).upd (some 1) (.int .i64 x1)).upd (some 2) (.pointer (some x2))).upd (some 3) (.pointer (some x3))).upd (some 4) (.pointer (some x4))).upd (some 8) (.pointer (some x8))).upd (some 11) (.slice x11b x11n x11c)).upd (some 12) (.int .i64 x12)).upd (some 13) (.int .i64 x13)).upd (some 18) (.int .u8 x18)) (by rw [env_ds hds, upd_self hg1, upd_self hg2, upd_self hg3, upd_self hg4, upd_self hg8, upd_self hg11, upd_self hg12, upd_self hg13, upd_self hg18]) ?_
    have e : (n18 x1 x2 x3 x4 x8 x11b x11n x11c x12 x13 x18 Kn Ke2 Ke1 Ke0 Kr h) = wpx none Try.prog 77 n18_c1 (Q9 (fun z1 z2 z3 z4 z8 z11b z11n z11c z12 z13 z37 h => n19 z1 z2 z3 z4 z8 z11b z11n z11c z12 z13 z37 Kn Ke2 Ke1 Ke0 Kr h) Ke2 Ke1 Ke0 Kr) ((((((((((⟨g.v, []⟩ : Env).upd (some 1) (.int .i64 x1)).upd (some 2) (.pointer (some x2))).upd (some 3) (.pointer (some x3))).upd (some 4) (.pointer (some x4))).upd (some 8) (.pointer (some x8))).upd (some 11) (.slice x11b x11n x11c)).upd (some 12) (.int .i64 x12)).upd (some 13) (.int .i64 x13)).upd (some 18) (.int .u8 x18)) h := by kernel_rfl
    exact e ▸ hS
  · intro e g' h' hq
    cases e with
    | normal =>
      have hq : D8 (fun z1 z2 z3 z4 z8 z11b z11n z11c z12 z13 z37 h => n19 z1 z2 z3 z4 z8 z11b z11n z11c z12 z13 z37 Kn Ke2 Ke1 Ke0 Kr h) g' h' := hq
      obtain ⟨y1, y2, y3, y4, y8, y11b, y11n, y11c, y12, y13, y37, hg', hq⟩ := D8_ok hq
      exact n19_ok y1 y2 y3 y4 y8 y11b y11n y11c y12 y13 y37 Kn Ke2 Ke1 Ke0 Kr g' hg' h' hq
    | _ => exact hq
abbrev n16 (x1 : Int) (x2 : Addr) (x3 : Addr) (x4 : Addr) (x8 : Addr) (x11b : Option Addr) (x11n : Nat) (x11c : Nat) (x12 : Int) (x13 : Int) (x18 : Int) (x28 : Bool) (Kn : T2) (Ke2 : T2) (Ke1 : T2) (Ke0 : T0) (Kr : T0) (h : H) : Prop := cond x28 (n17 x1 x2 x3 x4 x8 x11b x11n x11c x12 x13 Kn Ke2 Ke1 Ke0 Kr h) (n18 x1 x2 x3 x4 x8 x11b x11n x11c x12 x13 x18 Kn Ke2 Ke1 Ke0 Kr h)
theorem n16_ok (x1 : Int) (x2 : Addr) (x3 : Addr) (x4 : Addr) (x8 : Addr) (x11b : Option Addr) (x11n : Nat) (x11c : Nat) (x12 : Int) (x13 : Int) (x18 : Int) (x28 : Bool) (Kn : T2) (Ke2 : T2) (Ke1 : T2) (Ke0 : T0) (Kr : T0) (g : Env) (hg : E7 g x1 x2 x3 x4 x8 x11b x11n x11c x12 x13 x18 x28) (h : H) (hS : n16 x1 x2 x3 x4 x8 x11b x11n x11c x12 x13 x18 x28 Kn Ke2 Ke1 Ke0 Kr h) : wpC none Try.prog 77 n15_c2 (Q4 Kn Ke2 Ke1 Ke0 Kr) g h := by
  obtain ⟨hg1, hg2, hg3, hg4, hg8, hg11, hg12, hg13, hg18, hg28, hds⟩ := hg
  have hx : evalE 77 g (.tmp 28) = .bool x28 := by
    show cond (Nat.blt 28 77) (g.v 28) undef = _
    rw [hg28]; rfl
  unfold n16 at hS
  refine wpC_cond' (o := .tmp 28) (x := n16_c1) (y := n16_c2) (by kernel_rfl) hx (fun hb => ?_) (fun hb => ?_)
  · subst hb
    exact n17_ok x1 x2 x3 x4 x8 x11b x11n x11c x12 x13 Kn Ke2 Ke1 Ke0 Kr g ⟨hg1, hg2, hg3, hg4, hg8, hg11, hg12, hg13, hds⟩ h hS
  · subst hb
    exact n18_ok x1 x2 x3 x4 x8 x11b x11n x11c x12 x13 x18 Kn Ke2 Ke1 Ke0 Kr g ⟨hg1, hg2, hg3, hg4, hg8, hg11, hg12, hg13, hg18, hds⟩ h hS
def Q10 (Kn : T7) (Ke2 : T2) (Ke1 : T2) (Ke0 : T0) (Kr : T0) : XPost
  | .normal, g, h => D7 Kn g h
  | .ret, g, h => D0 Kr g h
  | .exit id, g, h => cond (Nat.beq id 2) (D2 Ke2 g h) (cond (Nat.beq id 1) (D2 Ke1 g h) (cond (Nat.beq id 0) (D0 Ke0 g h) (False)))
  | _, _, _ => False
abbrev n15 (x1 : Int) (x2 : Addr) (x3 : Addr) (x4 : Addr) (x8 : Addr) (x11b : Option Addr) (x11n : Nat) (x11c : Nat) (x12 : Int) (x13 : Int) (x18 : Int) (Kn : T2) (Ke2 : T2) (Ke1 : T2) (Ke0 : T0) (Kr : T0) (h : H) : Prop :=
  Spl (x18 = (3 : Int)) (n16 x1 x2 x3 x4 x8 x11b x11n x11c x12 x13 x18 true Kn Ke2 Ke1 Ke0 Kr h) (n16 x1 x2 x3 x4 x8 x11b x11n x11c x12 x13 x18 false Kn Ke2 Ke1 Ke0 Kr h)
theorem n15_ok (x1 : Int) (x2 : Addr) (x3 : Addr) (x4 : Addr) (x8 : Addr) (x11b : Option Addr) (x11n : Nat) (x11c : Nat) (x12 : Int) (x13 : Int) (x18 : Int) (Kn : T2) (Ke2 : T2) (Ke1 : T2) (Ke0 : T0) (Kr : T0) (g : Env) (hg : E5 g x1 x2 x3 x4 x8 x11b x11n x11c x12 x13 x18) (h : H) (hS : n15 x1 x2 x3 x4 x8 x11b x11n x11c x12 x13 x18 Kn Ke2 Ke1 Ke0 Kr h) : wpC none Try.prog 77 n13_c2 (Q4 Kn Ke2 Ke1 Ke0 Kr) g h := by
  obtain ⟨hg1, hg2, hg3, hg4, hg8, hg11, hg12, hg13, hg18, hds⟩ := hg
  refine wpC_seq' (x := n15_c1) (y := n15_c2) (Q' := (Q10 (fun z1 z2 z3 z4 z8 z11b z11n z11c z12 z13 z18 z28 h => n16 z1 z2 z3 z4 z8 z11b z11n z11c z12 z13 z18 z28 Kn Ke2 Ke1 Ke0 Kr h) Ke2 Ke1 Ke0 Kr)) (by kernel_rfl) ?_ ?_
  · refine wpC_of_wpx (by kernel_rfl) (by kernel_rfl) (g' := (((((((((⟨g.v, []⟩ : Env).upd (some 1) (.int .i64 x1)).upd (some 2) (.pointer (some x2))).upd (some 3) (.pointer (some x3))).upd (some 4) (.pointer (some x4))).upd (some 8) (.pointer (some x8))).upd (some 11) (.slice x11b x11n x11c)).upd (some 12) (.int .i64 x12)).upd (some 13) (.int .i64 x13)).upd (some 18) (.int .u8 x18)) (by rw [env_ds hds, upd_self hg1, upd_self hg2, upd_self hg3, upd_self hg4, upd_self hg8, upd_self hg11, upd_self hg12, upd_self hg13, upd_self hg18]) ?_
    have e : (n15 x1 x2 x3 x4 x8 x11b x11n x11c x12 x13 x18 Kn Ke2 Ke1 Ke0 Kr h) = wpx none Try.prog 77 n15_c1 (Q10 (fun z1 z2 z3 z4 z8 z11b z11n z11c z12 z13 z18 z28 h => n16 z1 z2 z3 z4 z8 z11b z11n z11c z12 z13 z18 z28 Kn Ke2 Ke1 Ke0 Kr h) Ke2 Ke1 Ke0 Kr) ((((((((((⟨g.v, []⟩ : Env).upd (some 1) (.int .i64 x1)).upd (some 2) (.pointer (some x2))).upd (some 3) (.pointer (some x3))).upd (some 4) (.pointer (some x4))).upd (some 8) (.pointer (some x8))).upd (some 11) (.slice x11b x11n x11c)).upd (some 12) (.int .i64 x12)).upd (some 13) (.int .i64 x13)).upd (some 18) (.int .u8 x18)) h := by kernel_rfl
    exact e ▸ hS
  · intro e g' h' hq
    cases e with
    | normal =>
      have hq : D7 (fun z1 z2 z3 z4 z8 z11b z11n z11c z12 z13 z18 z28 h => n16 z1 z2 z3 z4 z8 z11b z11n z11c z12 z13 z18 z28 Kn Ke2 Ke1 Ke0 Kr h) g' h' := hq
      obtain ⟨y1, y2, y3, y4, y8, y11b, y11n, y11c, y12, y13, y18, y28, hg', hq⟩ := D7_ok hq
      exact n16_ok y1 y2 y3 y4 y8 y11b y11n y11c y12 y13 y18 y28 Kn Ke2 Ke1 Ke0 Kr g' hg' h' hq
    | _ => exact hq
abbrev n13 (x1 : Int) (x2 : Addr) (x3 : Addr) (x4 : Addr) (x8 : Addr) (x11b : Option Addr) (x11n : Nat) (x11c : Nat) (x12 : Int) (x13 : Int) (x18 : Int) (x19 : Bool) (Kn : T2) (Ke2 : T2) (Ke1 : T2) (Ke0 : T0) (Kr : T0) (h : H) : Prop := cond x19 (n14 x1 x2 x3 x4 x8 x11b x11n x11c x12 x13 Kn Ke2 Ke1 Ke0 Kr h) (n15 x1 x2 x3 x4 x8 x11b x11n x11c x12 x13 x18 Kn Ke2 Ke1 Ke0 Kr h)
theorem n13_ok (x1 : Int) (x2 : Addr) (x3 : Addr) (x4 : Addr) (x8 : Addr) (x11b : Option Addr) (x11n : Nat) (x11c : Nat) (x12 : Int) (x13 : Int) (x18 : Int) (x19 : Bool) (Kn : T2) (Ke2 : T2) (Ke1 : T2) (Ke0 : T0) (Kr : T0) (g : Env) (hg : E6 g x1 x2 x3 x4 x8 x11b x11n x11c x12 x13 x18 x19) (h : H) (hS : n13 x1 x2 x3 x4 x8 x11b x11n x11c x12 x13 x18 x19 Kn Ke2 Ke1 Ke0 Kr h) : wpC none Try.prog 77 n12_c2 (Q4 Kn Ke2 Ke1 Ke0 Kr) g h := by
  obtain ⟨hg1, hg2, hg3, hg4, hg8, hg11, hg12, hg13, hg18, hg19, hds⟩ := hg
  have hx : evalE 77 g (.tmp 19) = .bool x19 := by
    show cond (Nat.blt 19 77) (g.v 19) undef = _
    rw [hg19]; rfl
  unfold n13 at hS
  refine wpC_cond' (o := .tmp 19) (x := n13_c1) (y := n13_c2) (by kernel_rfl) hx (fun hb => ?_) (fun hb => ?_)
  · subst hb
    exact n14_ok x1 x2 x3 x4 x8 x11b x11n x11c x12 x13 Kn Ke2 Ke1 Ke0 Kr g ⟨hg1, hg2, hg3, hg4, hg8, hg11, hg12, hg13, hds⟩ h hS
  · subst hb
    exact n15_ok x1 x2 x3 x4 x8 x11b x11n x11c x12 x13 x18 Kn Ke2 Ke1 Ke0 Kr g ⟨hg1, hg2, hg3, hg4, hg8, hg11, hg12, hg13, hg18, hds⟩ h hS
def Q11 (Kn : T6) (Ke2 : T2) (Ke1 : T2) (Ke0 : T0) (Kr : T0) : XPost
  | .normal, g, h => D6 Kn g h
  | .ret, g, h => D0 Kr g h
  | .exit id, g, h => cond (Nat.beq id 2) (D2 Ke2 g h) (cond (Nat.beq id 1) (D2 Ke1 g h) (cond (Nat.beq id 0) (D0 Ke0 g h) (False)))
  | _, _, _ => False
abbrev n12 (x1 : Int) (x2 : Addr) (x3 : Addr) (x4 : Addr) (x8 : Addr) (x11b : Option Addr) (x11n : Nat) (x11c : Nat) (x12 : Int) (x13 : Int) (x18 : Int) (Kn : T2) (Ke2 : T2) (Ke1 : T2) (Ke0 : T0) (Kr : T0) (h : H) : Prop :=
  Spl (x18 = (2 : Int)) (n13 x1 x2 x3 x4 x8 x11b x11n x11c x12 x13 x18 true Kn Ke2 Ke1 Ke0 Kr h) (n13 x1 x2 x3 x4 x8 x11b x11n x11c x12 x13 x18 false Kn Ke2 Ke1 Ke0 Kr h)
theorem n12_ok (x1 : Int) (x2 : Addr) (x3 : Addr) (x4 : Addr) (x8 : Addr) (x11b : Option Addr) (x11n : Nat) (x11c : Nat) (x12 : Int) (x13 : Int) (x18 : Int) (Kn : T2) (Ke2 : T2) (Ke1 : T2) (Ke0 : T0) (Kr : T0) (g : Env) (hg : E5 g x1 x2 x3 x4 x8 x11b x11n x11c x12 x13 x18) (h : H) (hS : n12 x1 x2 x3 x4 x8 x11b x11n x11c x12 x13 x18 Kn Ke2 Ke1 Ke0 Kr h) : wpC none Try.prog 77 n11_c1 (Q4 Kn Ke2 Ke1 Ke0 Kr) g h := by
  obtain ⟨hg1, hg2, hg3, hg4, hg8, hg11, hg12, hg13, hg18, hds⟩ := hg
  refine wpC_seq' (x := n12_c1) (y := n12_c2) (Q' := (Q11 (fun z1 z2 z3 z4 z8 z11b z11n z11c z12 z13 z18 z19 h => n13 z1 z2 z3 z4 z8 z11b z11n z11c z12 z13 z18 z19 Kn Ke2 Ke1 Ke0 Kr h) Ke2 Ke1 Ke0 Kr)) (by kernel_rfl) ?_ ?_
  · refine wpC_of_wpx (by kernel_rfl) (by kernel_rfl) (g' := (((((((((⟨g.v, []⟩ : Env).upd (some 1) (.int .i64 x1)).upd (some 2) (.pointer (some x2))).upd (some 3) (.pointer (some x3))).upd (some 4) (.pointer (some x4))).upd (some 8) (.pointer (some x8))).upd (some 11) (.slice x11b x11n x11c)).upd (some 12) (.int .i64 x12)).upd (some 13) (.int .i64 x13)).upd (some 18) (.int .u8 x18)) (by rw [env_ds hds, upd_self hg1, upd_self hg2, upd_self hg3, upd_self hg4, upd_self hg8, upd_self hg11, upd_self hg12, upd_self hg13, upd_self hg18]) ?_
    have e : (n12 x1 x2 x3 x4 x8 x11b x11n x11c x12 x13 x18 Kn Ke2 Ke1 Ke0 Kr h) = wpx none Try.prog 77 n12_c1 (Q11 (fun z1 z2 z3 z4 z8 z11b z11n z11c z12 z13 z18 z19 h => n13 z1 z2 z3 z4 z8 z11b z11n z11c z12 z13 z18 z19 Kn Ke2 Ke1 Ke0 Kr h) Ke2 Ke1 Ke0 Kr) ((((((((((⟨g.v, []⟩ : Env).upd (some 1) (.int .i64 x1)).upd (some 2) (.pointer (some x2))).upd (some 3) (.pointer (some x3))).upd (some 4) (.pointer (some x4))).upd (some 8) (.pointer (some x8))).upd (some 11) (.slice x11b x11n x11c)).upd (some 12) (.int .i64 x12)).upd (some 13) (.int .i64 x13)).upd (some 18) (.int .u8 x18)) h := by kernel_rfl
    exact e ▸ hS
  · intro e g' h' hq
    cases e with
    | normal =>
      have hq : D6 (fun z1 z2 z3 z4 z8 z11b z11n z11c z12 z13 z18 z19 h => n13 z1 z2 z3 z4 z8 z11b z11n z11c z12 z13 z18 z19 Kn Ke2 Ke1 Ke0 Kr h) g' h' := hq
      obtain ⟨y1, y2, y3, y4, y8, y11b, y11n, y11c, y12, y13, y18, y19, hg', hq⟩ := D6_ok hq
      exact n13_ok y1 y2 y3 y4 y8 y11b y11n y11c y12 y13 y18 y19 Kn Ke2 Ke1 Ke0 Kr g' hg' h' hq
    | _ => exact hq
abbrev n11 (x1 : Int) (x2 : Addr) (x3 : Addr) (x4 : Addr) (x8 : Addr) (x11b : Option Addr) (x11n : Nat) (x11c : Nat) (x12 : Int) (x13 : Int) (x18 : Int) (Kn : T2) (Ke1 : T2) (Ke0 : T0) (Kr : T0) (h : H) : Prop := n12 x1 x2 x3 x4 x8 x11b x11n x11c x12 x13 x18 Kn Kn Ke1 Ke0 Kr h
theorem n11_ok (x1 : Int) (x2 : Addr) (x3 : Addr) (x4 : Addr) (x8 : Addr) (x11b : Option Addr) (x11n : Nat) (x11c : Nat) (x12 : Int) (x13 : Int) (x18 : Int) (Kn : T2) (Ke1 : T2) (Ke0 : T0) (Kr : T0) (g : Env) (hg : E5 g x1 x2 x3 x4 x8 x11b x11n x11c x12 x13 x18) (h : H) (hS : n11 x1 x2 x3 x4 x8 x11b x11n x11c x12 x13 x18 Kn Ke1 Ke0 Kr h) : wpC none Try.prog 77 n10_c2 (Q3 Kn Ke1 Ke0 Kr) g h := by
  refine wpC_block' (id := 2) (x := n11_c1) (by kernel_rfl) (n12_ok x1 x2 x3 x4 x8 x11b x11n x11c x12 x13 x18 Kn Kn Ke1 Ke0 Kr g hg h hS) ?_
  intro e g' h' hq
  cases e <;> exact hq
def Q12 (Kn : T5) (Ke1 : T2) (Ke0 : T0) (Kr : T0) : XPost
  | .normal, g, h => D5 Kn g h
  | .ret, g, h => D0 Kr g h
  | .exit id, g, h => cond (Nat.beq id 1) (D2 Ke1 g h) (cond (Nat.beq id 0) (D0 Ke0 g h) (False))
  | _, _, _ => False
abbrev n10 (x1 : Int) (x2 : Addr) (x3 : Addr) (x4 : Addr) (x8 : Addr) (x11b : Option Addr) (x11n : Nat) (x11c : Nat) (x12 : Int) (x13 : Int) (Kn : T2) (Ke1 : T2) (Ke0 : T0) (Kr : T0) (h : H) : Prop :=
  ∃ i338, cell h (x8.add 0) = some (.int .u8 i338) ∧ (n11 x1 x2 x3 x4 x8 x11b x11n x11c x12 x13 i338 Kn Ke1 Ke0 Kr h)
theorem n10_ok (x1 : Int) (x2 : Addr) (x3 : Addr) (x4 : Addr) (x8 : Addr) (x11b : Option Addr) (x11n : Nat) (x11c : Nat) (x12 : Int) (x13 : Int) (Kn : T2) (Ke1 : T2) (Ke0 : T0) (Kr : T0) (g : Env) (hg : E4 g x1 x2 x3 x4 x8 x11b x11n x11c x12 x13) (h : H) (hS : n10 x1 x2 x3 x4 x8 x11b x11n x11c x12 x13 Kn Ke1 Ke0 Kr h) : wpC none Try.prog 77 n9_c2 (Q3 Kn Ke1 Ke0 Kr) g h := by
  obtain ⟨hg1, hg2, hg3, hg4, hg8, hg11, hg12, hg13, hds⟩ := hg
  refine wpC_seq' (x := n10_c1) (y := n10_c2) (Q' := (Q12 (fun z1 z2 z3 z4 z8 z11b z11n z11c z12 z13 z18 h => n11 z1 z2 z3 z4 z8 z11b z11n z11c z12 z13 z18 Kn Ke1 Ke0 Kr h) Ke1 Ke0 Kr)) (by kernel_rfl) ?_ ?_
  · refine wpC_of_wpx (by kernel_rfl) (by kernel_rfl) (g' := ((((((((⟨g.v, []⟩ : Env).upd (some 1) (.int .i64 x1)).upd (some 2) (.pointer (some x2))).upd (some 3) (.pointer (some x3))).upd (some 4) (.pointer (some x4))).upd (some 8) (.pointer (some x8))).upd (some 11) (.slice x11b x11n x11c)).upd (some 12) (.int .i64 x12)).upd (some 13) (.int .i64 x13)) (by rw [env_ds hds, upd_self hg1, upd_self hg2, upd_self hg3, upd_self hg4, upd_self hg8, upd_self hg11, upd_self hg12, upd_self hg13]) ?_
    have e : (n10 x1 x2 x3 x4 x8 x11b x11n x11c x12 x13 Kn Ke1 Ke0 Kr h) = wpx none Try.prog 77 n10_c1 (Q12 (fun z1 z2 z3 z4 z8 z11b z11n z11c z12 z13 z18 h => n11 z1 z2 z3 z4 z8 z11b z11n z11c z12 z13 z18 Kn Ke1 Ke0 Kr h) Ke1 Ke0 Kr) (((((((((⟨g.v, []⟩ : Env).upd (some 1) (.int .i64 x1)).upd (some 2) (.pointer (some x2))).upd (some 3) (.pointer (some x3))).upd (some 4) (.pointer (some x4))).upd (some 8) (.pointer (some x8))).upd (some 11) (.slice x11b x11n x11c)).upd (some 12) (.int .i64 x12)).upd (some 13) (.int .i64 x13)) h := by kernel_rfl
    exact e ▸ hS
  · intro e g' h' hq
    cases e with
    | normal =>
      have hq : D5 (fun z1 z2 z3 z4 z8 z11b z11n z11c z12 z13 z18 h => n11 z1 z2 z3 z4 z8 z11b z11n z11c z12 z13 z18 Kn Ke1 Ke0 Kr h) g' h' := hq
      obtain ⟨y1, y2, y3, y4, y8, y11b, y11n, y11c, y12, y13, y18, hg', hq⟩ := D5_ok hq
      exact n11_ok y1 y2 y3 y4 y8 y11b y11n y11c y12 y13 y18 Kn Ke1 Ke0 Kr g' hg' h' hq
    | _ => exact hq
def Q13 (Kn : T4) (Ke1 : T2) (Ke0 : T0) (Kr : T0) : XPost
  | .normal, g, h => D4 Kn g h
  | .ret, g, h => D0 Kr g h
  | .exit id, g, h => cond (Nat.beq id 1) (D2 Ke1 g h) (cond (Nat.beq id 0) (D0 Ke0 g h) (False))
  | _, _, _ => False
abbrev n9 (x1 : Int) (x2 : Addr) (x3 : Addr) (x4 : Addr) (x11b : Option Addr) (x11n : Nat) (x11c : Nat) (x12 : Int) (x13 : Int) (Kn : T2) (Ke1 : T2) (Ke0 : T0) (Kr : T0) (h : H) : Prop :=
  (0 ≤ x13 ∧ x13 < (x11n : Int)) ∧ (vSome x11b fun a339 => ∃ i340, cell h (((a339.add (Int.toNat x13 * 6))).add 0) = some (.int .u8 i340) ∧ (∃ i341, cell h (((a339.add (Int.toNat x13 * 6))).add 1) = some (.int .u8 i341) ∧ (∃ s342, cell h (((a339.add (Int.toNat x13 * 6))).add 2) = some (S s342) ∧ (∃ s343b s343n s343c, cell h (((a339.add (Int.toNat x13 * 6))).add 3) = some (.slice s343b s343n s343c) ∧ (∃ s344, cell h (((a339.add (Int.toNat x13 * 6))).add 4) = some (S s344) ∧ (∃ s345b s345n s345c, cell h (((a339.add (Int.toNat x13 * 6))).add 5) = some (.slice s345b s345n s345c) ∧ (newx h ⟨[(.int .u8 (0 : Int)), (.int .u8 (0 : Int)), (S ([] : List UInt8)), (.slice none 0 0), (S ([] : List UInt8)), (.slice none 0 0)]⟩ 31 fun a346 h347 => stL a346 [(.int .u8 i340), (.int .u8 i341), (S s342), (.slice s343b s343n s343c), (S s344), (.slice s345b s345n s345c)] 0 h347 fun h348 => n10 x1 x2 x3 x4 a346 x11b x11n x11c x12 x13 Kn Ke1 Ke0 Kr h348)))))))
theorem n9_ok (x1 : Int) (x2 : Addr) (x3 : Addr) (x4 : Addr) (x11b : Option Addr) (x11n : Nat) (x11c : Nat) (x12 : Int) (x13 : Int) (Kn : T2) (Ke1 : T2) (Ke0 : T0) (Kr : T0) (g : Env) (hg : E2 g x1 x2 x3 x4 x11b x11n x11c x12 x13) (h : H) (hS : n9 x1 x2 x3 x4 x11b x11n x11c x12 x13 Kn Ke1 Ke0 Kr h) : wpC none Try.prog 77 n8_c1 (Q3 Kn Ke1 Ke0 Kr) g h := by
  obtain ⟨hg1, hg2, hg3, hg4, hg11, hg12, hg13, hds⟩ := hg
  refine wpC_seq' (x := n9_c1) (y := n9_c2) (Q' := (Q13 (fun z1 z2 z3 z4 z8 z11b z11n z11c z12 z13 h => n10 z1 z2 z3 z4 z8 z11b z11n z11c z12 z13 Kn Ke1 Ke0 Kr h) Ke1 Ke0 Kr)) (by kernel_rfl) ?_ ?_
  · refine wpC_of_wpx (by kernel_rfl) (by kernel_rfl) (g' := (((((((⟨g.v, []⟩ : Env).upd (some 1) (.int .i64 x1)).upd (some 2) (.pointer (some x2))).upd (some 3) (.pointer (some x3))).upd (some 4) (.pointer (some x4))).upd (some 11) (.slice x11b x11n x11c)).upd (some 12) (.int .i64 x12)).upd (some 13) (.int .i64 x13)) (by rw [env_ds hds, upd_self hg1, upd_self hg2, upd_self hg3, upd_self hg4, upd_self hg11, upd_self hg12, upd_self hg13]) ?_
    have e : (n9 x1 x2 x3 x4 x11b x11n x11c x12 x13 Kn Ke1 Ke0 Kr h) = wpx none Try.prog 77 n9_c1 (Q13 (fun z1 z2 z3 z4 z8 z11b z11n z11c z12 z13 h => n10 z1 z2 z3 z4 z8 z11b z11n z11c z12 z13 Kn Ke1 Ke0 Kr h) Ke1 Ke0 Kr) ((((((((⟨g.v, []⟩ : Env).upd (some 1) (.int .i64 x1)).upd (some 2) (.pointer (some x2))).upd (some 3) (.pointer (some x3))).upd (some 4) (.pointer (some x4))).upd (some 11) (.slice x11b x11n x11c)).upd (some 12) (.int .i64 x12)).upd (some 13) (.int .i64 x13)) h := by kernel_rfl
    exact e ▸ hS
  · intro e g' h' hq
    cases e with
    | normal =>
      have hq : D4 (fun z1 z2 z3 z4 z8 z11b z11n z11c z12 z13 h => n10 z1 z2 z3 z4 z8 z11b z11n z11c z12 z13 Kn Ke1 Ke0 Kr h) g' h' := hq
      obtain ⟨y1, y2, y3, y4, y8, y11b, y11n, y11c, y12, y13, hg', hq⟩ := D4_ok hq
      exact n10_ok y1 y2 y3 y4 y8 y11b y11n y11c y12 y13 Kn Ke1 Ke0 Kr g' hg' h' hq
    | _ => exact hq
abbrev n8 (x1 : Int) (x2 : Addr) (x3 : Addr) (x4 : Addr) (x11b : Option Addr) (x11n : Nat) (x11c : Nat) (x12 : Int) (x13 : Int) (Kn : T2) (Ke0 : T0) (Kr : T0) (h : H) : Prop := n9 x1 x2 x3 x4 x11b x11n x11c x12 x13 Kn Kn Ke0 Kr h
theorem n8_ok (x1 : Int) (x2 : Addr) (x3 : Addr) (x4 : Addr) (x11b : Option Addr) (x11n : Nat) (x11c : Nat) (x12 : Int) (x13 : Int) (Kn : T2) (Ke0 : T0) (Kr : T0) (g : Env) (hg : E2 g x1 x2 x3 x4 x11b x11n x11c x12 x13) (h : H) (hS : n8 x1 x2 x3 x4 x11b x11n x11c x12 x13 Kn Ke0 Kr h) : wpC none Try.prog 77 n6_c1 (Q2 Kn Ke0 Kr) g h := by
  refine wpC_block' (id := 1) (x := n8_c1) (by kernel_rfl) (n9_ok x1 x2 x3 x4 x11b x11n x11c x12 x13 Kn Kn Ke0 Kr g hg h hS) ?_
  intro e g' h' hq
  cases e <;> exact hq
abbrev n6 (x1 : Int) (x2 : Addr) (x3 : Addr) (x4 : Addr) (x11b : Option Addr) (x11n : Nat) (x11c : Nat) (x12 : Int) (x13 : Int) (Kn : T2) (Ke0 : T0) (Kr : T0) (h : H) : Prop := n8 x1 x2 x3 x4 x11b x11n x11c x12 x13 (fun z1 z2 z3 z4 z11b z11n z11c z12 z13 h => n7 z1 z2 z3 z4 z11b z11n z11c z12 z13 Kn Ke0 Kr h) Ke0 Kr h
theorem n6_ok (x1 : Int) (x2 : Addr) (x3 : Addr) (x4 : Addr) (x11b : Option Addr) (x11n : Nat) (x11c : Nat) (x12 : Int) (x13 : Int) (Kn : T2) (Ke0 : T0) (Kr : T0) (g : Env) (hg : E2 g x1 x2 x3 x4 x11b x11n x11c x12 x13) (h : H) (hS : n6 x1 x2 x3 x4 x11b x11n x11c x12 x13 Kn Ke0 Kr h) : wpC none Try.prog 77 n5_c2 (Q2 Kn Ke0 Kr) g h := by
  refine wpC_seq' (x := n6_c1) (y := n6_c2) (by kernel_rfl) (n8_ok x1 x2 x3 x4 x11b x11n x11c x12 x13 (fun z1 z2 z3 z4 z11b z11n z11c z12 z13 h => n7 z1 z2 z3 z4 z11b z11n z11c z12 z13 Kn Ke0 Kr h) Ke0 Kr g hg h hS) ?_
  intro e g' h' hq
  cases e with
  | normal =>
    have hq : D2 (fun z1 z2 z3 z4 z11b z11n z11c z12 z13 h => n7 z1 z2 z3 z4 z11b z11n z11c z12 z13 Kn Ke0 Kr h) g' h' := hq
    obtain ⟨y1, y2, y3, y4, y11b, y11n, y11c, y12, y13, hg', hq⟩ := D2_ok hq
    exact n7_ok y1 y2 y3 y4 y11b y11n y11c y12 y13 Kn Ke0 Kr g' hg' h' hq
  | _ => exact hq
abbrev n5 (x1 : Int) (x2 : Addr) (x3 : Addr) (x4 : Addr) (x11b : Option Addr) (x11n : Nat) (x11c : Nat) (x12 : Int) (x13 : Int) (x14 : Value) (Kn : T2) (Ke0 : T0) (Kr : T0) (h : H) : Prop :=
  vBool x14 fun b349 => cond b349 (n6 x1 x2 x3 x4 x11b x11n x11c x12 x13 Kn Ke0 Kr h) (Ke0 h)
theorem n5_ok (x1 : Int) (x2 : Addr) (x3 : Addr) (x4 : Addr) (x11b : Option Addr) (x11n : Nat) (x11c : Nat) (x12 : Int) (x13 : Int) (x14 : Value) (Kn : T2) (Ke0 : T0) (Kr : T0) (g : Env) (hg : E3 g x1 x2 x3 x4 x11b x11n x11c x12 x13 x14) (h : H) (hS : n5 x1 x2 x3 x4 x11b x11n x11c x12 x13 x14 Kn Ke0 Kr h) : wpC none Try.prog 77 n4_c2 (Q2 Kn Ke0 Kr) g h := by
  obtain ⟨hg1, hg2, hg3, hg4, hg11, hg12, hg13, hg14, hds⟩ := hg
  refine wpC_seq' (x := n5_c1) (y := n5_c2) (Q' := (Q2 (fun z1 z2 z3 z4 z11b z11n z11c z12 z13 h => n6 z1 z2 z3 z4 z11b z11n z11c z12 z13 Kn Ke0 Kr h) Ke0 Kr)) (by kernel_rfl) ?_ ?_
  · refine wpC_of_wpx (by kernel_rfl) (by kernel_rfl) (g' := ((((((((⟨g.v, []⟩ : Env).upd (some 1) (.int .i64 x1)).upd (some 2) (.pointer (some x2))).upd (some 3) (.pointer (some x3))).upd (some 4) (.pointer (some x4))).upd (some 11) (.slice x11b x11n x11c)).upd (some 12) (.int .i64 x12)).upd (some 13) (.int .i64 x13)).upd (some 14) x14) (by rw [env_ds hds, upd_self hg1, upd_self hg2, upd_self hg3, upd_self hg4, upd_self hg11, upd_self hg12, upd_self hg13, upd_self hg14]) ?_
    have e : (n5 x1 x2 x3 x4 x11b x11n x11c x12 x13 x14 Kn Ke0 Kr h) = wpx none Try.prog 77 n5_c1 (Q2 (fun z1 z2 z3 z4 z11b z11n z11c z12 z13 h => n6 z1 z2 z3 z4 z11b z11n z11c z12 z13 Kn Ke0 Kr h) Ke0 Kr) (((((((((⟨g.v, []⟩ : Env).upd (some 1) (.int .i64 x1)).upd (some 2) (.pointer (some x2))).upd (some 3) (.pointer (some x3))).upd (some 4) (.pointer (some x4))).upd (some 11) (.slice x11b x11n x11c)).upd (some 12) (.int .i64 x12)).upd (some 13) (.int .i64 x13)).upd (some 14) x14) h := by kernel_rfl
    exact e ▸ hS
  · intro e g' h' hq
    cases e with
    | normal =>
      have hq : D2 (fun z1 z2 z3 z4 z11b z11n z11c z12 z13 h => n6 z1 z2 z3 z4 z11b z11n z11c z12 z13 Kn Ke0 Kr h) g' h' := hq
      obtain ⟨y1, y2, y3, y4, y11b, y11n, y11c, y12, y13, hg', hq⟩ := D2_ok hq
      exact n6_ok y1 y2 y3 y4 y11b y11n y11c y12 y13 Kn Ke0 Kr g' hg' h' hq
    | _ => exact hq
def Q14 (Kn : T3) (Ke0 : T0) (Kr : T0) : XPost
  | .normal, g, h => D3 Kn g h
  | .ret, g, h => D0 Kr g h
  | .exit id, g, h => cond (Nat.beq id 0) (D0 Ke0 g h) (False)
  | _, _, _ => False
abbrev n4 (x1 : Int) (x2 : Addr) (x3 : Addr) (x4 : Addr) (x11b : Option Addr) (x11n : Nat) (x11c : Nat) (x12 : Int) (x13 : Int) (Kn : T2) (Ke0 : T0) (Kr : T0) (h : H) : Prop :=
  Spl (x13 < x12) (n5 x1 x2 x3 x4 x11b x11n x11c x12 x13 (.bool true) Kn Ke0 Kr h) (n5 x1 x2 x3 x4 x11b x11n x11c x12 x13 (.bool false) Kn Ke0 Kr h)
theorem n4_ok (x1 : Int) (x2 : Addr) (x3 : Addr) (x4 : Addr) (x11b : Option Addr) (x11n : Nat) (x11c : Nat) (x12 : Int) (x13 : Int) (Kn : T2) (Ke0 : T0) (Kr : T0) (g : Env) (hg : E2 g x1 x2 x3 x4 x11b x11n x11c x12 x13) (h : H) (hS : n4 x1 x2 x3 x4 x11b x11n x11c x12 x13 Kn Ke0 Kr h) : wpC none Try.prog 77 n3_c1 (Q2 Kn Ke0 Kr) g h := by
  obtain ⟨hg1, hg2, hg3, hg4, hg11, hg12, hg13, hds⟩ := hg
  refine wpC_seq' (x := n4_c1) (y := n4_c2) (Q' := (Q14 (fun z1 z2 z3 z4 z11b z11n z11c z12 z13 z14 h => n5 z1 z2 z3 z4 z11b z11n z11c z12 z13 z14 Kn Ke0 Kr h) Ke0 Kr)) (by kernel_rfl) ?_ ?_
  · refine wpC_of_wpx (by kernel_rfl) (by kernel_rfl) (g' := (((((((⟨g.v, []⟩ : Env).upd (some 1) (.int .i64 x1)).upd (some 2) (.pointer (some x2))).upd (some 3) (.pointer (some x3))).upd (some 4) (.pointer (some x4))).upd (some 11) (.slice x11b x11n x11c)).upd (some 12) (.int .i64 x12)).upd (some 13) (.int .i64 x13)) (by rw [env_ds hds, upd_self hg1, upd_self hg2, upd_self hg3, upd_self hg4, upd_self hg11, upd_self hg12, upd_self hg13]) ?_
    have e : (n4 x1 x2 x3 x4 x11b x11n x11c x12 x13 Kn Ke0 Kr h) = wpx none Try.prog 77 n4_c1 (Q14 (fun z1 z2 z3 z4 z11b z11n z11c z12 z13 z14 h => n5 z1 z2 z3 z4 z11b z11n z11c z12 z13 z14 Kn Ke0 Kr h) Ke0 Kr) ((((((((⟨g.v, []⟩ : Env).upd (some 1) (.int .i64 x1)).upd (some 2) (.pointer (some x2))).upd (some 3) (.pointer (some x3))).upd (some 4) (.pointer (some x4))).upd (some 11) (.slice x11b x11n x11c)).upd (some 12) (.int .i64 x12)).upd (some 13) (.int .i64 x13)) h := by kernel_rfl
    exact e ▸ hS
  · intro e g' h' hq
    cases e with
    | normal =>
      have hq : D3 (fun z1 z2 z3 z4 z11b z11n z11c z12 z13 z14 h => n5 z1 z2 z3 z4 z11b z11n z11c z12 z13 z14 Kn Ke0 Kr h) g' h' := hq
      obtain ⟨y1, y2, y3, y4, y11b, y11n, y11c, y12, y13, y14, hg', hq⟩ := D3_ok hq
      exact n5_ok y1 y2 y3 y4 y11b y11n y11c y12 y13 y14 Kn Ke0 Kr g' hg' h' hq
    | _ => exact hq
def n3_L (Kn : T0) (Ke0 : T0) (Kr : T0) : Nat → Int → Addr → Addr → Addr → (Option Addr) → Nat → Nat → Int → Int → H → Prop
  | 0 => fun _ _ _ _ _ _ _ _ _ _ => False
  | N + 1 => fun x1 x2 x3 x4 x11b x11n x11c x12 x13 h => n4 x1 x2 x3 x4 x11b x11n x11c x12 x13 (fun z1 z2 z3 z4 z11b z11n z11c z12 z13 h => n3_L Kn Ke0 Kr N z1 z2 z3 z4 z11b z11n z11c z12 z13 h) Ke0 Kr h
abbrev n3 (x1 : Int) (x2 : Addr) (x3 : Addr) (x4 : Addr) (x11b : Option Addr) (x11n : Nat) (x11c : Nat) (x12 : Int) (x13 : Int) (Kn : T0) (Ke0 : T0) (Kr : T0) (h : H) : Prop := ∃ N, n3_L Kn Ke0 Kr N x1 x2 x3 x4 x11b x11n x11c x12 x13 h
theorem n3_ok (x1 : Int) (x2 : Addr) (x3 : Addr) (x4 : Addr) (x11b : Option Addr) (x11n : Nat) (x11c : Nat) (x12 : Int) (x13 : Int) (Kn : T0) (Ke0 : T0) (Kr : T0) (g : Env) (hg : E2 g x1 x2 x3 x4 x11b x11n x11c x12 x13) (h : H) (hS : n3 x1 x2 x3 x4 x11b x11n x11c x12 x13 Kn Ke0 Kr h) : wpC none Try.prog 77 n2_c1 (Q1 Kn Ke0 Kr) g h := by
  obtain ⟨N0, hS⟩ := hS
  refine wpC_loop' (x := n3_c1) (by kernel_rfl) (fun k g h => ∃ (x1 : Int) (x2 : Addr) (x3 : Addr) (x4 : Addr) (x11b : Option Addr) (x11n : Nat) (x11c : Nat) (x12 : Int) (x13 : Int), E2 g x1 x2 x3 x4 x11b x11n x11c x12 x13 ∧ n3_L Kn Ke0 Kr k x1 x2 x3 x4 x11b x11n x11c x12 x13 h) (fun g h hr => ?_) (fun N g h hr => ?_) N0 ⟨x1, x2, x3, x4, x11b, x11n, x11c, x12, x13, hg, hS⟩
  · obtain ⟨x1, x2, x3, x4, x11b, x11n, x11c, x12, x13, hg, hS⟩ := hr
    exact hS.elim
  · obtain ⟨x1, x2, x3, x4, x11b, x11n, x11c, x12, x13, hg, hS⟩ := hr
    refine (n4_ok x1 x2 x3 x4 x11b x11n x11c x12 x13 (fun z1 z2 z3 z4 z11b z11n z11c z12 z13 h => n3_L Kn Ke0 Kr N z1 z2 z3 z4 z11b z11n z11c z12 z13 h) Ke0 Kr g hg h hS).mono ?_
    intro e g' h' hq
    cases e with
    | normal => exact D2_ok (K := (fun z1 z2 z3 z4 z11b z11n z11c z12 z13 h => n3_L Kn Ke0 Kr N z1 z2 z3 z4 z11b z11n z11c z12 z13 h)) hq
    | _ => exact hq
abbrev n2 (x1 : Int) (x2 : Addr) (x3 : Addr) (x4 : Addr) (x11b : Option Addr) (x11n : Nat) (x11c : Nat) (x12 : Int) (x13 : Int) (Kn : T0) (Kr : T0) (h : H) : Prop := n3 x1 x2 x3 x4 x11b x11n x11c x12 x13 Kn Kn Kr h
theorem n2_ok (x1 : Int) (x2 : Addr) (x3 : Addr) (x4 : Addr) (x11b : Option Addr) (x11n : Nat) (x11c : Nat) (x12 : Int) (x13 : Int) (Kn : T0) (Kr : T0) (g : Env) (hg : E2 g x1 x2 x3 x4 x11b x11n x11c x12 x13) (h : H) (hS : n2 x1 x2 x3 x4 x11b x11n x11c x12 x13 Kn Kr h) : wpC none Try.prog 77 n1_c2 (Q0 Kn Kr) g h := by
  refine wpC_block' (id := 0) (x := n2_c1) (by kernel_rfl) (n3_ok x1 x2 x3 x4 x11b x11n x11c x12 x13 Kn Kn Kr g hg h hS) ?_
  intro e g' h' hq
  cases e <;> exact hq
def Q15 (Kn : T2) (Kr : T0) : XPost
  | .normal, g, h => D2 Kn g h
  | .ret, g, h => D0 Kr g h
  | _, _, _ => False
abbrev n1 (x0b : Option Addr) (x0n : Nat) (x0c : Nat) (x1 : Int) (x2 : Addr) (x3 : Addr) (x4 : Addr) (Kn : T0) (Kr : T0) (h : H) : Prop :=
  n2 x1 x2 x3 x4 x0b x0n x0c (x0n : Int) (0 : Int) Kn Kr h
theorem n1_ok (x0b : Option Addr) (x0n : Nat) (x0c : Nat) (x1 : Int) (x2 : Addr) (x3 : Addr) (x4 : Addr) (Kn : T0) (Kr : T0) (g : Env) (hg : E1 g x0b x0n x0c x1 x2 x3 x4) (h : H) (hS : n1 x0b x0n x0c x1 x2 x3 x4 Kn Kr h) : wpC none Try.prog 77 code (Q0 Kn Kr) g h := by
  obtain ⟨hg0, hg1, hg2, hg3, hg4, hds⟩ := hg
  refine wpC_seq' (x := n1_c1) (y := n1_c2) (Q' := (Q15 (fun z1 z2 z3 z4 z11b z11n z11c z12 z13 h => n2 z1 z2 z3 z4 z11b z11n z11c z12 z13 Kn Kr h) Kr)) (by kernel_rfl) ?_ ?_
  · refine wpC_of_wpx (by kernel_rfl) (by kernel_rfl) (g' := (((((⟨g.v, []⟩ : Env).upd (some 0) (.slice x0b x0n x0c)).upd (some 1) (.int .i64 x1)).upd (some 2) (.pointer (some x2))).upd (some 3) (.pointer (some x3))).upd (some 4) (.pointer (some x4))) (by rw [env_ds hds, upd_self hg0, upd_self hg1, upd_self hg2, upd_self hg3, upd_self hg4]) ?_
    have e : (n1 x0b x0n x0c x1 x2 x3 x4 Kn Kr h) = wpx none Try.prog 77 n1_c1 (Q15 (fun z1 z2 z3 z4 z11b z11n z11c z12 z13 h => n2 z1 z2 z3 z4 z11b z11n z11c z12 z13 Kn Kr h) Kr) ((((((⟨g.v, []⟩ : Env).upd (some 0) (.slice x0b x0n x0c)).upd (some 1) (.int .i64 x1)).upd (some 2) (.pointer (some x2))).upd (some 3) (.pointer (some x3))).upd (some 4) (.pointer (some x4))) h := by kernel_rfl
    exact e ▸ hS
  · intro e g' h' hq
    cases e with
    | normal =>
      have hq : D2 (fun z1 z2 z3 z4 z11b z11n z11c z12 z13 h => n2 z1 z2 z3 z4 z11b z11n z11c z12 z13 Kn Kr h) g' h' := hq
      obtain ⟨y1, y2, y3, y4, y11b, y11n, y11c, y12, y13, hg', hq⟩ := D2_ok hq
      exact n2_ok y1 y2 y3 y4 y11b y11n y11c y12 y13 Kn Kr g' hg' h' hq
    | _ => exact hq
/-- WHAT tympan/dom.Print$2 ASKS -/
abbrev asks (x0b : Option Addr) (x0n : Nat) (x0c : Nat) (x1 : Int) (x2 : Addr) (x3 : Addr) (x4 : Addr) (K : Value → H → Prop) (h : H) : Prop := n1 x0b x0n x0c x1 x2 x3 x4 (fun h => K (.tuple ⟨[]⟩) h) (fun h => K (.tuple ⟨[]⟩) h) h
theorem ok (x0b : Option Addr) (x0n : Nat) (x0c : Nat) (x1 : Int) (x2 : Addr) (x3 : Addr) (x4 : Addr) (K : Value → H → Prop) (h : H) (hS : asks x0b x0n x0c x1 x2 x3 x4 K h) : HCalls Try.prog 60 ⟨[(.slice x0b x0n x0c), (.int .i64 x1), (.pointer (some x2)), (.pointer (some x3)), (.pointer (some x4))]⟩ h K := by
  refine calls_of_wpC (c := code) Try.func60 (by kernel_rfl) (Nat.le_of_ble_eq_true (by kernel_rfl)) ?_
  refine (n1_ok x0b x0n x0c x1 x2 x3 x4 (fun h => K (.tuple ⟨[]⟩) h) (fun h => K (.tuple ⟨[]⟩) h) (env0 [(.slice x0b x0n x0c), (.int .i64 x1), (.pointer (some x2)), (.pointer (some x3)), (.pointer (some x4))]) ⟨rfl, rfl, rfl, rfl, rfl, rfl⟩ h hS).mono ?_
  intro e g' h' hq
  cases e with
  | normal =>
    have hq : D0 (fun h => K (.tuple ⟨[]⟩) h) g' h' := hq
    obtain ⟨hd, hq⟩ := D0_ok hq
    show leaveX g'.ds h' _
    rw [hd]
    show K (.tuple ⟨[]⟩) h'
    exact hq
  | ret =>
    have hq : D0 (fun h => K (.tuple ⟨[]⟩) h) g' h' := hq
    obtain ⟨hd, hq⟩ := D0_ok hq
    show leaveX g'.ds h' _
    rw [hd]
    show K (.tuple ⟨[]⟩) h'
    exact hq
  | _ => exact hq
end Sx.dom_Print_2
end Go.Proofs
