/- The shallow forms of functions, printed by sh.py out of the translation; each with its proof. No condition. -/
import Derived.Test.YtggejikikcffmaaShJ
import Derived.Test.YtggejikikcffmaaProg
namespace Go.Proofs
open Go Go.Sh
set_option linter.unusedVariables false
set_option maxRecDepth 100000

/-! ### tympan/open.outwards -/
namespace Sx.open_outwards
noncomputable def code : Code := bodyOf Try.f25
abbrev T0 := Value → H → Prop
def E0 (g : Env) (x2 : Value) : Prop := g.v 2 = x2 ∧ g.ds = []
def D0 (K : T0) (g : Env) (h : H) : Prop := nilDs g.ds (K (g.v 2) h)
theorem D0_ok {K : T0} {g : Env} {h : H} (hq : D0 K g h) : ∃ (x2 : Value), E0 g x2 ∧ K x2 h := by
  obtain ⟨hd, hq⟩ := nilDs_ok hq
  skip
  exact ⟨(g.v 2), ⟨rfl, hd⟩, hq⟩
def Q0 (Kn : T0) (Kr : T0) : XPost
  | .normal, g, h => D0 Kn g h
  | .ret, g, h => D0 Kr g h
  | _, _, _ => False
abbrev T1 := (Option Addr) → Nat → Nat → H → Prop
def E1 (g : Env) (x0b : Option Addr) (x0n : Nat) (x0c : Nat) : Prop := g.v 0 = (.slice x0b x0n x0c) ∧ g.ds = []
def D1 (K : T1) (g : Env) (h : H) : Prop := nilDs g.ds (vSlice (g.v 0) fun s1b s1n s1c => K s1b s1n s1c h)
theorem D1_ok {K : T1} {g : Env} {h : H} (hq : D1 K g h) : ∃ (x0b : Option Addr) (x0n : Nat) (x0c : Nat), E1 g x0b x0n x0c ∧ K x0b x0n x0c h := by
  obtain ⟨hd, hq⟩ := nilDs_ok hq
  obtain ⟨y3b, y3n, y3c, e2, q4⟩ := vSlice_ok hq
  exact ⟨y3b, y3n, y3c, ⟨e2, hd⟩, q4⟩
abbrev n1 (x0b : Option Addr) (x0n : Nat) (x0c : Nat) (Kn : T0) (Kr : T0) (h : H) : Prop :=
  HCalls Try.prog 32 ⟨[(.slice x0b x0n x0c)]⟩ h fun v5 h6 => Kr v5 h6
theorem n1_ok (x0b : Option Addr) (x0n : Nat) (x0c : Nat) (Kn : T0) (Kr : T0) (g : Env) (hg : E1 g x0b x0n x0c) (h : H) (hS : n1 x0b x0n x0c Kn Kr h) : wpC none Try.prog 5 code (Q0 Kn Kr) g h := by
  obtain ⟨hg0, hds⟩ := hg
  refine wpC_of_wpx (by kernel_rfl) (by kernel_rfl) (g' := (⟨g.v, []⟩ : Env).upd (some 0) (.slice x0b x0n x0c)) (by rw [env_ds hds, upd_self hg0]) ?_
  have e : (n1 x0b x0n x0c Kn Kr h) = wpx none Try.prog 5 code (Q0 Kn Kr) ((⟨g.v, []⟩ : Env).upd (some 0) (.slice x0b x0n x0c)) h := by kernel_rfl
  exact e ▸ hS
/-- WHAT tympan/open.outwards ASKS -/
abbrev asks (x0b : Option Addr) (x0n : Nat) (x0c : Nat) (K : Value → H → Prop) (h : H) : Prop := n1 x0b x0n x0c (fun y2 h => K y2 h) (fun y2 h => K y2 h) h
theorem ok (x0b : Option Addr) (x0n : Nat) (x0c : Nat) (K : Value → H → Prop) (h : H) (hS : asks x0b x0n x0c K h) : HCalls Try.prog 25 ⟨[(.slice x0b x0n x0c)]⟩ h K := by
  refine calls_of_wpC (c := code) Try.func25 (by kernel_rfl) (Nat.le_of_ble_eq_true (by kernel_rfl)) ?_
  refine (n1_ok x0b x0n x0c (fun y2 h => K y2 h) (fun y2 h => K y2 h) (env0 [(.slice x0b x0n x0c)]) ⟨rfl, rfl⟩ h hS).mono ?_
  intro e g' h' hq
  cases e with
  | normal =>
    have hq : D0 (fun y2 h => K y2 h) g' h' := hq
    obtain ⟨y2, ⟨hg2, hd⟩, hq⟩ := D0_ok hq
    show leaveX g'.ds h' _
    rw [hd]
    show K (g'.v 2) h'
    rw [hg2]
    exact hq
  | ret =>
    have hq : D0 (fun y2 h => K y2 h) g' h' := hq
    obtain ⟨y2, ⟨hg2, hd⟩, hq⟩ := D0_ok hq
    show leaveX g'.ds h' _
    rw [hd]
    show K (g'.v 2) h'
    rw [hg2]
    exact hq
  | _ => exact hq
end Sx.open_outwards

/-! ### tympan/open.of -/
namespace Sx.open_of
noncomputable def code : Code := bodyOf Try.f26
abbrev T0 := Bool → H → Prop
def E0 (g : Env) (x4 : Bool) : Prop := g.v 4 = (.bool x4) ∧ g.ds = []
def D0 (K : T0) (g : Env) (h : H) : Prop := nilDs g.ds (vBool (g.v 4) fun b1 => K b1 h)
theorem D0_ok {K : T0} {g : Env} {h : H} (hq : D0 K g h) : ∃ (x4 : Bool), E0 g x4 ∧ K x4 h := by
  obtain ⟨hd, hq⟩ := nilDs_ok hq
  obtain ⟨y3, e2, q4⟩ := vBool_ok hq
  exact ⟨y3, ⟨e2, hd⟩, q4⟩
def Q0 (Kn : T0) (Kr : T0) : XPost
  | .normal, g, h => D0 Kn g h
  | .ret, g, h => D0 Kr g h
  | _, _, _ => False
abbrev T1 := Int → Int → (List UInt8) → Int → (Option Addr) → Nat → Nat → H → Prop
def E1 (g : Env) (x0_0 : Int) (x0_1 : Int) (x0_2 : List UInt8) (x0_3 : Int) (x1b : Option Addr) (x1n : Nat) (x1c : Nat) : Prop := g.v 0 = (.agg ⟨[(.int .i64 x0_0), (.int .u8 x0_1), (S x0_2), (.int .u8 x0_3)]⟩) ∧ g.v 1 = (.slice x1b x1n x1c) ∧ g.ds = []
def D1 (K : T1) (g : Env) (h : H) : Prop := nilDs g.ds (vAgg (g.v 0) fun l5 => uncons l5 fun e6 l7 => vInt .i64 e6 fun i8 => uncons l7 fun e9 l10 => vInt .u8 e9 fun i11 => uncons l10 fun e12 l13 => vStr e12 fun s14 => uncons l13 fun e15 l16 => vInt .u8 e15 fun i17 => unnil l16 (vSlice (g.v 1) fun s18b s18n s18c => K i8 i11 s14 i17 s18b s18n s18c h))
theorem D1_ok {K : T1} {g : Env} {h : H} (hq : D1 K g h) : ∃ (x0_0 : Int) (x0_1 : Int) (x0_2 : List UInt8) (x0_3 : Int) (x1b : Option Addr) (x1n : Nat) (x1c : Nat), E1 g x0_0 x0_1 x0_2 x0_3 x1b x1n x1c ∧ K x0_0 x0_1 x0_2 x0_3 x1b x1n x1c h := by
  obtain ⟨hd, hq⟩ := nilDs_ok hq
  obtain ⟨l20, e19, q21⟩ := vAgg_ok hq
  obtain ⟨u22, l23, rfl, q24⟩ := uncons_ok q21
  obtain ⟨y25, rfl, q26⟩ := vInt_ok q24
  obtain ⟨u27, l28, rfl, q29⟩ := uncons_ok q26
  obtain ⟨y30, rfl, q31⟩ := vInt_ok q29
  obtain ⟨u32, l33, rfl, q34⟩ := uncons_ok q31
  obtain ⟨y35, rfl, q36⟩ := vStr_ok q34
  obtain ⟨u37, l38, rfl, q39⟩ := uncons_ok q36
  obtain ⟨y40, rfl, q41⟩ := vInt_ok q39
  obtain ⟨rfl, q42⟩ := unnil_ok q41
  obtain ⟨y44b, y44n, y44c, e43, q45⟩ := vSlice_ok q42
  exact ⟨y25, y30, y35, y40, y44b, y44n, y44c, ⟨e19, e43, hd⟩, q45⟩
abbrev n1 (x0_0 : Int) (x0_1 : Int) (x0_2 : List UInt8) (x0_3 : Int) (x1b : Option Addr) (x1n : Nat) (x1c : Nat) (Kn : T0) (Kr : T0) (h : H) : Prop :=
  newx h ⟨[(.int .i64 x0_0), (.int .u8 x0_1), (S x0_2), (.int .u8 x0_3)]⟩ 37 fun a46 h47 => ∃ i48, cell h47 (a46.add 1) = some (.int .u8 i48) ∧ (Spl (i48 = (0 : Int)) (∃ s49, cell h47 (a46.add 2) = some (S s49) ∧ (HCalls Try.prog 33 ⟨[(.slice x1b x1n x1c), (S s49)]⟩ h47 fun v50 h51 => vBool v50 fun b52 => cond b52 (Kr true h51) (Kr false h51))) (Kr false h47))
theorem n1_ok (x0_0 : Int) (x0_1 : Int) (x0_2 : List UInt8) (x0_3 : Int) (x1b : Option Addr) (x1n : Nat) (x1c : Nat) (Kn : T0) (Kr : T0) (g : Env) (hg : E1 g x0_0 x0_1 x0_2 x0_3 x1b x1n x1c) (h : H) (hS : n1 x0_0 x0_1 x0_2 x0_3 x1b x1n x1c Kn Kr h) : wpC none Try.prog 14 code (Q0 Kn Kr) g h := by
  obtain ⟨hg0, hg1, hds⟩ := hg
  refine wpC_of_wpx (by kernel_rfl) (by kernel_rfl) (g' := ((⟨g.v, []⟩ : Env).upd (some 0) (.agg ⟨[(.int .i64 x0_0), (.int .u8 x0_1), (S x0_2), (.int .u8 x0_3)]⟩)).upd (some 1) (.slice x1b x1n x1c)) (by rw [env_ds hds, upd_self hg0, upd_self hg1]) ?_
  have e : (n1 x0_0 x0_1 x0_2 x0_3 x1b x1n x1c Kn Kr h) = wpx none Try.prog 14 code (Q0 Kn Kr) (((⟨g.v, []⟩ : Env).upd (some 0) (.agg ⟨[(.int .i64 x0_0), (.int .u8 x0_1), (S x0_2), (.int .u8 x0_3)]⟩)).upd (some 1) (.slice x1b x1n x1c)) h := by kernel_rfl
  exact e ▸ hS
/-- WHAT tympan/open.of ASKS -/
abbrev asks (x0_0 : Int) (x0_1 : Int) (x0_2 : List UInt8) (x0_3 : Int) (x1b : Option Addr) (x1n : Nat) (x1c : Nat) (K : Value → H → Prop) (h : H) : Prop := n1 x0_0 x0_1 x0_2 x0_3 x1b x1n x1c (fun y4 h => K (.bool y4) h) (fun y4 h => K (.bool y4) h) h
theorem ok (x0_0 : Int) (x0_1 : Int) (x0_2 : List UInt8) (x0_3 : Int) (x1b : Option Addr) (x1n : Nat) (x1c : Nat) (K : Value → H → Prop) (h : H) (hS : asks x0_0 x0_1 x0_2 x0_3 x1b x1n x1c K h) : HCalls Try.prog 26 ⟨[(.agg ⟨[(.int .i64 x0_0), (.int .u8 x0_1), (S x0_2), (.int .u8 x0_3)]⟩), (.slice x1b x1n x1c)]⟩ h K := by
  refine calls_of_wpC (c := code) Try.func26 (by kernel_rfl) (Nat.le_of_ble_eq_true (by kernel_rfl)) ?_
  refine (n1_ok x0_0 x0_1 x0_2 x0_3 x1b x1n x1c (fun y4 h => K (.bool y4) h) (fun y4 h => K (.bool y4) h) (env0 [(.agg ⟨[(.int .i64 x0_0), (.int .u8 x0_1), (S x0_2), (.int .u8 x0_3)]⟩), (.slice x1b x1n x1c)]) ⟨rfl, rfl, rfl⟩ h hS).mono ?_
  intro e g' h' hq
  cases e with
  | normal =>
    have hq : D0 (fun y4 h => K (.bool y4) h) g' h' := hq
    obtain ⟨y4, ⟨hg4, hd⟩, hq⟩ := D0_ok hq
    show leaveX g'.ds h' _
    rw [hd]
    show K (g'.v 4) h'
    rw [hg4]
    exact hq
  | ret =>
    have hq : D0 (fun y4 h => K (.bool y4) h) g' h' := hq
    obtain ⟨y4, ⟨hg4, hd⟩, hq⟩ := D0_ok hq
    show leaveX g'.ds h' _
    rw [hd]
    show K (g'.v 4) h'
    rw [hg4]
    exact hq
  | _ => exact hq
end Sx.open_of

/-! ### tympan/open.bounds -/
namespace Sx.open_bounds
noncomputable def code : Code := bodyOf Try.f27
abbrev T0 := Bool → H → Prop
def E0 (g : Env) (x4 : Bool) : Prop := g.v 4 = (.bool x4) ∧ g.ds = []
def D0 (K : T0) (g : Env) (h : H) : Prop := nilDs g.ds (vBool (g.v 4) fun b1 => K b1 h)
theorem D0_ok {K : T0} {g : Env} {h : H} (hq : D0 K g h) : ∃ (x4 : Bool), E0 g x4 ∧ K x4 h := by
  obtain ⟨hd, hq⟩ := nilDs_ok hq
  obtain ⟨y3, e2, q4⟩ := vBool_ok hq
  exact ⟨y3, ⟨e2, hd⟩, q4⟩
def Q0 (Kn : T0) (Kr : T0) : XPost
  | .normal, g, h => D0 Kn g h
  | .ret, g, h => D0 Kr g h
  | _, _, _ => False
abbrev T1 := Int → Int → (List UInt8) → Int → Int → H → Prop
def E1 (g : Env) (x0_0 : Int) (x0_1 : Int) (x0_2 : List UInt8) (x0_3 : Int) (x1 : Int) : Prop := g.v 0 = (.agg ⟨[(.int .i64 x0_0), (.int .u8 x0_1), (S x0_2), (.int .u8 x0_3)]⟩) ∧ g.v 1 = (.int .u8 x1) ∧ g.ds = []
def D1 (K : T1) (g : Env) (h : H) : Prop := nilDs g.ds (vAgg (g.v 0) fun l5 => uncons l5 fun e6 l7 => vInt .i64 e6 fun i8 => uncons l7 fun e9 l10 => vInt .u8 e9 fun i11 => uncons l10 fun e12 l13 => vStr e12 fun s14 => uncons l13 fun e15 l16 => vInt .u8 e15 fun i17 => unnil l16 (vInt .u8 (g.v 1) fun i18 => K i8 i11 s14 i17 i18 h))
theorem D1_ok {K : T1} {g : Env} {h : H} (hq : D1 K g h) : ∃ (x0_0 : Int) (x0_1 : Int) (x0_2 : List UInt8) (x0_3 : Int) (x1 : Int), E1 g x0_0 x0_1 x0_2 x0_3 x1 ∧ K x0_0 x0_1 x0_2 x0_3 x1 h := by
  obtain ⟨hd, hq⟩ := nilDs_ok hq
  obtain ⟨l20, e19, q21⟩ := vAgg_ok hq
  obtain ⟨u22, l23, rfl, q24⟩ := uncons_ok q21
  obtain ⟨y25, rfl, q26⟩ := vInt_ok q24
  obtain ⟨u27, l28, rfl, q29⟩ := uncons_ok q26
  obtain ⟨y30, rfl, q31⟩ := vInt_ok q29
  obtain ⟨u32, l33, rfl, q34⟩ := uncons_ok q31
  obtain ⟨y35, rfl, q36⟩ := vStr_ok q34
  obtain ⟨u37, l38, rfl, q39⟩ := uncons_ok q36
  obtain ⟨y40, rfl, q41⟩ := vInt_ok q39
  obtain ⟨rfl, q42⟩ := unnil_ok q41
  obtain ⟨y44, e43, q45⟩ := vInt_ok q42
  exact ⟨y25, y30, y35, y40, y44, ⟨e19, e43, hd⟩, q45⟩
noncomputable def n1_c1 : Code := cFst code
noncomputable def n1_c2 : Code := cSnd code
abbrev T2 := Int → Addr → H → Prop
def E2 (g : Env) (x1 : Int) (x2 : Addr) : Prop := g.v 1 = (.int .u8 x1) ∧ g.v 2 = (.pointer (some x2)) ∧ g.ds = []
def D2 (K : T2) (g : Env) (h : H) : Prop := nilDs g.ds (vInt .u8 (g.v 1) fun i46 => vAddr (g.v 2) fun a47 => K i46 a47 h)
theorem D2_ok {K : T2} {g : Env} {h : H} (hq : D2 K g h) : ∃ (x1 : Int) (x2 : Addr), E2 g x1 x2 ∧ K x1 x2 h := by
  obtain ⟨hd, hq⟩ := nilDs_ok hq
  obtain ⟨y49, e48, q50⟩ := vInt_ok hq
  obtain ⟨y52, e51, q53⟩ := vAddr_ok q50
  exact ⟨y49, y52, ⟨e48, e51, hd⟩, q53⟩
noncomputable def n2_c1 : Code := cFst n1_c2
noncomputable def n2_c2 : Code := cSnd n1_c2
abbrev T3 := Addr → H → Prop
def E3 (g : Env) (x2 : Addr) : Prop := g.v 2 = (.pointer (some x2)) ∧ g.ds = []
def D3 (K : T3) (g : Env) (h : H) : Prop := nilDs g.ds (vAddr (g.v 2) fun a54 => K a54 h)
theorem D3_ok {K : T3} {g : Env} {h : H} (hq : D3 K g h) : ∃ (x2 : Addr), E3 g x2 ∧ K x2 h := by
  obtain ⟨hd, hq⟩ := nilDs_ok hq
  obtain ⟨y56, e55, q57⟩ := vAddr_ok hq
  exact ⟨y56, ⟨e55, hd⟩, q57⟩
abbrev n3 (x2 : Addr) (Kn : T0) (Kr : T0) (h : H) : Prop :=
  ∃ s58, cell h (x2.add 2) = some (S s58) ∧ (HCalls Try.prog 30 ⟨[(S ([32, 97, 112, 112, 108, 101, 116, 32, 99, 97, 112, 116, 105, 111, 110, 32, 104, 116, 109, 108, 32, 109, 97, 114, 113, 117, 101, 101, 32, 111, 98, 106, 101, 99, 116, 32, 116, 97, 98, 108, 101, 32, 116, 100, 32, 116, 101, 109, 112, 108, 97, 116, 101, 32, 116, 104, 32] : List UInt8)), (S s58)]⟩ h fun v59 h60 => vBool v59 fun b61 => cond b61 (Kr true h60) (Kr false h60))
theorem n3_ok (x2 : Addr) (Kn : T0) (Kr : T0) (g : Env) (hg : E3 g x2) (h : H) (hS : n3 x2 Kn Kr h) : wpC none Try.prog 38 n2_c2 (Q0 Kn Kr) g h := by
  obtain ⟨hg2, hds⟩ := hg
  refine wpC_of_wpx (by kernel_rfl) (by kernel_rfl) (g' := (⟨g.v, []⟩ : Env).upd (some 2) (.pointer (some x2))) (by rw [env_ds hds, upd_self hg2]) ?_
  have e : (n3 x2 Kn Kr h) = wpx none Try.prog 38 n2_c2 (Q0 Kn Kr) ((⟨g.v, []⟩ : Env).upd (some 2) (.pointer (some x2))) h := by kernel_rfl
  exact e ▸ hS
def Q1 (Kn : T3) (Kr : T0) : XPost
  | .normal, g, h => D3 Kn g h
  | .ret, g, h => D0 Kr g h
  | _, _, _ => False
noncomputable def n4_c1 : Code := cFst n2_c1
def Q2 (Kn : T3) (Ke0 : T3) (Kr : T0) : XPost
  | .normal, g, h => D3 Kn g h
  | .ret, g, h => D0 Kr g h
  | .exit id, g, h => cond (Nat.beq id 0) (D3 Ke0 g h) (False)
  | _, _, _ => False
noncomputable def n5_c1 : Code := cFst n4_c1
noncomputable def n5_c2 : Code := cSnd n4_c1
abbrev T4 := Int → Addr → Bool → H → Prop
def E4 (g : Env) (x1 : Int) (x2 : Addr) (x5 : Bool) : Prop := g.v 1 = (.int .u8 x1) ∧ g.v 2 = (.pointer (some x2)) ∧ g.v 5 = (.bool x5) ∧ g.ds = []
def D4 (K : T4) (g : Env) (h : H) : Prop := nilDs g.ds (vInt .u8 (g.v 1) fun i62 => vAddr (g.v 2) fun a63 => vBool (g.v 5) fun b64 => K i62 a63 b64 h)
theorem D4_ok {K : T4} {g : Env} {h : H} (hq : D4 K g h) : ∃ (x1 : Int) (x2 : Addr) (x5 : Bool), E4 g x1 x2 x5 ∧ K x1 x2 x5 h := by
  obtain ⟨hd, hq⟩ := nilDs_ok hq
  obtain ⟨y66, e65, q67⟩ := vInt_ok hq
  obtain ⟨y69, e68, q70⟩ := vAddr_ok q67
  obtain ⟨y72, e71, q73⟩ := vBool_ok q70
  exact ⟨y66, y69, y72, ⟨e65, e68, e71, hd⟩, q73⟩
noncomputable def n6_c1 : Code := cFst n5_c2
noncomputable def n6_c2 : Code := cSnd n5_c2
abbrev n7 (x2 : Addr) (Kn : T3) (Ke0 : T3) (Kr : T0) (h : H) : Prop :=
  ∃ i74, cell h ((x2).add 0) = some (.int .i64 i74) ∧ (∃ i75, cell h ((x2).add 1) = some (.int .u8 i75) ∧ (∃ s76, cell h ((x2).add 2) = some (S s76) ∧ (∃ i77, cell h ((x2).add 3) = some (.int .u8 i77) ∧ (newx h #[(S ([104, 116, 109, 108] : List UInt8)), (S ([116, 97, 98, 108, 101] : List UInt8)), (S ([116, 101, 109, 112, 108, 97, 116, 101] : List UInt8))] 9 fun a78 h79 => HCalls Try.prog 26 ⟨[(.agg ⟨[(.int .i64 i74), (.int .u8 i75), (S s76), (.int .u8 i77)]⟩), (.slice (some a78) 3 3)]⟩ h79 fun v80 h81 => vBool v80 fun b82 => cond b82 (Kr true h81) (Kr false h81)))))
theorem n7_ok (x2 : Addr) (Kn : T3) (Ke0 : T3) (Kr : T0) (g : Env) (hg : E3 g x2) (h : H) (hS : n7 x2 Kn Ke0 Kr h) : wpC none Try.prog 38 n6_c1 (Q2 Kn Ke0 Kr) g h := by
  obtain ⟨hg2, hds⟩ := hg
  refine wpC_of_wpx (by kernel_rfl) (by kernel_rfl) (g' := (⟨g.v, []⟩ : Env).upd (some 2) (.pointer (some x2))) (by rw [env_ds hds, upd_self hg2]) ?_
  have e : (n7 x2 Kn Ke0 Kr h) = wpx none Try.prog 38 n6_c1 (Q2 Kn Ke0 Kr) ((⟨g.v, []⟩ : Env).upd (some 2) (.pointer (some x2))) h := by kernel_rfl
  exact e ▸ hS
noncomputable def n8_c1 : Code := cFst n6_c2
noncomputable def n8_c2 : Code := cSnd n6_c2
abbrev T5 := Int → Addr → Bool → H → Prop
def E5 (g : Env) (x1 : Int) (x2 : Addr) (x11 : Bool) : Prop := g.v 1 = (.int .u8 x1) ∧ g.v 2 = (.pointer (some x2)) ∧ g.v 11 = (.bool x11) ∧ g.ds = []
def D5 (K : T5) (g : Env) (h : H) : Prop := nilDs g.ds (vInt .u8 (g.v 1) fun i83 => vAddr (g.v 2) fun a84 => vBool (g.v 11) fun b85 => K i83 a84 b85 h)
theorem D5_ok {K : T5} {g : Env} {h : H} (hq : D5 K g h) : ∃ (x1 : Int) (x2 : Addr) (x11 : Bool), E5 g x1 x2 x11 ∧ K x1 x2 x11 h := by
  obtain ⟨hd, hq⟩ := nilDs_ok hq
  obtain ⟨y87, e86, q88⟩ := vInt_ok hq
  obtain ⟨y90, e89, q91⟩ := vAddr_ok q88
  obtain ⟨y93, e92, q94⟩ := vBool_ok q91
  exact ⟨y87, y90, y93, ⟨e86, e89, e92, hd⟩, q94⟩
noncomputable def n9_c1 : Code := cFst n8_c2
noncomputable def n9_c2 : Code := cSnd n8_c2
abbrev n10 (x2 : Addr) (Kn : T3) (Ke0 : T3) (Kr : T0) (h : H) : Prop :=
  ∃ i95, cell h (x2.add 1) = some (.int .u8 i95) ∧ (∃ s96, cell h (x2.add 2) = some (S s96) ∧ (HCalls Try.prog 12 ⟨[(.int .u8 i95), (S s96)]⟩ h fun v97 h98 => vBool v97 fun b99 => cond b99 (Kr true h98) (Kr false h98)))
theorem n10_ok (x2 : Addr) (Kn : T3) (Ke0 : T3) (Kr : T0) (g : Env) (hg : E3 g x2) (h : H) (hS : n10 x2 Kn Ke0 Kr h) : wpC none Try.prog 38 n9_c1 (Q2 Kn Ke0 Kr) g h := by
  obtain ⟨hg2, hds⟩ := hg
  refine wpC_of_wpx (by kernel_rfl) (by kernel_rfl) (g' := (⟨g.v, []⟩ : Env).upd (some 2) (.pointer (some x2))) (by rw [env_ds hds, upd_self hg2]) ?_
  have e : (n10 x2 Kn Ke0 Kr h) = wpx none Try.prog 38 n9_c1 (Q2 Kn Ke0 Kr) ((⟨g.v, []⟩ : Env).upd (some 2) (.pointer (some x2))) h := by kernel_rfl
  exact e ▸ hS
noncomputable def n11_c1 : Code := cFst n9_c2
noncomputable def n11_c2 : Code := cSnd n9_c2
abbrev T6 := Addr → Bool → H → Prop
def E6 (g : Env) (x2 : Addr) (x20 : Bool) : Prop := g.v 2 = (.pointer (some x2)) ∧ g.v 20 = (.bool x20) ∧ g.ds = []
def D6 (K : T6) (g : Env) (h : H) : Prop := nilDs g.ds (vAddr (g.v 2) fun a100 => vBool (g.v 20) fun b101 => K a100 b101 h)
theorem D6_ok {K : T6} {g : Env} {h : H} (hq : D6 K g h) : ∃ (x2 : Addr) (x20 : Bool), E6 g x2 x20 ∧ K x2 x20 h := by
  obtain ⟨hd, hq⟩ := nilDs_ok hq
  obtain ⟨y103, e102, q104⟩ := vAddr_ok hq
  obtain ⟨y106, e105, q107⟩ := vBool_ok q104
  exact ⟨y103, y106, ⟨e102, e105, hd⟩, q107⟩
abbrev n12 (x2 : Addr) (x20 : Bool) (Kn : T3) (Ke0 : T3) (Kr : T0) (h : H) : Prop :=
  cond x20 (Kr true h) (Kn x2 h)
theorem n12_ok (x2 : Addr) (x20 : Bool) (Kn : T3) (Ke0 : T3) (Kr : T0) (g : Env) (hg : E6 g x2 x20) (h : H) (hS : n12 x2 x20 Kn Ke0 Kr h) : wpC none Try.prog 38 n11_c2 (Q2 Kn Ke0 Kr) g h := by
  obtain ⟨hg2, hg20, hds⟩ := hg
  refine wpC_of_wpx (by kernel_rfl) (by kernel_rfl) (g' := ((⟨g.v, []⟩ : Env).upd (some 2) (.pointer (some x2))).upd (some 20) (.bool x20)) (by rw [env_ds hds, upd_self hg2, upd_self hg20]) ?_
  have e : (n12 x2 x20 Kn Ke0 Kr h) = wpx none Try.prog 38 n11_c2 (Q2 Kn Ke0 Kr) (((⟨g.v, []⟩ : Env).upd (some 2) (.pointer (some x2))).upd (some 20) (.bool x20)) h := by kernel_rfl
  exact e ▸ hS
def Q3 (Kn : T6) (Ke0 : T3) (Kr : T0) : XPost
  | .normal, g, h => D6 Kn g h
  | .ret, g, h => D0 Kr g h
  | .exit id, g, h => cond (Nat.beq id 0) (D3 Ke0 g h) (False)
  | _, _, _ => False
noncomputable def n13_c1 : Code := cFst n11_c1
noncomputable def n13_c2 : Code := cSnd n11_c1
abbrev T7 := Int → Addr → Bool → H → Prop
def E7 (g : Env) (x1 : Int) (x2 : Addr) (x20 : Bool) : Prop := g.v 1 = (.int .u8 x1) ∧ g.v 2 = (.pointer (some x2)) ∧ g.v 20 = (.bool x20) ∧ g.ds = []
def D7 (K : T7) (g : Env) (h : H) : Prop := nilDs g.ds (vInt .u8 (g.v 1) fun i108 => vAddr (g.v 2) fun a109 => vBool (g.v 20) fun b110 => K i108 a109 b110 h)
theorem D7_ok {K : T7} {g : Env} {h : H} (hq : D7 K g h) : ∃ (x1 : Int) (x2 : Addr) (x20 : Bool), E7 g x1 x2 x20 ∧ K x1 x2 x20 h := by
  obtain ⟨hd, hq⟩ := nilDs_ok hq
  obtain ⟨y112, e111, q113⟩ := vInt_ok hq
  obtain ⟨y115, e114, q116⟩ := vAddr_ok q113
  obtain ⟨y118, e117, q119⟩ := vBool_ok q116
  exact ⟨y112, y115, y118, ⟨e111, e114, e117, hd⟩, q119⟩
abbrev n14 (x1 : Int) (x2 : Addr) (x20 : Bool) (Kn : T6) (Ke0 : T3) (Kr : T0) (h : H) : Prop :=
  cond x20 (Kn x2 x20 h) (Spl (x1 = (2 : Int)) (∃ i120, cell h ((x2).add 0) = some (.int .i64 i120) ∧ (∃ i121, cell h ((x2).add 1) = some (.int .u8 i121) ∧ (∃ s122, cell h ((x2).add 2) = some (S s122) ∧ (∃ i123, cell h ((x2).add 3) = some (.int .u8 i123) ∧ (newx h #[(S ([98, 117, 116, 116, 111, 110] : List UInt8))] 9 fun a124 h125 => HCalls Try.prog 26 ⟨[(.agg ⟨[(.int .i64 i120), (.int .u8 i121), (S s122), (.int .u8 i123)]⟩), (.slice (some a124) 1 1)]⟩ h125 fun v126 h127 => vBool v126 fun b128 => cond b128 (Kn x2 true h127) (Kn x2 false h127)))))) (Kn x2 false h))
theorem n14_ok (x1 : Int) (x2 : Addr) (x20 : Bool) (Kn : T6) (Ke0 : T3) (Kr : T0) (g : Env) (hg : E7 g x1 x2 x20) (h : H) (hS : n14 x1 x2 x20 Kn Ke0 Kr h) : wpC none Try.prog 38 n13_c2 (Q3 Kn Ke0 Kr) g h := by
  obtain ⟨hg1, hg2, hg20, hds⟩ := hg
  refine wpC_of_wpx (by kernel_rfl) (by kernel_rfl) (g' := (((⟨g.v, []⟩ : Env).upd (some 1) (.int .u8 x1)).upd (some 2) (.pointer (some x2))).upd (some 20) (.bool x20)) (by rw [env_ds hds, upd_self hg1, upd_self hg2, upd_self hg20]) ?_
  have e : (n14 x1 x2 x20 Kn Ke0 Kr h) = wpx none Try.prog 38 n13_c2 (Q3 Kn Ke0 Kr) ((((⟨g.v, []⟩ : Env).upd (some 1) (.int .u8 x1)).upd (some 2) (.pointer (some x2))).upd (some 20) (.bool x20)) h := by kernel_rfl
  exact e ▸ hS
def Q4 (Kn : T7) (Ke0 : T3) (Kr : T0) : XPost
  | .normal, g, h => D7 Kn g h
  | .ret, g, h => D0 Kr g h
  | .exit id, g, h => cond (Nat.beq id 0) (D3 Ke0 g h) (False)
  | _, _, _ => False
abbrev n13 (x1 : Int) (x2 : Addr) (Kn : T6) (Ke0 : T3) (Kr : T0) (h : H) : Prop :=
  Spl (x1 = (1 : Int)) (∃ i129, cell h ((x2).add 0) = some (.int .i64 i129) ∧ (∃ i130, cell h ((x2).add 1) = some (.int .u8 i130) ∧ (∃ s131, cell h ((x2).add 2) = some (S s131) ∧ (∃ i132, cell h ((x2).add 3) = some (.int .u8 i132) ∧ (newx h #[(S ([111, 108] : List UInt8)), (S ([117, 108] : List UInt8))] 9 fun a133 h134 => HCalls Try.prog 26 ⟨[(.agg ⟨[(.int .i64 i129), (.int .u8 i130), (S s131), (.int .u8 i132)]⟩), (.slice (some a133) 2 2)]⟩ h134 fun v135 h136 => vBool v135 fun b137 => cond b137 (n14 x1 x2 true Kn Ke0 Kr h136) (n14 x1 x2 false Kn Ke0 Kr h136)))))) (n14 x1 x2 false Kn Ke0 Kr h)
theorem n13_ok (x1 : Int) (x2 : Addr) (Kn : T6) (Ke0 : T3) (Kr : T0) (g : Env) (hg : E2 g x1 x2) (h : H) (hS : n13 x1 x2 Kn Ke0 Kr h) : wpC none Try.prog 38 n11_c1 (Q3 Kn Ke0 Kr) g h := by
  obtain ⟨hg1, hg2, hds⟩ := hg
  refine wpC_seq' (x := n13_c1) (y := n13_c2) (Q' := (Q4 (fun z1 z2 z20 h => n14 z1 z2 z20 Kn Ke0 Kr h) Ke0 Kr)) (by kernel_rfl) ?_ ?_
  · refine wpC_of_wpx (by kernel_rfl) (by kernel_rfl) (g' := ((⟨g.v, []⟩ : Env).upd (some 1) (.int .u8 x1)).upd (some 2) (.pointer (some x2))) (by rw [env_ds hds, upd_self hg1, upd_self hg2]) ?_
    have e : (n13 x1 x2 Kn Ke0 Kr h) = wpx none Try.prog 38 n13_c1 (Q4 (fun z1 z2 z20 h => n14 z1 z2 z20 Kn Ke0 Kr h) Ke0 Kr) (((⟨g.v, []⟩ : Env).upd (some 1) (.int .u8 x1)).upd (some 2) (.pointer (some x2))) h := by kernel_rfl
    exact e ▸ hS
  · intro e g' h' hq
    cases e with
    | normal =>
      have hq : D7 (fun z1 z2 z20 h => n14 z1 z2 z20 Kn Ke0 Kr h) g' h' := hq
      obtain ⟨y1, y2, y20, hg', hq⟩ := D7_ok hq
      exact n14_ok y1 y2 y20 Kn Ke0 Kr g' hg' h' hq
    | _ => exact hq
abbrev n11 (x1 : Int) (x2 : Addr) (Kn : T3) (Ke0 : T3) (Kr : T0) (h : H) : Prop := n13 x1 x2 (fun z2 z20 h => n12 z2 z20 Kn Ke0 Kr h) Ke0 Kr h
theorem n11_ok (x1 : Int) (x2 : Addr) (Kn : T3) (Ke0 : T3) (Kr : T0) (g : Env) (hg : E2 g x1 x2) (h : H) (hS : n11 x1 x2 Kn Ke0 Kr h) : wpC none Try.prog 38 n9_c2 (Q2 Kn Ke0 Kr) g h := by
  refine wpC_seq' (x := n11_c1) (y := n11_c2) (by kernel_rfl) (n13_ok x1 x2 (fun z2 z20 h => n12 z2 z20 Kn Ke0 Kr h) Ke0 Kr g hg h hS) ?_
  intro e g' h' hq
  cases e with
  | normal =>
    have hq : D6 (fun z2 z20 h => n12 z2 z20 Kn Ke0 Kr h) g' h' := hq
    obtain ⟨y2, y20, hg', hq⟩ := D6_ok hq
    exact n12_ok y2 y20 Kn Ke0 Kr g' hg' h' hq
  | _ => exact hq
abbrev n9 (x1 : Int) (x2 : Addr) (x11 : Bool) (Kn : T3) (Ke0 : T3) (Kr : T0) (h : H) : Prop := cond x11 (n10 x2 Kn Ke0 Kr h) (n11 x1 x2 Kn Ke0 Kr h)
theorem n9_ok (x1 : Int) (x2 : Addr) (x11 : Bool) (Kn : T3) (Ke0 : T3) (Kr : T0) (g : Env) (hg : E5 g x1 x2 x11) (h : H) (hS : n9 x1 x2 x11 Kn Ke0 Kr h) : wpC none Try.prog 38 n8_c2 (Q2 Kn Ke0 Kr) g h := by
  obtain ⟨hg1, hg2, hg11, hds⟩ := hg
  have hx : evalE 38 g (.tmp 11) = .bool x11 := by
    show cond (Nat.blt 11 38) (g.v 11) undef = _
    rw [hg11]; rfl
  unfold n9 at hS
  refine wpC_cond' (o := .tmp 11) (x := n9_c1) (y := n9_c2) (by kernel_rfl) hx (fun hb => ?_) (fun hb => ?_)
  · subst hb
    exact n10_ok x2 Kn Ke0 Kr g ⟨hg2, hds⟩ h hS
  · subst hb
    exact n11_ok x1 x2 Kn Ke0 Kr g ⟨hg1, hg2, hds⟩ h hS
def Q5 (Kn : T5) (Ke0 : T3) (Kr : T0) : XPost
  | .normal, g, h => D5 Kn g h
  | .ret, g, h => D0 Kr g h
  | .exit id, g, h => cond (Nat.beq id 0) (D3 Ke0 g h) (False)
  | _, _, _ => False
abbrev n8 (x1 : Int) (x2 : Addr) (Kn : T3) (Ke0 : T3) (Kr : T0) (h : H) : Prop :=
  ∃ i138, cell h (x2.add 1) = some (.int .u8 i138) ∧ (Spl (i138 = (0 : Int)) (n9 x1 x2 false Kn Ke0 Kr h) (n9 x1 x2 true Kn Ke0 Kr h))
theorem n8_ok (x1 : Int) (x2 : Addr) (Kn : T3) (Ke0 : T3) (Kr : T0) (g : Env) (hg : E2 g x1 x2) (h : H) (hS : n8 x1 x2 Kn Ke0 Kr h) : wpC none Try.prog 38 n6_c2 (Q2 Kn Ke0 Kr) g h := by
  obtain ⟨hg1, hg2, hds⟩ := hg
  refine wpC_seq' (x := n8_c1) (y := n8_c2) (Q' := (Q5 (fun z1 z2 z11 h => n9 z1 z2 z11 Kn Ke0 Kr h) Ke0 Kr)) (by kernel_rfl) ?_ ?_
  · refine wpC_of_wpx (by kernel_rfl) (by kernel_rfl) (g' := ((⟨g.v, []⟩ : Env).upd (some 1) (.int .u8 x1)).upd (some 2) (.pointer (some x2))) (by rw [env_ds hds, upd_self hg1, upd_self hg2]) ?_
    have e : (n8 x1 x2 Kn Ke0 Kr h) = wpx none Try.prog 38 n8_c1 (Q5 (fun z1 z2 z11 h => n9 z1 z2 z11 Kn Ke0 Kr h) Ke0 Kr) (((⟨g.v, []⟩ : Env).upd (some 1) (.int .u8 x1)).upd (some 2) (.pointer (some x2))) h := by kernel_rfl
    exact e ▸ hS
  · intro e g' h' hq
    cases e with
    | normal =>
      have hq : D5 (fun z1 z2 z11 h => n9 z1 z2 z11 Kn Ke0 Kr h) g' h' := hq
      obtain ⟨y1, y2, y11, hg', hq⟩ := D5_ok hq
      exact n9_ok y1 y2 y11 Kn Ke0 Kr g' hg' h' hq
    | _ => exact hq
abbrev n6 (x1 : Int) (x2 : Addr) (x5 : Bool) (Kn : T3) (Ke0 : T3) (Kr : T0) (h : H) : Prop := cond x5 (n7 x2 Kn Ke0 Kr h) (n8 x1 x2 Kn Ke0 Kr h)
theorem n6_ok (x1 : Int) (x2 : Addr) (x5 : Bool) (Kn : T3) (Ke0 : T3) (Kr : T0) (g : Env) (hg : E4 g x1 x2 x5) (h : H) (hS : n6 x1 x2 x5 Kn Ke0 Kr h) : wpC none Try.prog 38 n5_c2 (Q2 Kn Ke0 Kr) g h := by
  obtain ⟨hg1, hg2, hg5, hds⟩ := hg
  have hx : evalE 38 g (.tmp 5) = .bool x5 := by
    show cond (Nat.blt 5 38) (g.v 5) undef = _
    rw [hg5]; rfl
  unfold n6 at hS
  refine wpC_cond' (o := .tmp 5) (x := n6_c1) (y := n6_c2) (by kernel_rfl) hx (fun hb => ?_) (fun hb => ?_)
  · subst hb
    exact n7_ok x2 Kn Ke0 Kr g ⟨hg2, hds⟩ h hS
  · subst hb
    exact n8_ok x1 x2 Kn Ke0 Kr g ⟨hg1, hg2, hds⟩ h hS
def Q6 (Kn : T4) (Ke0 : T3) (Kr : T0) : XPost
  | .normal, g, h => D4 Kn g h
  | .ret, g, h => D0 Kr g h
  | .exit id, g, h => cond (Nat.beq id 0) (D3 Ke0 g h) (False)
  | _, _, _ => False
abbrev n5 (x1 : Int) (x2 : Addr) (Kn : T3) (Ke0 : T3) (Kr : T0) (h : H) : Prop :=
  Spl (x1 = (3 : Int)) (n6 x1 x2 true Kn Ke0 Kr h) (n6 x1 x2 false Kn Ke0 Kr h)
theorem n5_ok (x1 : Int) (x2 : Addr) (Kn : T3) (Ke0 : T3) (Kr : T0) (g : Env) (hg : E2 g x1 x2) (h : H) (hS : n5 x1 x2 Kn Ke0 Kr h) : wpC none Try.prog 38 n4_c1 (Q2 Kn Ke0 Kr) g h := by
  obtain ⟨hg1, hg2, hds⟩ := hg
  refine wpC_seq' (x := n5_c1) (y := n5_c2) (Q' := (Q6 (fun z1 z2 z5 h => n6 z1 z2 z5 Kn Ke0 Kr h) Ke0 Kr)) (by kernel_rfl) ?_ ?_
  · refine wpC_of_wpx (by kernel_rfl) (by kernel_rfl) (g' := ((⟨g.v, []⟩ : Env).upd (some 1) (.int .u8 x1)).upd (some 2) (.pointer (some x2))) (by rw [env_ds hds, upd_self hg1, upd_self hg2]) ?_
    have e : (n5 x1 x2 Kn Ke0 Kr h) = wpx none Try.prog 38 n5_c1 (Q6 (fun z1 z2 z5 h => n6 z1 z2 z5 Kn Ke0 Kr h) Ke0 Kr) (((⟨g.v, []⟩ : Env).upd (some 1) (.int .u8 x1)).upd (some 2) (.pointer (some x2))) h := by kernel_rfl
    exact e ▸ hS
  · intro e g' h' hq
    cases e with
    | normal =>
      have hq : D4 (fun z1 z2 z5 h => n6 z1 z2 z5 Kn Ke0 Kr h) g' h' := hq
      obtain ⟨y1, y2, y5, hg', hq⟩ := D4_ok hq
      exact n6_ok y1 y2 y5 Kn Ke0 Kr g' hg' h' hq
    | _ => exact hq
abbrev n4 (x1 : Int) (x2 : Addr) (Kn : T3) (Kr : T0) (h : H) : Prop := n5 x1 x2 Kn Kn Kr h
theorem n4_ok (x1 : Int) (x2 : Addr) (Kn : T3) (Kr : T0) (g : Env) (hg : E2 g x1 x2) (h : H) (hS : n4 x1 x2 Kn Kr h) : wpC none Try.prog 38 n2_c1 (Q1 Kn Kr) g h := by
  refine wpC_block' (id := 0) (x := n4_c1) (by kernel_rfl) (n5_ok x1 x2 Kn Kn Kr g hg h hS) ?_
  intro e g' h' hq
  cases e <;> exact hq
abbrev n2 (x1 : Int) (x2 : Addr) (Kn : T0) (Kr : T0) (h : H) : Prop := n4 x1 x2 (fun z2 h => n3 z2 Kn Kr h) Kr h
theorem n2_ok (x1 : Int) (x2 : Addr) (Kn : T0) (Kr : T0) (g : Env) (hg : E2 g x1 x2) (h : H) (hS : n2 x1 x2 Kn Kr h) : wpC none Try.prog 38 n1_c2 (Q0 Kn Kr) g h := by
  refine wpC_seq' (x := n2_c1) (y := n2_c2) (by kernel_rfl) (n4_ok x1 x2 (fun z2 h => n3 z2 Kn Kr h) Kr g hg h hS) ?_
  intro e g' h' hq
  cases e with
  | normal =>
    have hq : D3 (fun z2 h => n3 z2 Kn Kr h) g' h' := hq
    obtain ⟨y2, hg', hq⟩ := D3_ok hq
    exact n3_ok y2 Kn Kr g' hg' h' hq
  | _ => exact hq
def Q7 (Kn : T2) (Kr : T0) : XPost
  | .normal, g, h => D2 Kn g h
  | .ret, g, h => D0 Kr g h
  | _, _, _ => False
abbrev n1 (x0_0 : Int) (x0_1 : Int) (x0_2 : List UInt8) (x0_3 : Int) (x1 : Int) (Kn : T0) (Kr : T0) (h : H) : Prop :=
  newx h ⟨[(.int .i64 x0_0), (.int .u8 x0_1), (S x0_2), (.int .u8 x0_3)]⟩ 37 fun a139 h140 => n2 x1 a139 Kn Kr h140
theorem n1_ok (x0_0 : Int) (x0_1 : Int) (x0_2 : List UInt8) (x0_3 : Int) (x1 : Int) (Kn : T0) (Kr : T0) (g : Env) (hg : E1 g x0_0 x0_1 x0_2 x0_3 x1) (h : H) (hS : n1 x0_0 x0_1 x0_2 x0_3 x1 Kn Kr h) : wpC none Try.prog 38 code (Q0 Kn Kr) g h := by
  obtain ⟨hg0, hg1, hds⟩ := hg
  refine wpC_seq' (x := n1_c1) (y := n1_c2) (Q' := (Q7 (fun z1 z2 h => n2 z1 z2 Kn Kr h) Kr)) (by kernel_rfl) ?_ ?_
  · refine wpC_of_wpx (by kernel_rfl) (by kernel_rfl) (g' := ((⟨g.v, []⟩ : Env).upd (some 0) (.agg ⟨[(.int .i64 x0_0), (.int .u8 x0_1), (S x0_2), (.int .u8 x0_3)]⟩)).upd (some 1) (.int .u8 x1)) (by rw [env_ds hds, upd_self hg0, upd_self hg1]) ?_
    have e : (n1 x0_0 x0_1 x0_2 x0_3 x1 Kn Kr h) = wpx none Try.prog 38 n1_c1 (Q7 (fun z1 z2 h => n2 z1 z2 Kn Kr h) Kr) (((⟨g.v, []⟩ : Env).upd (some 0) (.agg ⟨[(.int .i64 x0_0), (.int .u8 x0_1), (S x0_2), (.int .u8 x0_3)]⟩)).upd (some 1) (.int .u8 x1)) h := by kernel_rfl
    exact e ▸ hS
  · intro e g' h' hq
    cases e with
    | normal =>
      have hq : D2 (fun z1 z2 h => n2 z1 z2 Kn Kr h) g' h' := hq
      obtain ⟨y1, y2, hg', hq⟩ := D2_ok hq
      exact n2_ok y1 y2 Kn Kr g' hg' h' hq
    | _ => exact hq
/-- WHAT tympan/open.bounds ASKS -/
abbrev asks (x0_0 : Int) (x0_1 : Int) (x0_2 : List UInt8) (x0_3 : Int) (x1 : Int) (K : Value → H → Prop) (h : H) : Prop := n1 x0_0 x0_1 x0_2 x0_3 x1 (fun y4 h => K (.bool y4) h) (fun y4 h => K (.bool y4) h) h
theorem ok (x0_0 : Int) (x0_1 : Int) (x0_2 : List UInt8) (x0_3 : Int) (x1 : Int) (K : Value → H → Prop) (h : H) (hS : asks x0_0 x0_1 x0_2 x0_3 x1 K h) : HCalls Try.prog 27 ⟨[(.agg ⟨[(.int .i64 x0_0), (.int .u8 x0_1), (S x0_2), (.int .u8 x0_3)]⟩), (.int .u8 x1)]⟩ h K := by
  refine calls_of_wpC (c := code) Try.func27 (by kernel_rfl) (Nat.le_of_ble_eq_true (by kernel_rfl)) ?_
  refine (n1_ok x0_0 x0_1 x0_2 x0_3 x1 (fun y4 h => K (.bool y4) h) (fun y4 h => K (.bool y4) h) (env0 [(.agg ⟨[(.int .i64 x0_0), (.int .u8 x0_1), (S x0_2), (.int .u8 x0_3)]⟩), (.int .u8 x1)]) ⟨rfl, rfl, rfl⟩ h hS).mono ?_
  intro e g' h' hq
  cases e with
  | normal =>
    have hq : D0 (fun y4 h => K (.bool y4) h) g' h' := hq
    obtain ⟨y4, ⟨hg4, hd⟩, hq⟩ := D0_ok hq
    show leaveX g'.ds h' _
    rw [hd]
    show K (g'.v 4) h'
    rw [hg4]
    exact hq
  | ret =>
    have hq : D0 (fun y4 h => K (.bool y4) h) g' h' := hq
    obtain ⟨y4, ⟨hg4, hd⟩, hq⟩ := D0_ok hq
    show leaveX g'.ds h' _
    rw [hd]
    show K (g'.v 4) h'
    rw [hg4]
    exact hq
  | _ => exact hq
end Sx.open_bounds

/-! ### tympan/tympanref11.one -/
namespace Sx.r11_one
noncomputable def code : Code := bodyOf Try.f28
abbrev T0 := Bool → H → Prop
def E0 (g : Env) (x4 : Bool) : Prop := g.v 4 = (.bool x4) ∧ g.ds = []
def D0 (K : T0) (g : Env) (h : H) : Prop := nilDs g.ds (vBool (g.v 4) fun b1 => K b1 h)
theorem D0_ok {K : T0} {g : Env} {h : H} (hq : D0 K g h) : ∃ (x4 : Bool), E0 g x4 ∧ K x4 h := by
  obtain ⟨hd, hq⟩ := nilDs_ok hq
  obtain ⟨y3, e2, q4⟩ := vBool_ok hq
  exact ⟨y3, ⟨e2, hd⟩, q4⟩
def Q0 (Kn : T0) (Kr : T0) : XPost
  | .normal, g, h => D0 Kn g h
  | .ret, g, h => D0 Kr g h
  | _, _, _ => False
abbrev T1 := Int → Int → (List UInt8) → Int → (Option Addr) → Nat → Nat → H → Prop
def E1 (g : Env) (x0_0 : Int) (x0_1 : Int) (x0_2 : List UInt8) (x0_3 : Int) (x1b : Option Addr) (x1n : Nat) (x1c : Nat) : Prop := g.v 0 = (.agg ⟨[(.int .i64 x0_0), (.int .u8 x0_1), (S x0_2), (.int .u8 x0_3)]⟩) ∧ g.v 1 = (.slice x1b x1n x1c) ∧ g.ds = []
def D1 (K : T1) (g : Env) (h : H) : Prop := nilDs g.ds (vAgg (g.v 0) fun l5 => uncons l5 fun e6 l7 => vInt .i64 e6 fun i8 => uncons l7 fun e9 l10 => vInt .u8 e9 fun i11 => uncons l10 fun e12 l13 => vStr e12 fun s14 => uncons l13 fun e15 l16 => vInt .u8 e15 fun i17 => unnil l16 (vSlice (g.v 1) fun s18b s18n s18c => K i8 i11 s14 i17 s18b s18n s18c h))
theorem D1_ok {K : T1} {g : Env} {h : H} (hq : D1 K g h) : ∃ (x0_0 : Int) (x0_1 : Int) (x0_2 : List UInt8) (x0_3 : Int) (x1b : Option Addr) (x1n : Nat) (x1c : Nat), E1 g x0_0 x0_1 x0_2 x0_3 x1b x1n x1c ∧ K x0_0 x0_1 x0_2 x0_3 x1b x1n x1c h := by
  obtain ⟨hd, hq⟩ := nilDs_ok hq
  obtain ⟨l20, e19, q21⟩ := vAgg_ok hq
  obtain ⟨u22, l23, rfl, q24⟩ := uncons_ok q21
  obtain ⟨y25, rfl, q26⟩ := vInt_ok q24
  obtain ⟨u27, l28, rfl, q29⟩ := uncons_ok q26
  obtain ⟨y30, rfl, q31⟩ := vInt_ok q29
  obtain ⟨u32, l33, rfl, q34⟩ := uncons_ok q31
  obtain ⟨y35, rfl, q36⟩ := vStr_ok q34
  obtain ⟨u37, l38, rfl, q39⟩ := uncons_ok q36
  obtain ⟨y40, rfl, q41⟩ := vInt_ok q39
  obtain ⟨rfl, q42⟩ := unnil_ok q41
  obtain ⟨y44b, y44n, y44c, e43, q45⟩ := vSlice_ok q42
  exact ⟨y25, y30, y35, y40, y44b, y44n, y44c, ⟨e19, e43, hd⟩, q45⟩
abbrev n1 (x0_0 : Int) (x0_1 : Int) (x0_2 : List UInt8) (x0_3 : Int) (x1b : Option Addr) (x1n : Nat) (x1c : Nat) (Kn : T0) (Kr : T0) (h : H) : Prop :=
  newx h ⟨[(.int .i64 x0_0), (.int .u8 x0_1), (S x0_2), (.int .u8 x0_3)]⟩ 37 fun a46 h47 => ∃ i48, cell h47 (a46.add 1) = some (.int .u8 i48) ∧ (Spl (i48 = (0 : Int)) (∃ s49, cell h47 (a46.add 2) = some (S s49) ∧ (HCalls Try.prog 31 ⟨[(.slice x1b x1n x1c), (S s49)]⟩ h47 fun v50 h51 => vBool v50 fun b52 => cond b52 (Kr true h51) (Kr false h51))) (Kr false h47))
theorem n1_ok (x0_0 : Int) (x0_1 : Int) (x0_2 : List UInt8) (x0_3 : Int) (x1b : Option Addr) (x1n : Nat) (x1c : Nat) (Kn : T0) (Kr : T0) (g : Env) (hg : E1 g x0_0 x0_1 x0_2 x0_3 x1b x1n x1c) (h : H) (hS : n1 x0_0 x0_1 x0_2 x0_3 x1b x1n x1c Kn Kr h) : wpC none Try.prog 14 code (Q0 Kn Kr) g h := by
  obtain ⟨hg0, hg1, hds⟩ := hg
  refine wpC_of_wpx (by kernel_rfl) (by kernel_rfl) (g' := ((⟨g.v, []⟩ : Env).upd (some 0) (.agg ⟨[(.int .i64 x0_0), (.int .u8 x0_1), (S x0_2), (.int .u8 x0_3)]⟩)).upd (some 1) (.slice x1b x1n x1c)) (by rw [env_ds hds, upd_self hg0, upd_self hg1]) ?_
  have e : (n1 x0_0 x0_1 x0_2 x0_3 x1b x1n x1c Kn Kr h) = wpx none Try.prog 14 code (Q0 Kn Kr) (((⟨g.v, []⟩ : Env).upd (some 0) (.agg ⟨[(.int .i64 x0_0), (.int .u8 x0_1), (S x0_2), (.int .u8 x0_3)]⟩)).upd (some 1) (.slice x1b x1n x1c)) h := by kernel_rfl
  exact e ▸ hS
/-- WHAT tympan/tympanref11.one ASKS -/
abbrev asks (x0_0 : Int) (x0_1 : Int) (x0_2 : List UInt8) (x0_3 : Int) (x1b : Option Addr) (x1n : Nat) (x1c : Nat) (K : Value → H → Prop) (h : H) : Prop := n1 x0_0 x0_1 x0_2 x0_3 x1b x1n x1c (fun y4 h => K (.bool y4) h) (fun y4 h => K (.bool y4) h) h
theorem ok (x0_0 : Int) (x0_1 : Int) (x0_2 : List UInt8) (x0_3 : Int) (x1b : Option Addr) (x1n : Nat) (x1c : Nat) (K : Value → H → Prop) (h : H) (hS : asks x0_0 x0_1 x0_2 x0_3 x1b x1n x1c K h) : HCalls Try.prog 28 ⟨[(.agg ⟨[(.int .i64 x0_0), (.int .u8 x0_1), (S x0_2), (.int .u8 x0_3)]⟩), (.slice x1b x1n x1c)]⟩ h K := by
  refine calls_of_wpC (c := code) Try.func28 (by kernel_rfl) (Nat.le_of_ble_eq_true (by kernel_rfl)) ?_
  refine (n1_ok x0_0 x0_1 x0_2 x0_3 x1b x1n x1c (fun y4 h => K (.bool y4) h) (fun y4 h => K (.bool y4) h) (env0 [(.agg ⟨[(.int .i64 x0_0), (.int .u8 x0_1), (S x0_2), (.int .u8 x0_3)]⟩), (.slice x1b x1n x1c)]) ⟨rfl, rfl, rfl⟩ h hS).mono ?_
  intro e g' h' hq
  cases e with
  | normal =>
    have hq : D0 (fun y4 h => K (.bool y4) h) g' h' := hq
    obtain ⟨y4, ⟨hg4, hd⟩, hq⟩ := D0_ok hq
    show leaveX g'.ds h' _
    rw [hd]
    show K (g'.v 4) h'
    rw [hg4]
    exact hq
  | ret =>
    have hq : D0 (fun y4 h => K (.bool y4) h) g' h' := hq
    obtain ⟨y4, ⟨hg4, hd⟩, hq⟩ := D0_ok hq
    show leaveX g'.ds h' _
    rw [hd]
    show K (g'.v 4) h'
    rw [hg4]
    exact hq
  | _ => exact hq
end Sx.r11_one

/-! ### tympan/tympanref11.bounds -/
namespace Sx.r11_bounds
noncomputable def code : Code := bodyOf Try.f29
abbrev T0 := Bool → H → Prop
def E0 (g : Env) (x4 : Bool) : Prop := g.v 4 = (.bool x4) ∧ g.ds = []
def D0 (K : T0) (g : Env) (h : H) : Prop := nilDs g.ds (vBool (g.v 4) fun b1 => K b1 h)
theorem D0_ok {K : T0} {g : Env} {h : H} (hq : D0 K g h) : ∃ (x4 : Bool), E0 g x4 ∧ K x4 h := by
  obtain ⟨hd, hq⟩ := nilDs_ok hq
  obtain ⟨y3, e2, q4⟩ := vBool_ok hq
  exact ⟨y3, ⟨e2, hd⟩, q4⟩
def Q0 (Kn : T0) (Kr : T0) : XPost
  | .normal, g, h => D0 Kn g h
  | .ret, g, h => D0 Kr g h
  | _, _, _ => False
abbrev T1 := Int → Int → (List UInt8) → Int → Int → H → Prop
def E1 (g : Env) (x0_0 : Int) (x0_1 : Int) (x0_2 : List UInt8) (x0_3 : Int) (x1 : Int) : Prop := g.v 0 = (.agg ⟨[(.int .i64 x0_0), (.int .u8 x0_1), (S x0_2), (.int .u8 x0_3)]⟩) ∧ g.v 1 = (.int .u8 x1) ∧ g.ds = []
def D1 (K : T1) (g : Env) (h : H) : Prop := nilDs g.ds (vAgg (g.v 0) fun l5 => uncons l5 fun e6 l7 => vInt .i64 e6 fun i8 => uncons l7 fun e9 l10 => vInt .u8 e9 fun i11 => uncons l10 fun e12 l13 => vStr e12 fun s14 => uncons l13 fun e15 l16 => vInt .u8 e15 fun i17 => unnil l16 (vInt .u8 (g.v 1) fun i18 => K i8 i11 s14 i17 i18 h))
theorem D1_ok {K : T1} {g : Env} {h : H} (hq : D1 K g h) : ∃ (x0_0 : Int) (x0_1 : Int) (x0_2 : List UInt8) (x0_3 : Int) (x1 : Int), E1 g x0_0 x0_1 x0_2 x0_3 x1 ∧ K x0_0 x0_1 x0_2 x0_3 x1 h := by
  obtain ⟨hd, hq⟩ := nilDs_ok hq
  obtain ⟨l20, e19, q21⟩ := vAgg_ok hq
  obtain ⟨u22, l23, rfl, q24⟩ := uncons_ok q21
  obtain ⟨y25, rfl, q26⟩ := vInt_ok q24
  obtain ⟨u27, l28, rfl, q29⟩ := uncons_ok q26
  obtain ⟨y30, rfl, q31⟩ := vInt_ok q29
  obtain ⟨u32, l33, rfl, q34⟩ := uncons_ok q31
  obtain ⟨y35, rfl, q36⟩ := vStr_ok q34
  obtain ⟨u37, l38, rfl, q39⟩ := uncons_ok q36
  obtain ⟨y40, rfl, q41⟩ := vInt_ok q39
  obtain ⟨rfl, q42⟩ := unnil_ok q41
  obtain ⟨y44, e43, q45⟩ := vInt_ok q42
  exact ⟨y25, y30, y35, y40, y44, ⟨e19, e43, hd⟩, q45⟩
noncomputable def n1_c1 : Code := cFst code
noncomputable def n1_c2 : Code := cSnd code
abbrev T2 := Int → Addr → H → Prop
def E2 (g : Env) (x1 : Int) (x2 : Addr) : Prop := g.v 1 = (.int .u8 x1) ∧ g.v 2 = (.pointer (some x2)) ∧ g.ds = []
def D2 (K : T2) (g : Env) (h : H) : Prop := nilDs g.ds (vInt .u8 (g.v 1) fun i46 => vAddr (g.v 2) fun a47 => K i46 a47 h)
theorem D2_ok {K : T2} {g : Env} {h : H} (hq : D2 K g h) : ∃ (x1 : Int) (x2 : Addr), E2 g x1 x2 ∧ K x1 x2 h := by
  obtain ⟨hd, hq⟩ := nilDs_ok hq
  obtain ⟨y49, e48, q50⟩ := vInt_ok hq
  obtain ⟨y52, e51, q53⟩ := vAddr_ok q50
  exact ⟨y49, y52, ⟨e48, e51, hd⟩, q53⟩
noncomputable def n2_c1 : Code := cFst n1_c2
noncomputable def n2_c2 : Code := cSnd n1_c2
noncomputable def n3_c1 : Code := cFst n2_c2
noncomputable def n3_c2 : Code := cSnd n2_c2
noncomputable def n4_c1 : Code := cFst n3_c2
noncomputable def n4_c2 : Code := cSnd n3_c2
abbrev T3 := Int → Addr → (Option Addr) → Nat → Nat → H → Prop
def E3 (g : Env) (x1 : Int) (x2 : Addr) (x5b : Option Addr) (x5n : Nat) (x5c : Nat) : Prop := g.v 1 = (.int .u8 x1) ∧ g.v 2 = (.pointer (some x2)) ∧ g.v 5 = (.slice x5b x5n x5c) ∧ g.ds = []
def D3 (K : T3) (g : Env) (h : H) : Prop := nilDs g.ds (vInt .u8 (g.v 1) fun i54 => vAddr (g.v 2) fun a55 => vSlice (g.v 5) fun s56b s56n s56c => K i54 a55 s56b s56n s56c h)
theorem D3_ok {K : T3} {g : Env} {h : H} (hq : D3 K g h) : ∃ (x1 : Int) (x2 : Addr) (x5b : Option Addr) (x5n : Nat) (x5c : Nat), E3 g x1 x2 x5b x5n x5c ∧ K x1 x2 x5b x5n x5c h := by
  obtain ⟨hd, hq⟩ := nilDs_ok hq
  obtain ⟨y58, e57, q59⟩ := vInt_ok hq
  obtain ⟨y61, e60, q62⟩ := vAddr_ok q59
  obtain ⟨y64b, y64n, y64c, e63, q65⟩ := vSlice_ok q62
  exact ⟨y58, y61, y64b, y64n, y64c, ⟨e57, e60, e63, hd⟩, q65⟩
noncomputable def n5_c1 : Code := cFst n4_c2
noncomputable def n5_c2 : Code := cSnd n4_c2
abbrev n6 (x1 : Int) (x2 : Addr) (x5b : Option Addr) (x5n : Nat) (x5c : Nat) (Kn : T0) (Kr : T0) (h : H) : Prop :=
  Spl (x1 = (2 : Int)) (newx h #[(S ([98, 117, 116, 116, 111, 110] : List UInt8))] 9 fun a66 h67 => SemH Try.prog (Builtin.append_ #[23, 23] 23 ⟨[(.slice x5b x5n x5c), (.slice (some a66) 1 1)]⟩) h67 fun v68 h69 => vSlice v68 fun s70b s70n s70c => ∃ s71, cell h69 (x2.add 2) = some (S s71) ∧ (HCalls Try.prog 31 ⟨[(.slice s70b s70n s70c), (S s71)]⟩ h69 fun v72 h73 => vBool v72 fun b74 => cond b74 (Kr true h73) (Kr false h73))) (∃ s75, cell h (x2.add 2) = some (S s75) ∧ (HCalls Try.prog 31 ⟨[(.slice x5b x5n x5c), (S s75)]⟩ h fun v76 h77 => vBool v76 fun b78 => cond b78 (Kr true h77) (Kr false h77)))
theorem n6_ok (x1 : Int) (x2 : Addr) (x5b : Option Addr) (x5n : Nat) (x5c : Nat) (Kn : T0) (Kr : T0) (g : Env) (hg : E3 g x1 x2 x5b x5n x5c) (h : H) (hS : n6 x1 x2 x5b x5n x5c Kn Kr h) : wpC none Try.prog 34 n5_c2 (Q0 Kn Kr) g h := by
  obtain ⟨hg1, hg2, hg5, hds⟩ := hg
  refine wpC_of_wpx (by kernel_rfl) (by kernel_rfl) (g' := (((⟨g.v, []⟩ : Env).upd (some 1) (.int .u8 x1)).upd (some 2) (.pointer (some x2))).upd (some 5) (.slice x5b x5n x5c)) (by rw [env_ds hds, upd_self hg1, upd_self hg2, upd_self hg5]) ?_
  have e : (n6 x1 x2 x5b x5n x5c Kn Kr h) = wpx none Try.prog 34 n5_c2 (Q0 Kn Kr) ((((⟨g.v, []⟩ : Env).upd (some 1) (.int .u8 x1)).upd (some 2) (.pointer (some x2))).upd (some 5) (.slice x5b x5n x5c)) h := by kernel_rfl
  exact e ▸ hS
def Q1 (Kn : T3) (Kr : T0) : XPost
  | .normal, g, h => D3 Kn g h
  | .ret, g, h => D0 Kr g h
  | _, _, _ => False
abbrev n5 (x1 : Int) (x2 : Addr) (x5b : Option Addr) (x5n : Nat) (x5c : Nat) (Kn : T0) (Kr : T0) (h : H) : Prop :=
  Spl (x1 = (1 : Int)) (newx h #[(S ([111, 108] : List UInt8)), (S ([117, 108] : List UInt8))] 9 fun a79 h80 => SemH Try.prog (Builtin.append_ #[23, 23] 23 ⟨[(.slice x5b x5n x5c), (.slice (some a79) 2 2)]⟩) h80 fun v81 h82 => vSlice v81 fun s83b s83n s83c => n6 x1 x2 s83b s83n s83c Kn Kr h82) (n6 x1 x2 x5b x5n x5c Kn Kr h)
theorem n5_ok (x1 : Int) (x2 : Addr) (x5b : Option Addr) (x5n : Nat) (x5c : Nat) (Kn : T0) (Kr : T0) (g : Env) (hg : E3 g x1 x2 x5b x5n x5c) (h : H) (hS : n5 x1 x2 x5b x5n x5c Kn Kr h) : wpC none Try.prog 34 n4_c2 (Q0 Kn Kr) g h := by
  obtain ⟨hg1, hg2, hg5, hds⟩ := hg
  refine wpC_seq' (x := n5_c1) (y := n5_c2) (Q' := (Q1 (fun z1 z2 z5b z5n z5c h => n6 z1 z2 z5b z5n z5c Kn Kr h) Kr)) (by kernel_rfl) ?_ ?_
  · refine wpC_of_wpx (by kernel_rfl) (by kernel_rfl) (g' := (((⟨g.v, []⟩ : Env).upd (some 1) (.int .u8 x1)).upd (some 2) (.pointer (some x2))).upd (some 5) (.slice x5b x5n x5c)) (by rw [env_ds hds, upd_self hg1, upd_self hg2, upd_self hg5]) ?_
    have e : (n5 x1 x2 x5b x5n x5c Kn Kr h) = wpx none Try.prog 34 n5_c1 (Q1 (fun z1 z2 z5b z5n z5c h => n6 z1 z2 z5b z5n z5c Kn Kr h) Kr) ((((⟨g.v, []⟩ : Env).upd (some 1) (.int .u8 x1)).upd (some 2) (.pointer (some x2))).upd (some 5) (.slice x5b x5n x5c)) h := by kernel_rfl
    exact e ▸ hS
  · intro e g' h' hq
    cases e with
    | normal =>
      have hq : D3 (fun z1 z2 z5b z5n z5c h => n6 z1 z2 z5b z5n z5c Kn Kr h) g' h' := hq
      obtain ⟨y1, y2, y5b, y5n, y5c, hg', hq⟩ := D3_ok hq
      exact n6_ok y1 y2 y5b y5n y5c Kn Kr g' hg' h' hq
    | _ => exact hq
abbrev n4 (x1 : Int) (x2 : Addr) (Kn : T0) (Kr : T0) (h : H) : Prop :=
  newx h #[(S ([97, 112, 112, 108, 101, 116] : List UInt8)), (S ([99, 97, 112, 116, 105, 111, 110] : List UInt8)), (S ([104, 116, 109, 108] : List UInt8)), (S ([109, 97, 114, 113, 117, 101, 101] : List UInt8)), (S ([111, 98, 106, 101, 99, 116] : List UInt8)), (S ([116, 97, 98, 108, 101] : List UInt8)), (S ([116, 100] : List UInt8)), (S ([116, 101, 109, 112, 108, 97, 116, 101] : List UInt8)), (S ([116, 104] : List UInt8))] 9 fun a84 h85 => n5 x1 x2 (some a84) 9 9 Kn Kr h85
theorem n4_ok (x1 : Int) (x2 : Addr) (Kn : T0) (Kr : T0) (g : Env) (hg : E2 g x1 x2) (h : H) (hS : n4 x1 x2 Kn Kr h) : wpC none Try.prog 34 n3_c2 (Q0 Kn Kr) g h := by
  obtain ⟨hg1, hg2, hds⟩ := hg
  refine wpC_seq' (x := n4_c1) (y := n4_c2) (Q' := (Q1 (fun z1 z2 z5b z5n z5c h => n5 z1 z2 z5b z5n z5c Kn Kr h) Kr)) (by kernel_rfl) ?_ ?_
  · refine wpC_of_wpx (by kernel_rfl) (by kernel_rfl) (g' := ((⟨g.v, []⟩ : Env).upd (some 1) (.int .u8 x1)).upd (some 2) (.pointer (some x2))) (by rw [env_ds hds, upd_self hg1, upd_self hg2]) ?_
    have e : (n4 x1 x2 Kn Kr h) = wpx none Try.prog 34 n4_c1 (Q1 (fun z1 z2 z5b z5n z5c h => n5 z1 z2 z5b z5n z5c Kn Kr h) Kr) (((⟨g.v, []⟩ : Env).upd (some 1) (.int .u8 x1)).upd (some 2) (.pointer (some x2))) h := by kernel_rfl
    exact e ▸ hS
  · intro e g' h' hq
    cases e with
    | normal =>
      have hq : D3 (fun z1 z2 z5b z5n z5c h => n5 z1 z2 z5b z5n z5c Kn Kr h) g' h' := hq
      obtain ⟨y1, y2, y5b, y5n, y5c, hg', hq⟩ := D3_ok hq
      exact n5_ok y1 y2 y5b y5n y5c Kn Kr g' hg' h' hq
    | _ => exact hq
def Q2 (Kn : T2) (Kr : T0) : XPost
  | .normal, g, h => D2 Kn g h
  | .ret, g, h => D0 Kr g h
  | _, _, _ => False
abbrev n3 (x1 : Int) (x2 : Addr) (Kn : T0) (Kr : T0) (h : H) : Prop :=
  ∃ i86, cell h (x2.add 1) = some (.int .u8 i86) ∧ (Spl (i86 = (0 : Int)) (n4 x1 x2 Kn Kr h) (∃ i87, cell h (x2.add 1) = some (.int .u8 i87) ∧ (∃ s88, cell h (x2.add 2) = some (S s88) ∧ (HCalls Try.prog 13 ⟨[(.int .u8 i87), (S s88)]⟩ h fun v89 h90 => vBool v89 fun b91 => cond b91 (Kr true h90) (Kr false h90)))))
theorem n3_ok (x1 : Int) (x2 : Addr) (Kn : T0) (Kr : T0) (g : Env) (hg : E2 g x1 x2) (h : H) (hS : n3 x1 x2 Kn Kr h) : wpC none Try.prog 34 n2_c2 (Q0 Kn Kr) g h := by
  obtain ⟨hg1, hg2, hds⟩ := hg
  refine wpC_seq' (x := n3_c1) (y := n3_c2) (Q' := (Q2 (fun z1 z2 h => n4 z1 z2 Kn Kr h) Kr)) (by kernel_rfl) ?_ ?_
  · refine wpC_of_wpx (by kernel_rfl) (by kernel_rfl) (g' := ((⟨g.v, []⟩ : Env).upd (some 1) (.int .u8 x1)).upd (some 2) (.pointer (some x2))) (by rw [env_ds hds, upd_self hg1, upd_self hg2]) ?_
    have e : (n3 x1 x2 Kn Kr h) = wpx none Try.prog 34 n3_c1 (Q2 (fun z1 z2 h => n4 z1 z2 Kn Kr h) Kr) (((⟨g.v, []⟩ : Env).upd (some 1) (.int .u8 x1)).upd (some 2) (.pointer (some x2))) h := by kernel_rfl
    exact e ▸ hS
  · intro e g' h' hq
    cases e with
    | normal =>
      have hq : D2 (fun z1 z2 h => n4 z1 z2 Kn Kr h) g' h' := hq
      obtain ⟨y1, y2, hg', hq⟩ := D2_ok hq
      exact n4_ok y1 y2 Kn Kr g' hg' h' hq
    | _ => exact hq
abbrev n2 (x1 : Int) (x2 : Addr) (Kn : T0) (Kr : T0) (h : H) : Prop :=
  Spl (x1 = (3 : Int)) (∃ i92, cell h ((x2).add 0) = some (.int .i64 i92) ∧ (∃ i93, cell h ((x2).add 1) = some (.int .u8 i93) ∧ (∃ s94, cell h ((x2).add 2) = some (S s94) ∧ (∃ i95, cell h ((x2).add 3) = some (.int .u8 i95) ∧ (newx h #[(S ([104, 116, 109, 108] : List UInt8)), (S ([116, 97, 98, 108, 101] : List UInt8)), (S ([116, 101, 109, 112, 108, 97, 116, 101] : List UInt8))] 9 fun a96 h97 => HCalls Try.prog 28 ⟨[(.agg ⟨[(.int .i64 i92), (.int .u8 i93), (S s94), (.int .u8 i95)]⟩), (.slice (some a96) 3 3)]⟩ h97 fun v98 h99 => vBool v98 fun b100 => cond b100 (Kr true h99) (Kr false h99)))))) (n3 x1 x2 Kn Kr h)
theorem n2_ok (x1 : Int) (x2 : Addr) (Kn : T0) (Kr : T0) (g : Env) (hg : E2 g x1 x2) (h : H) (hS : n2 x1 x2 Kn Kr h) : wpC none Try.prog 34 n1_c2 (Q0 Kn Kr) g h := by
  obtain ⟨hg1, hg2, hds⟩ := hg
  refine wpC_seq' (x := n2_c1) (y := n2_c2) (Q' := (Q2 (fun z1 z2 h => n3 z1 z2 Kn Kr h) Kr)) (by kernel_rfl) ?_ ?_
  · refine wpC_of_wpx (by kernel_rfl) (by kernel_rfl) (g' := ((⟨g.v, []⟩ : Env).upd (some 1) (.int .u8 x1)).upd (some 2) (.pointer (some x2))) (by rw [env_ds hds, upd_self hg1, upd_self hg2]) ?_
    have e : (n2 x1 x2 Kn Kr h) = wpx none Try.prog 34 n2_c1 (Q2 (fun z1 z2 h => n3 z1 z2 Kn Kr h) Kr) (((⟨g.v, []⟩ : Env).upd (some 1) (.int .u8 x1)).upd (some 2) (.pointer (some x2))) h := by kernel_rfl
    exact e ▸ hS
  · intro e g' h' hq
    cases e with
    | normal =>
      have hq : D2 (fun z1 z2 h => n3 z1 z2 Kn Kr h) g' h' := hq
      obtain ⟨y1, y2, hg', hq⟩ := D2_ok hq
      exact n3_ok y1 y2 Kn Kr g' hg' h' hq
    | _ => exact hq
abbrev n1 (x0_0 : Int) (x0_1 : Int) (x0_2 : List UInt8) (x0_3 : Int) (x1 : Int) (Kn : T0) (Kr : T0) (h : H) : Prop :=
  newx h ⟨[(.int .i64 x0_0), (.int .u8 x0_1), (S x0_2), (.int .u8 x0_3)]⟩ 37 fun a101 h102 => n2 x1 a101 Kn Kr h102
theorem n1_ok (x0_0 : Int) (x0_1 : Int) (x0_2 : List UInt8) (x0_3 : Int) (x1 : Int) (Kn : T0) (Kr : T0) (g : Env) (hg : E1 g x0_0 x0_1 x0_2 x0_3 x1) (h : H) (hS : n1 x0_0 x0_1 x0_2 x0_3 x1 Kn Kr h) : wpC none Try.prog 34 code (Q0 Kn Kr) g h := by
  obtain ⟨hg0, hg1, hds⟩ := hg
  refine wpC_seq' (x := n1_c1) (y := n1_c2) (Q' := (Q2 (fun z1 z2 h => n2 z1 z2 Kn Kr h) Kr)) (by kernel_rfl) ?_ ?_
  · refine wpC_of_wpx (by kernel_rfl) (by kernel_rfl) (g' := ((⟨g.v, []⟩ : Env).upd (some 0) (.agg ⟨[(.int .i64 x0_0), (.int .u8 x0_1), (S x0_2), (.int .u8 x0_3)]⟩)).upd (some 1) (.int .u8 x1)) (by rw [env_ds hds, upd_self hg0, upd_self hg1]) ?_
    have e : (n1 x0_0 x0_1 x0_2 x0_3 x1 Kn Kr h) = wpx none Try.prog 34 n1_c1 (Q2 (fun z1 z2 h => n2 z1 z2 Kn Kr h) Kr) (((⟨g.v, []⟩ : Env).upd (some 0) (.agg ⟨[(.int .i64 x0_0), (.int .u8 x0_1), (S x0_2), (.int .u8 x0_3)]⟩)).upd (some 1) (.int .u8 x1)) h := by kernel_rfl
    exact e ▸ hS
  · intro e g' h' hq
    cases e with
    | normal =>
      have hq : D2 (fun z1 z2 h => n2 z1 z2 Kn Kr h) g' h' := hq
      obtain ⟨y1, y2, hg', hq⟩ := D2_ok hq
      exact n2_ok y1 y2 Kn Kr g' hg' h' hq
    | _ => exact hq
/-- WHAT tympan/tympanref11.bounds ASKS -/
abbrev asks (x0_0 : Int) (x0_1 : Int) (x0_2 : List UInt8) (x0_3 : Int) (x1 : Int) (K : Value → H → Prop) (h : H) : Prop := n1 x0_0 x0_1 x0_2 x0_3 x1 (fun y4 h => K (.bool y4) h) (fun y4 h => K (.bool y4) h) h
theorem ok (x0_0 : Int) (x0_1 : Int) (x0_2 : List UInt8) (x0_3 : Int) (x1 : Int) (K : Value → H → Prop) (h : H) (hS : asks x0_0 x0_1 x0_2 x0_3 x1 K h) : HCalls Try.prog 29 ⟨[(.agg ⟨[(.int .i64 x0_0), (.int .u8 x0_1), (S x0_2), (.int .u8 x0_3)]⟩), (.int .u8 x1)]⟩ h K := by
  refine calls_of_wpC (c := code) Try.func29 (by kernel_rfl) (Nat.le_of_ble_eq_true (by kernel_rfl)) ?_
  refine (n1_ok x0_0 x0_1 x0_2 x0_3 x1 (fun y4 h => K (.bool y4) h) (fun y4 h => K (.bool y4) h) (env0 [(.agg ⟨[(.int .i64 x0_0), (.int .u8 x0_1), (S x0_2), (.int .u8 x0_3)]⟩), (.int .u8 x1)]) ⟨rfl, rfl, rfl⟩ h hS).mono ?_
  intro e g' h' hq
  cases e with
  | normal =>
    have hq : D0 (fun y4 h => K (.bool y4) h) g' h' := hq
    obtain ⟨y4, ⟨hg4, hd⟩, hq⟩ := D0_ok hq
    show leaveX g'.ds h' _
    rw [hd]
    show K (g'.v 4) h'
    rw [hg4]
    exact hq
  | ret =>
    have hq : D0 (fun y4 h => K (.bool y4) h) g' h' := hq
    obtain ⟨y4, ⟨hg4, hd⟩, hq⟩ := D0_ok hq
    show leaveX g'.ds h' _
    rw [hd]
    show K (g'.v 4) h'
    rw [hg4]
    exact hq
  | _ => exact hq
end Sx.r11_bounds

/-! ### tympan/open.has -/
namespace Sx.open_has
noncomputable def code : Code := bodyOf Try.f30
abbrev T0 := Bool → H → Prop
def E0 (g : Env) (x4 : Bool) : Prop := g.v 4 = (.bool x4) ∧ g.ds = []
def D0 (K : T0) (g : Env) (h : H) : Prop := nilDs g.ds (vBool (g.v 4) fun b1 => K b1 h)
theorem D0_ok {K : T0} {g : Env} {h : H} (hq : D0 K g h) : ∃ (x4 : Bool), E0 g x4 ∧ K x4 h := by
  obtain ⟨hd, hq⟩ := nilDs_ok hq
  obtain ⟨y3, e2, q4⟩ := vBool_ok hq
  exact ⟨y3, ⟨e2, hd⟩, q4⟩
def Q0 (Kn : T0) (Kr : T0) : XPost
  | .normal, g, h => D0 Kn g h
  | .ret, g, h => D0 Kr g h
  | _, _, _ => False
abbrev T1 := (List UInt8) → (List UInt8) → H → Prop
def E1 (g : Env) (x0 : List UInt8) (x1 : List UInt8) : Prop := g.v 0 = (S x0) ∧ g.v 1 = (S x1) ∧ g.ds = []
def D1 (K : T1) (g : Env) (h : H) : Prop := nilDs g.ds (vStr (g.v 0) fun s5 => vStr (g.v 1) fun s6 => K s5 s6 h)
theorem D1_ok {K : T1} {g : Env} {h : H} (hq : D1 K g h) : ∃ (x0 : List UInt8) (x1 : List UInt8), E1 g x0 x1 ∧ K x0 x1 h := by
  obtain ⟨hd, hq⟩ := nilDs_ok hq
  obtain ⟨y8, e7, q9⟩ := vStr_ok hq
  obtain ⟨y11, e10, q12⟩ := vStr_ok q9
  exact ⟨y8, y11, ⟨e7, e10, hd⟩, q12⟩
abbrev n1 (x0 : List UInt8) (x1 : List UInt8) (Kn : T0) (Kr : T0) (h : H) : Prop :=
  Spl (x1 = ([] : List UInt8)) (Kr false h) (HCalls Try.prog 34 ⟨[(S x1), (S ([32] : List UInt8))]⟩ h fun v13 h14 => vBool v13 fun b15 => cond b15 (Kr false h14) (((([32] : List UInt8).length + x1.length : Nat) : Int) ≤ 9223372036854775807 ∧ ((((([32] : List UInt8) ++ x1).length + ([32] : List UInt8).length : Nat) : Int) ≤ 9223372036854775807 ∧ (HCalls Try.prog 34 ⟨[(S x0), (S ((([32] : List UInt8) ++ x1) ++ ([32] : List UInt8)))]⟩ h14 fun v16 h17 => vBool v16 fun b18 => cond b18 (Kr true h17) (Kr false h17)))))
theorem n1_ok (x0 : List UInt8) (x1 : List UInt8) (Kn : T0) (Kr : T0) (g : Env) (hg : E1 g x0 x1) (h : H) (hS : n1 x0 x1 Kn Kr h) : wpC none Try.prog 19 code (Q0 Kn Kr) g h := by
  obtain ⟨hg0, hg1, hds⟩ := hg
  refine wpC_of_wpx (by kernel_rfl) (by kernel_rfl) (g' := ((⟨g.v, []⟩ : Env).upd (some 0) (S x0)).upd (some 1) (S x1)) (by rw [env_ds hds, upd_self hg0, upd_self hg1]) ?_
  have e : (n1 x0 x1 Kn Kr h) = wpx none Try.prog 19 code (Q0 Kn Kr) (((⟨g.v, []⟩ : Env).upd (some 0) (S x0)).upd (some 1) (S x1)) h := by kernel_rfl
  exact e ▸ hS
/-- WHAT tympan/open.has ASKS -/
abbrev asks (x0 : List UInt8) (x1 : List UInt8) (K : Value → H → Prop) (h : H) : Prop := n1 x0 x1 (fun y4 h => K (.bool y4) h) (fun y4 h => K (.bool y4) h) h
theorem ok (x0 : List UInt8) (x1 : List UInt8) (K : Value → H → Prop) (h : H) (hS : asks x0 x1 K h) : HCalls Try.prog 30 ⟨[(S x0), (S x1)]⟩ h K := by
  refine calls_of_wpC (c := code) Try.func30 (by kernel_rfl) (Nat.le_of_ble_eq_true (by kernel_rfl)) ?_
  refine (n1_ok x0 x1 (fun y4 h => K (.bool y4) h) (fun y4 h => K (.bool y4) h) (env0 [(S x0), (S x1)]) ⟨rfl, rfl, rfl⟩ h hS).mono ?_
  intro e g' h' hq
  cases e with
  | normal =>
    have hq : D0 (fun y4 h => K (.bool y4) h) g' h' := hq
    obtain ⟨y4, ⟨hg4, hd⟩, hq⟩ := D0_ok hq
    show leaveX g'.ds h' _
    rw [hd]
    show K (g'.v 4) h'
    rw [hg4]
    exact hq
  | ret =>
    have hq : D0 (fun y4 h => K (.bool y4) h) g' h' := hq
    obtain ⟨y4, ⟨hg4, hd⟩, hq⟩ := D0_ok hq
    show leaveX g'.ds h' _
    rw [hd]
    show K (g'.v 4) h'
    rw [hg4]
    exact hq
  | _ => exact hq
end Sx.open_has

/-! ### tympan/tympanref11.in -/
namespace Sx.r11_in
noncomputable def code : Code := bodyOf Try.f31
abbrev T0 := Bool → H → Prop
def E0 (g : Env) (x4 : Bool) : Prop := g.v 4 = (.bool x4) ∧ g.ds = []
def D0 (K : T0) (g : Env) (h : H) : Prop := nilDs g.ds (vBool (g.v 4) fun b1 => K b1 h)
theorem D0_ok {K : T0} {g : Env} {h : H} (hq : D0 K g h) : ∃ (x4 : Bool), E0 g x4 ∧ K x4 h := by
  obtain ⟨hd, hq⟩ := nilDs_ok hq
  obtain ⟨y3, e2, q4⟩ := vBool_ok hq
  exact ⟨y3, ⟨e2, hd⟩, q4⟩
def Q0 (Kn : T0) (Kr : T0) : XPost
  | .normal, g, h => D0 Kn g h
  | .ret, g, h => D0 Kr g h
  | _, _, _ => False
abbrev T1 := (Option Addr) → Nat → Nat → (List UInt8) → H → Prop
def E1 (g : Env) (x0b : Option Addr) (x0n : Nat) (x0c : Nat) (x1 : List UInt8) : Prop := g.v 0 = (.slice x0b x0n x0c) ∧ g.v 1 = (S x1) ∧ g.ds = []
def D1 (K : T1) (g : Env) (h : H) : Prop := nilDs g.ds (vSlice (g.v 0) fun s5b s5n s5c => vStr (g.v 1) fun s6 => K s5b s5n s5c s6 h)
theorem D1_ok {K : T1} {g : Env} {h : H} (hq : D1 K g h) : ∃ (x0b : Option Addr) (x0n : Nat) (x0c : Nat) (x1 : List UInt8), E1 g x0b x0n x0c x1 ∧ K x0b x0n x0c x1 h := by
  obtain ⟨hd, hq⟩ := nilDs_ok hq
  obtain ⟨y8b, y8n, y8c, e7, q9⟩ := vSlice_ok hq
  obtain ⟨y11, e10, q12⟩ := vStr_ok q9
  exact ⟨y8b, y8n, y8c, y11, ⟨e7, e10, hd⟩, q12⟩
noncomputable def n1_c1 : Code := cFst code
noncomputable def n1_c2 : Code := cSnd code
noncomputable def n2_c1 : Code := cFst n1_c2
noncomputable def n2_c2 : Code := cSnd n1_c2
abbrev T2 := H → Prop
def E2 (g : Env)  : Prop := g.ds = []
def D2 (K : T2) (g : Env) (h : H) : Prop := nilDs g.ds (K h)
theorem D2_ok {K : T2} {g : Env} {h : H} (hq : D2 K g h) : E2 g  ∧ K  h := by
  obtain ⟨hd, hq⟩ := nilDs_ok hq
  skip
  exact ⟨hd, hq⟩
abbrev n3  (Kn : T0) (Kr : T0) (h : H) : Prop :=
  Kr false h
theorem n3_ok  (Kn : T0) (Kr : T0) (g : Env) (hg : E2 g ) (h : H) (hS : n3  Kn Kr h) : wpC none Try.prog 18 n2_c2 (Q0 Kn Kr) g h := by
  have hds : g.ds = [] := hg
  refine wpC_of_wpx (by kernel_rfl) (by kernel_rfl) (g' := ⟨g.v, []⟩) (by rw [env_ds hds]) ?_
  have e : (n3  Kn Kr h) = wpx none Try.prog 18 n2_c2 (Q0 Kn Kr) (⟨g.v, []⟩) h := by kernel_rfl
  exact e ▸ hS
def Q1 (Kn : T2) (Kr : T0) : XPost
  | .normal, g, h => D2 Kn g h
  | .ret, g, h => D0 Kr g h
  | _, _, _ => False
noncomputable def n4_c1 : Code := cFst n2_c1
noncomputable def n4_c2 : Code := cSnd n2_c1
abbrev T3 := (Option Addr) → Nat → Nat → (List UInt8) → Int → H → Prop
def E3 (g : Env) (x0b : Option Addr) (x0n : Nat) (x0c : Nat) (x1 : List UInt8) (x5 : Int) : Prop := g.v 0 = (.slice x0b x0n x0c) ∧ g.v 1 = (S x1) ∧ g.v 5 = (.int .i64 x5) ∧ g.ds = []
def D3 (K : T3) (g : Env) (h : H) : Prop := nilDs g.ds (vSlice (g.v 0) fun s13b s13n s13c => vStr (g.v 1) fun s14 => vInt .i64 (g.v 5) fun i15 => K s13b s13n s13c s14 i15 h)
theorem D3_ok {K : T3} {g : Env} {h : H} (hq : D3 K g h) : ∃ (x0b : Option Addr) (x0n : Nat) (x0c : Nat) (x1 : List UInt8) (x5 : Int), E3 g x0b x0n x0c x1 x5 ∧ K x0b x0n x0c x1 x5 h := by
  obtain ⟨hd, hq⟩ := nilDs_ok hq
  obtain ⟨y17b, y17n, y17c, e16, q18⟩ := vSlice_ok hq
  obtain ⟨y20, e19, q21⟩ := vStr_ok q18
  obtain ⟨y23, e22, q24⟩ := vInt_ok q21
  exact ⟨y17b, y17n, y17c, y20, y23, ⟨e16, e19, e22, hd⟩, q24⟩
noncomputable def n5_c1 : Code := cFst n4_c2
def Q2 (Kn : T2) (Ke0 : T2) (Kr : T0) : XPost
  | .normal, g, h => D2 Kn g h
  | .ret, g, h => D0 Kr g h
  | .exit id, g, h => cond (Nat.beq id 0) (D2 Ke0 g h) (False)
  | _, _, _ => False
noncomputable def n6_c1 : Code := cFst n5_c1
def Q3 (Kn : T3) (Ke0 : T2) (Kr : T0) : XPost
  | .normal, g, h => D3 Kn g h
  | .ret, g, h => D0 Kr g h
  | .exit id, g, h => cond (Nat.beq id 0) (D2 Ke0 g h) (False)
  | _, _, _ => False
def n6_L (Kn : T2) (Ke0 : T2) (Kr : T0) : Nat → (Option Addr) → Nat → Nat → (List UInt8) → Int → H → Prop
  | 0 => fun _ _ _ _ _ _ => False
  | N + 1 => fun x0b x0n x0c x1 x5 h => Spl (x5 < (x0n : Int)) ((0 ≤ x5 ∧ x5 < (x0n : Int)) ∧ (vSome x0b fun a25 => ∃ s26, cell h (a25.add (Int.toNat x5 * 1)) = some (S s26) ∧ (Spl (s26 = x1) (Kr true h) (Rng .i64 (x5 + (1 : Int)) ∧ (n6_L Kn Ke0 Kr N x0b x0n x0c x1 (x5 + (1 : Int)) h))))) (Ke0 h)
abbrev n6 (x0b : Option Addr) (x0n : Nat) (x0c : Nat) (x1 : List UInt8) (x5 : Int) (Kn : T2) (Ke0 : T2) (Kr : T0) (h : H) : Prop := ∃ N, n6_L Kn Ke0 Kr N x0b x0n x0c x1 x5 h
theorem n6_ok (x0b : Option Addr) (x0n : Nat) (x0c : Nat) (x1 : List UInt8) (x5 : Int) (Kn : T2) (Ke0 : T2) (Kr : T0) (g : Env) (hg : E3 g x0b x0n x0c x1 x5) (h : H) (hS : n6 x0b x0n x0c x1 x5 Kn Ke0 Kr h) : wpC none Try.prog 18 n5_c1 (Q2 Kn Ke0 Kr) g h := by
  obtain ⟨N0, hS⟩ := hS
  refine wpC_loop' (x := n6_c1) (by kernel_rfl) (fun k g h => ∃ (x0b : Option Addr) (x0n : Nat) (x0c : Nat) (x1 : List UInt8) (x5 : Int), E3 g x0b x0n x0c x1 x5 ∧ n6_L Kn Ke0 Kr k x0b x0n x0c x1 x5 h) (fun g h hr => ?_) (fun N g h hr => ?_) N0 ⟨x0b, x0n, x0c, x1, x5, hg, hS⟩
  · obtain ⟨x0b, x0n, x0c, x1, x5, hg, hS⟩ := hr
    exact hS.elim
  · obtain ⟨x0b, x0n, x0c, x1, x5, hg, hS⟩ := hr
    have hw : wpC none Try.prog 18 n6_c1 (Q3 (fun z0b z0n z0c z1 z5 h => n6_L Kn Ke0 Kr N z0b z0n z0c z1 z5 h) Ke0 Kr) g h := by
      obtain ⟨hg0, hg1, hg5, hds⟩ := hg
      refine wpC_of_wpx (by kernel_rfl) (by kernel_rfl) (g' := (((⟨g.v, []⟩ : Env).upd (some 0) (.slice x0b x0n x0c)).upd (some 1) (S x1)).upd (some 5) (.int .i64 x5)) (by rw [env_ds hds, upd_self hg0, upd_self hg1, upd_self hg5]) ?_
      have e : (n6_L Kn Ke0 Kr (N + 1) x0b x0n x0c x1 x5 h) = wpx none Try.prog 18 n6_c1 (Q3 (fun z0b z0n z0c z1 z5 h => n6_L Kn Ke0 Kr N z0b z0n z0c z1 z5 h) Ke0 Kr) ((((⟨g.v, []⟩ : Env).upd (some 0) (.slice x0b x0n x0c)).upd (some 1) (S x1)).upd (some 5) (.int .i64 x5)) h := by kernel_rfl
      exact e ▸ hS
    refine hw.mono ?_
    intro e g' h' hq
    cases e with
    | normal => exact D3_ok (K := (fun z0b z0n z0c z1 z5 h => n6_L Kn Ke0 Kr N z0b z0n z0c z1 z5 h)) hq
    | _ => exact hq
abbrev n5 (x0b : Option Addr) (x0n : Nat) (x0c : Nat) (x1 : List UInt8) (x5 : Int) (Kn : T2) (Kr : T0) (h : H) : Prop := n6 x0b x0n x0c x1 x5 Kn Kn Kr h
theorem n5_ok (x0b : Option Addr) (x0n : Nat) (x0c : Nat) (x1 : List UInt8) (x5 : Int) (Kn : T2) (Kr : T0) (g : Env) (hg : E3 g x0b x0n x0c x1 x5) (h : H) (hS : n5 x0b x0n x0c x1 x5 Kn Kr h) : wpC none Try.prog 18 n4_c2 (Q1 Kn Kr) g h := by
  refine wpC_block' (id := 0) (x := n5_c1) (by kernel_rfl) (n6_ok x0b x0n x0c x1 x5 Kn Kn Kr g hg h hS) ?_
  intro e g' h' hq
  cases e <;> exact hq
def Q4 (Kn : T3) (Kr : T0) : XPost
  | .normal, g, h => D3 Kn g h
  | .ret, g, h => D0 Kr g h
  | _, _, _ => False
abbrev n4 (x0b : Option Addr) (x0n : Nat) (x0c : Nat) (x1 : List UInt8) (Kn : T2) (Kr : T0) (h : H) : Prop :=
  n5 x0b x0n x0c x1 (0 : Int) Kn Kr h
theorem n4_ok (x0b : Option Addr) (x0n : Nat) (x0c : Nat) (x1 : List UInt8) (Kn : T2) (Kr : T0) (g : Env) (hg : E1 g x0b x0n x0c x1) (h : H) (hS : n4 x0b x0n x0c x1 Kn Kr h) : wpC none Try.prog 18 n2_c1 (Q1 Kn Kr) g h := by
  obtain ⟨hg0, hg1, hds⟩ := hg
  refine wpC_seq' (x := n4_c1) (y := n4_c2) (Q' := (Q4 (fun z0b z0n z0c z1 z5 h => n5 z0b z0n z0c z1 z5 Kn Kr h) Kr)) (by kernel_rfl) ?_ ?_
  · refine wpC_of_wpx (by kernel_rfl) (by kernel_rfl) (g' := ((⟨g.v, []⟩ : Env).upd (some 0) (.slice x0b x0n x0c)).upd (some 1) (S x1)) (by rw [env_ds hds, upd_self hg0, upd_self hg1]) ?_
    have e : (n4 x0b x0n x0c x1 Kn Kr h) = wpx none Try.prog 18 n4_c1 (Q4 (fun z0b z0n z0c z1 z5 h => n5 z0b z0n z0c z1 z5 Kn Kr h) Kr) (((⟨g.v, []⟩ : Env).upd (some 0) (.slice x0b x0n x0c)).upd (some 1) (S x1)) h := by kernel_rfl
    exact e ▸ hS
  · intro e g' h' hq
    cases e with
    | normal =>
      have hq : D3 (fun z0b z0n z0c z1 z5 h => n5 z0b z0n z0c z1 z5 Kn Kr h) g' h' := hq
      obtain ⟨y0b, y0n, y0c, y1, y5, hg', hq⟩ := D3_ok hq
      exact n5_ok y0b y0n y0c y1 y5 Kn Kr g' hg' h' hq
    | _ => exact hq
abbrev n2 (x0b : Option Addr) (x0n : Nat) (x0c : Nat) (x1 : List UInt8) (Kn : T0) (Kr : T0) (h : H) : Prop := n4 x0b x0n x0c x1 (fun  h => n3 Kn Kr h) Kr h
theorem n2_ok (x0b : Option Addr) (x0n : Nat) (x0c : Nat) (x1 : List UInt8) (Kn : T0) (Kr : T0) (g : Env) (hg : E1 g x0b x0n x0c x1) (h : H) (hS : n2 x0b x0n x0c x1 Kn Kr h) : wpC none Try.prog 18 n1_c2 (Q0 Kn Kr) g h := by
  refine wpC_seq' (x := n2_c1) (y := n2_c2) (by kernel_rfl) (n4_ok x0b x0n x0c x1 (fun  h => n3 Kn Kr h) Kr g hg h hS) ?_
  intro e g' h' hq
  cases e with
  | normal =>
    have hq : D2 (fun  h => n3 Kn Kr h) g' h' := hq
    obtain ⟨hg', hq⟩ := D2_ok hq
    exact n3_ok  Kn Kr g' hg' h' hq
  | _ => exact hq
def Q5 (Kn : T1) (Kr : T0) : XPost
  | .normal, g, h => D1 Kn g h
  | .ret, g, h => D0 Kr g h
  | _, _, _ => False
abbrev n1 (x0b : Option Addr) (x0n : Nat) (x0c : Nat) (x1 : List UInt8) (Kn : T0) (Kr : T0) (h : H) : Prop :=
  n2 x0b x0n x0c x1 Kn Kr h
theorem n1_ok (x0b : Option Addr) (x0n : Nat) (x0c : Nat) (x1 : List UInt8) (Kn : T0) (Kr : T0) (g : Env) (hg : E1 g x0b x0n x0c x1) (h : H) (hS : n1 x0b x0n x0c x1 Kn Kr h) : wpC none Try.prog 18 code (Q0 Kn Kr) g h := by
  obtain ⟨hg0, hg1, hds⟩ := hg
  refine wpC_seq' (x := n1_c1) (y := n1_c2) (Q' := (Q5 (fun z0b z0n z0c z1 h => n2 z0b z0n z0c z1 Kn Kr h) Kr)) (by kernel_rfl) ?_ ?_
  · refine wpC_of_wpx (by kernel_rfl) (by kernel_rfl) (g' := ((⟨g.v, []⟩ : Env).upd (some 0) (.slice x0b x0n x0c)).upd (some 1) (S x1)) (by rw [env_ds hds, upd_self hg0, upd_self hg1]) ?_
    have e : (n1 x0b x0n x0c x1 Kn Kr h) = wpx none Try.prog 18 n1_c1 (Q5 (fun z0b z0n z0c z1 h => n2 z0b z0n z0c z1 Kn Kr h) Kr) (((⟨g.v, []⟩ : Env).upd (some 0) (.slice x0b x0n x0c)).upd (some 1) (S x1)) h := by kernel_rfl
    exact e ▸ hS
  · intro e g' h' hq
    cases e with
    | normal =>
      have hq : D1 (fun z0b z0n z0c z1 h => n2 z0b z0n z0c z1 Kn Kr h) g' h' := hq
      obtain ⟨y0b, y0n, y0c, y1, hg', hq⟩ := D1_ok hq
      exact n2_ok y0b y0n y0c y1 Kn Kr g' hg' h' hq
    | _ => exact hq
/-- WHAT tympan/tympanref11.in ASKS -/
abbrev asks (x0b : Option Addr) (x0n : Nat) (x0c : Nat) (x1 : List UInt8) (K : Value → H → Prop) (h : H) : Prop := n1 x0b x0n x0c x1 (fun y4 h => K (.bool y4) h) (fun y4 h => K (.bool y4) h) h
theorem ok (x0b : Option Addr) (x0n : Nat) (x0c : Nat) (x1 : List UInt8) (K : Value → H → Prop) (h : H) (hS : asks x0b x0n x0c x1 K h) : HCalls Try.prog 31 ⟨[(.slice x0b x0n x0c), (S x1)]⟩ h K := by
  refine calls_of_wpC (c := code) Try.func31 (by kernel_rfl) (Nat.le_of_ble_eq_true (by kernel_rfl)) ?_
  refine (n1_ok x0b x0n x0c x1 (fun y4 h => K (.bool y4) h) (fun y4 h => K (.bool y4) h) (env0 [(.slice x0b x0n x0c), (S x1)]) ⟨rfl, rfl, rfl⟩ h hS).mono ?_
  intro e g' h' hq
  cases e with
  | normal =>
    have hq : D0 (fun y4 h => K (.bool y4) h) g' h' := hq
    obtain ⟨y4, ⟨hg4, hd⟩, hq⟩ := D0_ok hq
    show leaveX g'.ds h' _
    rw [hd]
    show K (g'.v 4) h'
    rw [hg4]
    exact hq
  | ret =>
    have hq : D0 (fun y4 h => K (.bool y4) h) g' h' := hq
    obtain ⟨y4, ⟨hg4, hd⟩, hq⟩ := D0_ok hq
    show leaveX g'.ds h' _
    rw [hd]
    show K (g'.v 4) h'
    rw [hg4]
    exact hq
  | _ => exact hq
end Sx.r11_in

/-! ### slices.Backward[[]tympan/api.Open,tympan/api.Open] -/
namespace Sx.slices_Backward_apiOpen
noncomputable def code : Code := bodyOf Try.f32
abbrev T0 := Value → H → Prop
def E0 (g : Env) (x2 : Value) : Prop := g.v 2 = x2 ∧ g.ds = []
def D0 (K : T0) (g : Env) (h : H) : Prop := nilDs g.ds (K (g.v 2) h)
theorem D0_ok {K : T0} {g : Env} {h : H} (hq : D0 K g h) : ∃ (x2 : Value), E0 g x2 ∧ K x2 h := by
  obtain ⟨hd, hq⟩ := nilDs_ok hq
  skip
  exact ⟨(g.v 2), ⟨rfl, hd⟩, hq⟩
def Q0 (Kn : T0) (Kr : T0) : XPost
  | .normal, g, h => D0 Kn g h
  | .ret, g, h => D0 Kr g h
  | _, _, _ => False
abbrev T1 := (Option Addr) → Nat → Nat → H → Prop
def E1 (g : Env) (x0b : Option Addr) (x0n : Nat) (x0c : Nat) : Prop := g.v 0 = (.slice x0b x0n x0c) ∧ g.ds = []
def D1 (K : T1) (g : Env) (h : H) : Prop := nilDs g.ds (vSlice (g.v 0) fun s1b s1n s1c => K s1b s1n s1c h)
theorem D1_ok {K : T1} {g : Env} {h : H} (hq : D1 K g h) : ∃ (x0b : Option Addr) (x0n : Nat) (x0c : Nat), E1 g x0b x0n x0c ∧ K x0b x0n x0c h := by
  obtain ⟨hd, hq⟩ := nilDs_ok hq
  obtain ⟨y3b, y3n, y3c, e2, q4⟩ := vSlice_ok hq
  exact ⟨y3b, y3n, y3c, ⟨e2, hd⟩, q4⟩
abbrev n1 (x0b : Option Addr) (x0n : Nat) (x0c : Nat) (Kn : T0) (Kr : T0) (h : H) : Prop :=
  newx h #[(.slice x0b x0n x0c)] 22 fun a5 h6 => Kr (.func (.func 35) ⟨[]⟩ ⟨[(.pointer (some a5))]⟩) h6
theorem n1_ok (x0b : Option Addr) (x0n : Nat) (x0c : Nat) (Kn : T0) (Kr : T0) (g : Env) (hg : E1 g x0b x0n x0c) (h : H) (hS : n1 x0b x0n x0c Kn Kr h) : wpC none Try.prog 4 code (Q0 Kn Kr) g h := by
  obtain ⟨hg0, hds⟩ := hg
  refine wpC_of_wpx (by kernel_rfl) (by kernel_rfl) (g' := (⟨g.v, []⟩ : Env).upd (some 0) (.slice x0b x0n x0c)) (by rw [env_ds hds, upd_self hg0]) ?_
  have e : (n1 x0b x0n x0c Kn Kr h) = wpx none Try.prog 4 code (Q0 Kn Kr) ((⟨g.v, []⟩ : Env).upd (some 0) (.slice x0b x0n x0c)) h := by kernel_rfl
  exact e ▸ hS
/-- WHAT slices.Backward[[]tympan/api.Open,tympan/api.Open] ASKS -/
abbrev asks (x0b : Option Addr) (x0n : Nat) (x0c : Nat) (K : Value → H → Prop) (h : H) : Prop := n1 x0b x0n x0c (fun y2 h => K y2 h) (fun y2 h => K y2 h) h
theorem ok (x0b : Option Addr) (x0n : Nat) (x0c : Nat) (K : Value → H → Prop) (h : H) (hS : asks x0b x0n x0c K h) : HCalls Try.prog 32 ⟨[(.slice x0b x0n x0c)]⟩ h K := by
  refine calls_of_wpC (c := code) Try.func32 (by kernel_rfl) (Nat.le_of_ble_eq_true (by kernel_rfl)) ?_
  refine (n1_ok x0b x0n x0c (fun y2 h => K y2 h) (fun y2 h => K y2 h) (env0 [(.slice x0b x0n x0c)]) ⟨rfl, rfl⟩ h hS).mono ?_
  intro e g' h' hq
  cases e with
  | normal =>
    have hq : D0 (fun y2 h => K y2 h) g' h' := hq
    obtain ⟨y2, ⟨hg2, hd⟩, hq⟩ := D0_ok hq
    show leaveX g'.ds h' _
    rw [hd]
    show K (g'.v 2) h'
    rw [hg2]
    exact hq
  | ret =>
    have hq : D0 (fun y2 h => K y2 h) g' h' := hq
    obtain ⟨y2, ⟨hg2, hd⟩, hq⟩ := D0_ok hq
    show leaveX g'.ds h' _
    rw [hd]
    show K (g'.v 2) h'
    rw [hg2]
    exact hq
  | _ => exact hq
end Sx.slices_Backward_apiOpen

/-! ### slices.Contains[[]string,string] -/
namespace Sx.slices_Contains_string
noncomputable def code : Code := bodyOf Try.f33
abbrev T0 := Bool → H → Prop
def E0 (g : Env) (x4 : Bool) : Prop := g.v 4 = (.bool x4) ∧ g.ds = []
def D0 (K : T0) (g : Env) (h : H) : Prop := nilDs g.ds (vBool (g.v 4) fun b1 => K b1 h)
theorem D0_ok {K : T0} {g : Env} {h : H} (hq : D0 K g h) : ∃ (x4 : Bool), E0 g x4 ∧ K x4 h := by
  obtain ⟨hd, hq⟩ := nilDs_ok hq
  obtain ⟨y3, e2, q4⟩ := vBool_ok hq
  exact ⟨y3, ⟨e2, hd⟩, q4⟩
def Q0 (Kn : T0) (Kr : T0) : XPost
  | .normal, g, h => D0 Kn g h
  | .ret, g, h => D0 Kr g h
  | _, _, _ => False
abbrev T1 := (Option Addr) → Nat → Nat → (List UInt8) → H → Prop
def E1 (g : Env) (x0b : Option Addr) (x0n : Nat) (x0c : Nat) (x1 : List UInt8) : Prop := g.v 0 = (.slice x0b x0n x0c) ∧ g.v 1 = (S x1) ∧ g.ds = []
def D1 (K : T1) (g : Env) (h : H) : Prop := nilDs g.ds (vSlice (g.v 0) fun s5b s5n s5c => vStr (g.v 1) fun s6 => K s5b s5n s5c s6 h)
theorem D1_ok {K : T1} {g : Env} {h : H} (hq : D1 K g h) : ∃ (x0b : Option Addr) (x0n : Nat) (x0c : Nat) (x1 : List UInt8), E1 g x0b x0n x0c x1 ∧ K x0b x0n x0c x1 h := by
  obtain ⟨hd, hq⟩ := nilDs_ok hq
  obtain ⟨y8b, y8n, y8c, e7, q9⟩ := vSlice_ok hq
  obtain ⟨y11, e10, q12⟩ := vStr_ok q9
  exact ⟨y8b, y8n, y8c, y11, ⟨e7, e10, hd⟩, q12⟩
abbrev n1 (x0b : Option Addr) (x0n : Nat) (x0c : Nat) (x1 : List UInt8) (Kn : T0) (Kr : T0) (h : H) : Prop :=
  HCalls Try.prog 36 ⟨[(.slice x0b x0n x0c), (S x1)]⟩ h fun v13 h14 => vInt .i64 v13 fun i15 => Spl (i15 ≥ (0 : Int)) (Kr true h14) (Kr false h14)
theorem n1_ok (x0b : Option Addr) (x0n : Nat) (x0c : Nat) (x1 : List UInt8) (Kn : T0) (Kr : T0) (g : Env) (hg : E1 g x0b x0n x0c x1) (h : H) (hS : n1 x0b x0n x0c x1 Kn Kr h) : wpC none Try.prog 9 code (Q0 Kn Kr) g h := by
  obtain ⟨hg0, hg1, hds⟩ := hg
  refine wpC_of_wpx (by kernel_rfl) (by kernel_rfl) (g' := ((⟨g.v, []⟩ : Env).upd (some 0) (.slice x0b x0n x0c)).upd (some 1) (S x1)) (by rw [env_ds hds, upd_self hg0, upd_self hg1]) ?_
  have e : (n1 x0b x0n x0c x1 Kn Kr h) = wpx none Try.prog 9 code (Q0 Kn Kr) (((⟨g.v, []⟩ : Env).upd (some 0) (.slice x0b x0n x0c)).upd (some 1) (S x1)) h := by kernel_rfl
  exact e ▸ hS
/-- WHAT slices.Contains[[]string,string] ASKS -/
abbrev asks (x0b : Option Addr) (x0n : Nat) (x0c : Nat) (x1 : List UInt8) (K : Value → H → Prop) (h : H) : Prop := n1 x0b x0n x0c x1 (fun y4 h => K (.bool y4) h) (fun y4 h => K (.bool y4) h) h
theorem ok (x0b : Option Addr) (x0n : Nat) (x0c : Nat) (x1 : List UInt8) (K : Value → H → Prop) (h : H) (hS : asks x0b x0n x0c x1 K h) : HCalls Try.prog 33 ⟨[(.slice x0b x0n x0c), (S x1)]⟩ h K := by
  refine calls_of_wpC (c := code) Try.func33 (by kernel_rfl) (Nat.le_of_ble_eq_true (by kernel_rfl)) ?_
  refine (n1_ok x0b x0n x0c x1 (fun y4 h => K (.bool y4) h) (fun y4 h => K (.bool y4) h) (env0 [(.slice x0b x0n x0c), (S x1)]) ⟨rfl, rfl, rfl⟩ h hS).mono ?_
  intro e g' h' hq
  cases e with
  | normal =>
    have hq : D0 (fun y4 h => K (.bool y4) h) g' h' := hq
    obtain ⟨y4, ⟨hg4, hd⟩, hq⟩ := D0_ok hq
    show leaveX g'.ds h' _
    rw [hd]
    show K (g'.v 4) h'
    rw [hg4]
    exact hq
  | ret =>
    have hq : D0 (fun y4 h => K (.bool y4) h) g' h' := hq
    obtain ⟨y4, ⟨hg4, hd⟩, hq⟩ := D0_ok hq
    show leaveX g'.ds h' _
    rw [hd]
    show K (g'.v 4) h'
    rw [hg4]
    exact hq
  | _ => exact hq
end Sx.slices_Contains_string

/-! ### slices.Backward[[]tympan/api.Open,tympan/api.Open]$1 -/
namespace Sx.slices_Backward_1_apiOpen1
noncomputable def code : Code := bodyOf Try.f35
abbrev T0 := H → Prop
def E0 (g : Env)  : Prop := g.ds = []
def D0 (K : T0) (g : Env) (h : H) : Prop := nilDs g.ds (K h)
theorem D0_ok {K : T0} {g : Env} {h : H} (hq : D0 K g h) : E0 g  ∧ K  h := by
  obtain ⟨hd, hq⟩ := nilDs_ok hq
  skip
  exact ⟨hd, hq⟩
def Q0 (Kn : T0) (Kr : T0) : XPost
  | .normal, g, h => D0 Kn g h
  | .ret, g, h => D0 Kr g h
  | _, _, _ => False
abbrev T1 := Value → Addr → H → Prop
def E1 (g : Env) (x0 : Value) (x1 : Addr) : Prop := g.v 0 = x0 ∧ g.v 1 = (.pointer (some x1)) ∧ g.ds = []
def D1 (K : T1) (g : Env) (h : H) : Prop := nilDs g.ds (vAddr (g.v 1) fun a1 => K (g.v 0) a1 h)
theorem D1_ok {K : T1} {g : Env} {h : H} (hq : D1 K g h) : ∃ (x0 : Value) (x1 : Addr), E1 g x0 x1 ∧ K x0 x1 h := by
  obtain ⟨hd, hq⟩ := nilDs_ok hq
  obtain ⟨y3, e2, q4⟩ := vAddr_ok hq
  exact ⟨(g.v 0), y3, ⟨rfl, e2, hd⟩, q4⟩
noncomputable def n1_c1 : Code := cFst code
noncomputable def n1_c2 : Code := cSnd code
abbrev T2 := Value → Addr → Int → H → Prop
def E2 (g : Env) (x0 : Value) (x1 : Addr) (x3 : Int) : Prop := g.v 0 = x0 ∧ g.v 1 = (.pointer (some x1)) ∧ g.v 3 = (.int .i64 x3) ∧ g.ds = []
def D2 (K : T2) (g : Env) (h : H) : Prop := nilDs g.ds (vAddr (g.v 1) fun a5 => vInt .i64 (g.v 3) fun i6 => K (g.v 0) a5 i6 h)
theorem D2_ok {K : T2} {g : Env} {h : H} (hq : D2 K g h) : ∃ (x0 : Value) (x1 : Addr) (x3 : Int), E2 g x0 x1 x3 ∧ K x0 x1 x3 h := by
  obtain ⟨hd, hq⟩ := nilDs_ok hq
  obtain ⟨y8, e7, q9⟩ := vAddr_ok hq
  obtain ⟨y11, e10, q12⟩ := vInt_ok q9
  exact ⟨(g.v 0), y8, y11, ⟨rfl, e7, e10, hd⟩, q12⟩
noncomputable def n2_c1 : Code := cFst n1_c2
def Q1 (Kn : T0) (Ke0 : T0) (Kr : T0) : XPost
  | .normal, g, h => D0 Kn g h
  | .ret, g, h => D0 Kr g h
  | .exit id, g, h => cond (Nat.beq id 0) (D0 Ke0 g h) (False)
  | _, _, _ => False
noncomputable def n3_c1 : Code := cFst n2_c1
def Q2 (Kn : T2) (Ke0 : T0) (Kr : T0) : XPost
  | .normal, g, h => D2 Kn g h
  | .ret, g, h => D0 Kr g h
  | .exit id, g, h => cond (Nat.beq id 0) (D0 Ke0 g h) (False)
  | _, _, _ => False
def n3_L (Kn : T0) (Ke0 : T0) (Kr : T0) : Nat → Value → Addr → Int → H → Prop
  | 0 => fun _ _ _ _ => False
  | N + 1 => fun x0 x1 x3 h => Spl (x3 ≥ (0 : Int)) (∃ s13b s13n s13c, cell h x1 = some (.slice s13b s13n s13c) ∧ ((0 ≤ x3 ∧ x3 < (s13n : Int)) ∧ (vSome s13b fun a14 => ∃ i15, cell h (((a14.add (Int.toNat x3 * 4))).add 0) = some (.int .i64 i15) ∧ (∃ i16, cell h (((a14.add (Int.toNat x3 * 4))).add 1) = some (.int .u8 i16) ∧ (∃ s17, cell h (((a14.add (Int.toNat x3 * 4))).add 2) = some (S s17) ∧ (∃ i18, cell h (((a14.add (Int.toNat x3 * 4))).add 3) = some (.int .u8 i18) ∧ (CallV Try.prog 4 x0 ⟨[(.int .i64 x3), (.agg ⟨[(.int .i64 i15), (.int .u8 i16), (S s17), (.int .u8 i18)]⟩)]⟩ h fun v19 h20 => vBool v19 fun b21 => cond b21 (Rng .i64 (x3 - (1 : Int)) ∧ (n3_L Kn Ke0 Kr N x0 x1 (x3 - (1 : Int)) h20)) (Kr h20)))))))) (Ke0 h)
abbrev n3 (x0 : Value) (x1 : Addr) (x3 : Int) (Kn : T0) (Ke0 : T0) (Kr : T0) (h : H) : Prop := ∃ N, n3_L Kn Ke0 Kr N x0 x1 x3 h
theorem n3_ok (x0 : Value) (x1 : Addr) (x3 : Int) (Kn : T0) (Ke0 : T0) (Kr : T0) (g : Env) (hg : E2 g x0 x1 x3) (h : H) (hS : n3 x0 x1 x3 Kn Ke0 Kr h) : wpC none Try.prog 19 n2_c1 (Q1 Kn Ke0 Kr) g h := by
  obtain ⟨N0, hS⟩ := hS
  refine wpC_loop' (x := n3_c1) (by kernel_rfl) (fun k g h => ∃ (x0 : Value) (x1 : Addr) (x3 : Int), E2 g x0 x1 x3 ∧ n3_L Kn Ke0 Kr k x0 x1 x3 h) (fun g h hr => ?_) (fun N g h hr => ?_) N0 ⟨x0, x1, x3, hg, hS⟩
  · obtain ⟨x0, x1, x3, hg, hS⟩ := hr
    exact hS.elim
  · obtain ⟨x0, x1, x3, hg, hS⟩ := hr
    have hw : wpC none Try.prog 19 n3_c1 (Q2 (fun z0 z1 z3 h => n3_L Kn Ke0 Kr N z0 z1 z3 h) Ke0 Kr) g h := by
      obtain ⟨hg0, hg1, hg3, hds⟩ := hg
      refine wpC_of_wpx (by kernel_rfl) (by kernel_rfl) (g' := (((⟨g.v, []⟩ : Env).upd (some 0) x0).upd (some 1) (.pointer (some x1))).upd (some 3) (.int .i64 x3)) (by rw [env_ds hds, upd_self hg0, upd_self hg1, upd_self hg3]) ?_
      have e : (n3_L Kn Ke0 Kr (N + 1) x0 x1 x3 h) = wpx none Try.prog 19 n3_c1 (Q2 (fun z0 z1 z3 h => n3_L Kn Ke0 Kr N z0 z1 z3 h) Ke0 Kr) ((((⟨g.v, []⟩ : Env).upd (some 0) x0).upd (some 1) (.pointer (some x1))).upd (some 3) (.int .i64 x3)) h := by kernel_rfl
      exact e ▸ hS
    refine hw.mono ?_
    intro e g' h' hq
    cases e with
    | normal => exact D2_ok (K := (fun z0 z1 z3 h => n3_L Kn Ke0 Kr N z0 z1 z3 h)) hq
    | _ => exact hq
abbrev n2 (x0 : Value) (x1 : Addr) (x3 : Int) (Kn : T0) (Kr : T0) (h : H) : Prop := n3 x0 x1 x3 Kn Kn Kr h
theorem n2_ok (x0 : Value) (x1 : Addr) (x3 : Int) (Kn : T0) (Kr : T0) (g : Env) (hg : E2 g x0 x1 x3) (h : H) (hS : n2 x0 x1 x3 Kn Kr h) : wpC none Try.prog 19 n1_c2 (Q0 Kn Kr) g h := by
  refine wpC_block' (id := 0) (x := n2_c1) (by kernel_rfl) (n3_ok x0 x1 x3 Kn Kn Kr g hg h hS) ?_
  intro e g' h' hq
  cases e <;> exact hq
def Q3 (Kn : T2) (Kr : T0) : XPost
  | .normal, g, h => D2 Kn g h
  | .ret, g, h => D0 Kr g h
  | _, _, _ => False
abbrev n1 (x0 : Value) (x1 : Addr) (Kn : T0) (Kr : T0) (h : H) : Prop :=
  ∃ s22b s22n s22c, cell h x1 = some (.slice s22b s22n s22c) ∧ (Rng .i64 ((s22n : Int) - (1 : Int)) ∧ (n2 x0 x1 ((s22n : Int) - (1 : Int)) Kn Kr h))
theorem n1_ok (x0 : Value) (x1 : Addr) (Kn : T0) (Kr : T0) (g : Env) (hg : E1 g x0 x1) (h : H) (hS : n1 x0 x1 Kn Kr h) : wpC none Try.prog 19 code (Q0 Kn Kr) g h := by
  obtain ⟨hg0, hg1, hds⟩ := hg
  refine wpC_seq' (x := n1_c1) (y := n1_c2) (Q' := (Q3 (fun z0 z1 z3 h => n2 z0 z1 z3 Kn Kr h) Kr)) (by kernel_rfl) ?_ ?_
  · refine wpC_of_wpx (by kernel_rfl) (by kernel_rfl) (g' := ((⟨g.v, []⟩ : Env).upd (some 0) x0).upd (some 1) (.pointer (some x1))) (by rw [env_ds hds, upd_self hg0, upd_self hg1]) ?_
    have e : (n1 x0 x1 Kn Kr h) = wpx none Try.prog 19 n1_c1 (Q3 (fun z0 z1 z3 h => n2 z0 z1 z3 Kn Kr h) Kr) (((⟨g.v, []⟩ : Env).upd (some 0) x0).upd (some 1) (.pointer (some x1))) h := by kernel_rfl
    exact e ▸ hS
  · intro e g' h' hq
    cases e with
    | normal =>
      have hq : D2 (fun z0 z1 z3 h => n2 z0 z1 z3 Kn Kr h) g' h' := hq
      obtain ⟨y0, y1, y3, hg', hq⟩ := D2_ok hq
      exact n2_ok y0 y1 y3 Kn Kr g' hg' h' hq
    | _ => exact hq
/-- WHAT slices.Backward[[]tympan/api.Open,tympan/api.Open]$1 ASKS -/
abbrev asks (x0 : Value) (x1 : Addr) (K : Value → H → Prop) (h : H) : Prop := n1 x0 x1 (fun h => K (.tuple ⟨[]⟩) h) (fun h => K (.tuple ⟨[]⟩) h) h
theorem ok (x0 : Value) (x1 : Addr) (K : Value → H → Prop) (h : H) (hS : asks x0 x1 K h) : HCalls Try.prog 35 ⟨[x0, (.pointer (some x1))]⟩ h K := by
  refine calls_of_wpC (c := code) Try.func35 (by kernel_rfl) (Nat.le_of_ble_eq_true (by kernel_rfl)) ?_
  refine (n1_ok x0 x1 (fun h => K (.tuple ⟨[]⟩) h) (fun h => K (.tuple ⟨[]⟩) h) (env0 [x0, (.pointer (some x1))]) ⟨rfl, rfl, rfl⟩ h hS).mono ?_
  intro e g' h' hq
  cases e with
  | normal =>
    have hq : D0 (fun h => K (.tuple ⟨[]⟩) h) g' h' := hq
    obtain ⟨hd, hq⟩ := D0_ok hq
    show leaveX g'.ds h' _
    rw [hd]
    show K (.tuple ⟨[]⟩) h'
    exact hq
  | ret =>
    have hq : D0 (fun h => K (.tuple ⟨[]⟩) h) g' h' := hq
    obtain ⟨hd, hq⟩ := D0_ok hq
    show leaveX g'.ds h' _
    rw [hd]
    show K (.tuple ⟨[]⟩) h'
    exact hq
  | _ => exact hq
end Sx.slices_Backward_1_apiOpen1

/-! ### slices.Index[[]string,string] -/
namespace Sx.slices_Index_string
noncomputable def code : Code := bodyOf Try.f36
abbrev T0 := Int → H → Prop
def E0 (g : Env) (x4 : Int) : Prop := g.v 4 = (.int .i64 x4) ∧ g.ds = []
def D0 (K : T0) (g : Env) (h : H) : Prop := nilDs g.ds (vInt .i64 (g.v 4) fun i1 => K i1 h)
theorem D0_ok {K : T0} {g : Env} {h : H} (hq : D0 K g h) : ∃ (x4 : Int), E0 g x4 ∧ K x4 h := by
  obtain ⟨hd, hq⟩ := nilDs_ok hq
  obtain ⟨y3, e2, q4⟩ := vInt_ok hq
  exact ⟨y3, ⟨e2, hd⟩, q4⟩
def Q0 (Kn : T0) (Kr : T0) : XPost
  | .normal, g, h => D0 Kn g h
  | .ret, g, h => D0 Kr g h
  | _, _, _ => False
abbrev T1 := (Option Addr) → Nat → Nat → (List UInt8) → H → Prop
def E1 (g : Env) (x0b : Option Addr) (x0n : Nat) (x0c : Nat) (x1 : List UInt8) : Prop := g.v 0 = (.slice x0b x0n x0c) ∧ g.v 1 = (S x1) ∧ g.ds = []
def D1 (K : T1) (g : Env) (h : H) : Prop := nilDs g.ds (vSlice (g.v 0) fun s5b s5n s5c => vStr (g.v 1) fun s6 => K s5b s5n s5c s6 h)
theorem D1_ok {K : T1} {g : Env} {h : H} (hq : D1 K g h) : ∃ (x0b : Option Addr) (x0n : Nat) (x0c : Nat) (x1 : List UInt8), E1 g x0b x0n x0c x1 ∧ K x0b x0n x0c x1 h := by
  obtain ⟨hd, hq⟩ := nilDs_ok hq
  obtain ⟨y8b, y8n, y8c, e7, q9⟩ := vSlice_ok hq
  obtain ⟨y11, e10, q12⟩ := vStr_ok q9
  exact ⟨y8b, y8n, y8c, y11, ⟨e7, e10, hd⟩, q12⟩
noncomputable def n1_c1 : Code := cFst code
noncomputable def n1_c2 : Code := cSnd code
noncomputable def n2_c1 : Code := cFst n1_c2
noncomputable def n2_c2 : Code := cSnd n1_c2
abbrev T2 := H → Prop
def E2 (g : Env)  : Prop := g.ds = []
def D2 (K : T2) (g : Env) (h : H) : Prop := nilDs g.ds (K h)
theorem D2_ok {K : T2} {g : Env} {h : H} (hq : D2 K g h) : E2 g  ∧ K  h := by
  obtain ⟨hd, hq⟩ := nilDs_ok hq
  skip
  exact ⟨hd, hq⟩
abbrev n3  (Kn : T0) (Kr : T0) (h : H) : Prop :=
  Kr (-1 : Int) h
theorem n3_ok  (Kn : T0) (Kr : T0) (g : Env) (hg : E2 g ) (h : H) (hS : n3  Kn Kr h) : wpC none Try.prog 19 n2_c2 (Q0 Kn Kr) g h := by
  have hds : g.ds = [] := hg
  refine wpC_of_wpx (by kernel_rfl) (by kernel_rfl) (g' := ⟨g.v, []⟩) (by rw [env_ds hds]) ?_
  have e : (n3  Kn Kr h) = wpx none Try.prog 19 n2_c2 (Q0 Kn Kr) (⟨g.v, []⟩) h := by kernel_rfl
  exact e ▸ hS
def Q1 (Kn : T2) (Kr : T0) : XPost
  | .normal, g, h => D2 Kn g h
  | .ret, g, h => D0 Kr g h
  | _, _, _ => False
noncomputable def n4_c1 : Code := cFst n2_c1
noncomputable def n4_c2 : Code := cSnd n2_c1
abbrev T3 := (Option Addr) → Nat → Nat → (List UInt8) → Int → Int → H → Prop
def E3 (g : Env) (x0b : Option Addr) (x0n : Nat) (x0c : Nat) (x1 : List UInt8) (x7 : Int) (x8 : Int) : Prop := g.v 0 = (.slice x0b x0n x0c) ∧ g.v 1 = (S x1) ∧ g.v 7 = (.int .i64 x7) ∧ g.v 8 = (.int .i64 x8) ∧ g.ds = []
def D3 (K : T3) (g : Env) (h : H) : Prop := nilDs g.ds (vSlice (g.v 0) fun s13b s13n s13c => vStr (g.v 1) fun s14 => vInt .i64 (g.v 7) fun i15 => vInt .i64 (g.v 8) fun i16 => K s13b s13n s13c s14 i15 i16 h)
theorem D3_ok {K : T3} {g : Env} {h : H} (hq : D3 K g h) : ∃ (x0b : Option Addr) (x0n : Nat) (x0c : Nat) (x1 : List UInt8) (x7 : Int) (x8 : Int), E3 g x0b x0n x0c x1 x7 x8 ∧ K x0b x0n x0c x1 x7 x8 h := by
  obtain ⟨hd, hq⟩ := nilDs_ok hq
  obtain ⟨y18b, y18n, y18c, e17, q19⟩ := vSlice_ok hq
  obtain ⟨y21, e20, q22⟩ := vStr_ok q19
  obtain ⟨y24, e23, q25⟩ := vInt_ok q22
  obtain ⟨y27, e26, q28⟩ := vInt_ok q25
  exact ⟨y18b, y18n, y18c, y21, y24, y27, ⟨e17, e20, e23, e26, hd⟩, q28⟩
noncomputable def n5_c1 : Code := cFst n4_c2
def Q2 (Kn : T2) (Ke0 : T2) (Kr : T0) : XPost
  | .normal, g, h => D2 Kn g h
  | .ret, g, h => D0 Kr g h
  | .exit id, g, h => cond (Nat.beq id 0) (D2 Ke0 g h) (False)
  | _, _, _ => False
noncomputable def n6_c1 : Code := cFst n5_c1
def Q3 (Kn : T3) (Ke0 : T2) (Kr : T0) : XPost
  | .normal, g, h => D3 Kn g h
  | .ret, g, h => D0 Kr g h
  | .exit id, g, h => cond (Nat.beq id 0) (D2 Ke0 g h) (False)
  | _, _, _ => False
def n6_L (Kn : T2) (Ke0 : T2) (Kr : T0) : Nat → (Option Addr) → Nat → Nat → (List UInt8) → Int → Int → H → Prop
  | 0 => fun _ _ _ _ _ _ _ => False
  | N + 1 => fun x0b x0n x0c x1 x7 x8 h => Spl (x8 < x7) ((0 ≤ x8 ∧ x8 < (x0n : Int)) ∧ (vSome x0b fun a29 => ∃ s30, cell h (a29.add (Int.toNat x8 * 1)) = some (S s30) ∧ (Spl (x1 = s30) (Kr x8 h) (Rng .i64 (x8 + (1 : Int)) ∧ (n6_L Kn Ke0 Kr N x0b x0n x0c x1 x7 (x8 + (1 : Int)) h))))) (Ke0 h)
abbrev n6 (x0b : Option Addr) (x0n : Nat) (x0c : Nat) (x1 : List UInt8) (x7 : Int) (x8 : Int) (Kn : T2) (Ke0 : T2) (Kr : T0) (h : H) : Prop := ∃ N, n6_L Kn Ke0 Kr N x0b x0n x0c x1 x7 x8 h
theorem n6_ok (x0b : Option Addr) (x0n : Nat) (x0c : Nat) (x1 : List UInt8) (x7 : Int) (x8 : Int) (Kn : T2) (Ke0 : T2) (Kr : T0) (g : Env) (hg : E3 g x0b x0n x0c x1 x7 x8) (h : H) (hS : n6 x0b x0n x0c x1 x7 x8 Kn Ke0 Kr h) : wpC none Try.prog 19 n5_c1 (Q2 Kn Ke0 Kr) g h := by
  obtain ⟨N0, hS⟩ := hS
  refine wpC_loop' (x := n6_c1) (by kernel_rfl) (fun k g h => ∃ (x0b : Option Addr) (x0n : Nat) (x0c : Nat) (x1 : List UInt8) (x7 : Int) (x8 : Int), E3 g x0b x0n x0c x1 x7 x8 ∧ n6_L Kn Ke0 Kr k x0b x0n x0c x1 x7 x8 h) (fun g h hr => ?_) (fun N g h hr => ?_) N0 ⟨x0b, x0n, x0c, x1, x7, x8, hg, hS⟩
  · obtain ⟨x0b, x0n, x0c, x1, x7, x8, hg, hS⟩ := hr
    exact hS.elim
  · obtain ⟨x0b, x0n, x0c, x1, x7, x8, hg, hS⟩ := hr
    have hw : wpC none Try.prog 19 n6_c1 (Q3 (fun z0b z0n z0c z1 z7 z8 h => n6_L Kn Ke0 Kr N z0b z0n z0c z1 z7 z8 h) Ke0 Kr) g h := by
      obtain ⟨hg0, hg1, hg7, hg8, hds⟩ := hg
      refine wpC_of_wpx (by kernel_rfl) (by kernel_rfl) (g' := ((((⟨g.v, []⟩ : Env).upd (some 0) (.slice x0b x0n x0c)).upd (some 1) (S x1)).upd (some 7) (.int .i64 x7)).upd (some 8) (.int .i64 x8)) (by rw [env_ds hds, upd_self hg0, upd_self hg1, upd_self hg7, upd_self hg8]) ?_
      have e : (n6_L Kn Ke0 Kr (N + 1) x0b x0n x0c x1 x7 x8 h) = wpx none Try.prog 19 n6_c1 (Q3 (fun z0b z0n z0c z1 z7 z8 h => n6_L Kn Ke0 Kr N z0b z0n z0c z1 z7 z8 h) Ke0 Kr) (((((⟨g.v, []⟩ : Env).upd (some 0) (.slice x0b x0n x0c)).upd (some 1) (S x1)).upd (some 7) (.int .i64 x7)).upd (some 8) (.int .i64 x8)) h := by kernel_rfl
      exact e ▸ hS
    refine hw.mono ?_
    intro e g' h' hq
    cases e with
    | normal => exact D3_ok (K := (fun z0b z0n z0c z1 z7 z8 h => n6_L Kn Ke0 Kr N z0b z0n z0c z1 z7 z8 h)) hq
    | _ => exact hq
abbrev n5 (x0b : Option Addr) (x0n : Nat) (x0c : Nat) (x1 : List UInt8) (x7 : Int) (x8 : Int) (Kn : T2) (Kr : T0) (h : H) : Prop := n6 x0b x0n x0c x1 x7 x8 Kn Kn Kr h
theorem n5_ok (x0b : Option Addr) (x0n : Nat) (x0c : Nat) (x1 : List UInt8) (x7 : Int) (x8 : Int) (Kn : T2) (Kr : T0) (g : Env) (hg : E3 g x0b x0n x0c x1 x7 x8) (h : H) (hS : n5 x0b x0n x0c x1 x7 x8 Kn Kr h) : wpC none Try.prog 19 n4_c2 (Q1 Kn Kr) g h := by
  refine wpC_block' (id := 0) (x := n5_c1) (by kernel_rfl) (n6_ok x0b x0n x0c x1 x7 x8 Kn Kn Kr g hg h hS) ?_
  intro e g' h' hq
  cases e <;> exact hq
def Q4 (Kn : T3) (Kr : T0) : XPost
  | .normal, g, h => D3 Kn g h
  | .ret, g, h => D0 Kr g h
  | _, _, _ => False
abbrev n4 (x0b : Option Addr) (x0n : Nat) (x0c : Nat) (x1 : List UInt8) (Kn : T2) (Kr : T0) (h : H) : Prop :=
  n5 x0b x0n x0c x1 (x0n : Int) (0 : Int) Kn Kr h
theorem n4_ok (x0b : Option Addr) (x0n : Nat) (x0c : Nat) (x1 : List UInt8) (Kn : T2) (Kr : T0) (g : Env) (hg : E1 g x0b x0n x0c x1) (h : H) (hS : n4 x0b x0n x0c x1 Kn Kr h) : wpC none Try.prog 19 n2_c1 (Q1 Kn Kr) g h := by
  obtain ⟨hg0, hg1, hds⟩ := hg
  refine wpC_seq' (x := n4_c1) (y := n4_c2) (Q' := (Q4 (fun z0b z0n z0c z1 z7 z8 h => n5 z0b z0n z0c z1 z7 z8 Kn Kr h) Kr)) (by kernel_rfl) ?_ ?_
  · refine wpC_of_wpx (by kernel_rfl) (by kernel_rfl) (g' := ((⟨g.v, []⟩ : Env).upd (some 0) (.slice x0b x0n x0c)).upd (some 1) (S x1)) (by rw [env_ds hds, upd_self hg0, upd_self hg1]) ?_
    have e : (n4 x0b x0n x0c x1 Kn Kr h) = wpx none Try.prog 19 n4_c1 (Q4 (fun z0b z0n z0c z1 z7 z8 h => n5 z0b z0n z0c z1 z7 z8 Kn Kr h) Kr) (((⟨g.v, []⟩ : Env).upd (some 0) (.slice x0b x0n x0c)).upd (some 1) (S x1)) h := by kernel_rfl
    exact e ▸ hS
  · intro e g' h' hq
    cases e with
    | normal =>
      have hq : D3 (fun z0b z0n z0c z1 z7 z8 h => n5 z0b z0n z0c z1 z7 z8 Kn Kr h) g' h' := hq
      obtain ⟨y0b, y0n, y0c, y1, y7, y8, hg', hq⟩ := D3_ok hq
      exact n5_ok y0b y0n y0c y1 y7 y8 Kn Kr g' hg' h' hq
    | _ => exact hq
abbrev n2 (x0b : Option Addr) (x0n : Nat) (x0c : Nat) (x1 : List UInt8) (Kn : T0) (Kr : T0) (h : H) : Prop := n4 x0b x0n x0c x1 (fun  h => n3 Kn Kr h) Kr h
theorem n2_ok (x0b : Option Addr) (x0n : Nat) (x0c : Nat) (x1 : List UInt8) (Kn : T0) (Kr : T0) (g : Env) (hg : E1 g x0b x0n x0c x1) (h : H) (hS : n2 x0b x0n x0c x1 Kn Kr h) : wpC none Try.prog 19 n1_c2 (Q0 Kn Kr) g h := by
  refine wpC_seq' (x := n2_c1) (y := n2_c2) (by kernel_rfl) (n4_ok x0b x0n x0c x1 (fun  h => n3 Kn Kr h) Kr g hg h hS) ?_
  intro e g' h' hq
  cases e with
  | normal =>
    have hq : D2 (fun  h => n3 Kn Kr h) g' h' := hq
    obtain ⟨hg', hq⟩ := D2_ok hq
    exact n3_ok  Kn Kr g' hg' h' hq
  | _ => exact hq
def Q5 (Kn : T1) (Kr : T0) : XPost
  | .normal, g, h => D1 Kn g h
  | .ret, g, h => D0 Kr g h
  | _, _, _ => False
abbrev n1 (x0b : Option Addr) (x0n : Nat) (x0c : Nat) (x1 : List UInt8) (Kn : T0) (Kr : T0) (h : H) : Prop :=
  n2 x0b x0n x0c x1 Kn Kr h
theorem n1_ok (x0b : Option Addr) (x0n : Nat) (x0c : Nat) (x1 : List UInt8) (Kn : T0) (Kr : T0) (g : Env) (hg : E1 g x0b x0n x0c x1) (h : H) (hS : n1 x0b x0n x0c x1 Kn Kr h) : wpC none Try.prog 19 code (Q0 Kn Kr) g h := by
  obtain ⟨hg0, hg1, hds⟩ := hg
  refine wpC_seq' (x := n1_c1) (y := n1_c2) (Q' := (Q5 (fun z0b z0n z0c z1 h => n2 z0b z0n z0c z1 Kn Kr h) Kr)) (by kernel_rfl) ?_ ?_
  · refine wpC_of_wpx (by kernel_rfl) (by kernel_rfl) (g' := ((⟨g.v, []⟩ : Env).upd (some 0) (.slice x0b x0n x0c)).upd (some 1) (S x1)) (by rw [env_ds hds, upd_self hg0, upd_self hg1]) ?_
    have e : (n1 x0b x0n x0c x1 Kn Kr h) = wpx none Try.prog 19 n1_c1 (Q5 (fun z0b z0n z0c z1 h => n2 z0b z0n z0c z1 Kn Kr h) Kr) (((⟨g.v, []⟩ : Env).upd (some 0) (.slice x0b x0n x0c)).upd (some 1) (S x1)) h := by kernel_rfl
    exact e ▸ hS
  · intro e g' h' hq
    cases e with
    | normal =>
      have hq : D1 (fun z0b z0n z0c z1 h => n2 z0b z0n z0c z1 Kn Kr h) g' h' := hq
      obtain ⟨y0b, y0n, y0c, y1, hg', hq⟩ := D1_ok hq
      exact n2_ok y0b y0n y0c y1 Kn Kr g' hg' h' hq
    | _ => exact hq
/-- WHAT slices.Index[[]string,string] ASKS -/
abbrev asks (x0b : Option Addr) (x0n : Nat) (x0c : Nat) (x1 : List UInt8) (K : Value → H → Prop) (h : H) : Prop := n1 x0b x0n x0c x1 (fun y4 h => K (.int .i64 y4) h) (fun y4 h => K (.int .i64 y4) h) h
theorem ok (x0b : Option Addr) (x0n : Nat) (x0c : Nat) (x1 : List UInt8) (K : Value → H → Prop) (h : H) (hS : asks x0b x0n x0c x1 K h) : HCalls Try.prog 36 ⟨[(.slice x0b x0n x0c), (S x1)]⟩ h K := by
  refine calls_of_wpC (c := code) Try.func36 (by kernel_rfl) (Nat.le_of_ble_eq_true (by kernel_rfl)) ?_
  refine (n1_ok x0b x0n x0c x1 (fun y4 h => K (.int .i64 y4) h) (fun y4 h => K (.int .i64 y4) h) (env0 [(.slice x0b x0n x0c), (S x1)]) ⟨rfl, rfl, rfl⟩ h hS).mono ?_
  intro e g' h' hq
  cases e with
  | normal =>
    have hq : D0 (fun y4 h => K (.int .i64 y4) h) g' h' := hq
    obtain ⟨y4, ⟨hg4, hd⟩, hq⟩ := D0_ok hq
    show leaveX g'.ds h' _
    rw [hd]
    show K (g'.v 4) h'
    rw [hg4]
    exact hq
  | ret =>
    have hq : D0 (fun y4 h => K (.int .i64 y4) h) g' h' := hq
    obtain ⟨y4, ⟨hg4, hd⟩, hq⟩ := D0_ok hq
    show leaveX g'.ds h' _
    rw [hd]
    show K (g'.v 4) h'
    rw [hg4]
    exact hq
  | _ => exact hq
end Sx.slices_Index_string
end Go.Proofs
