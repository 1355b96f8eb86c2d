/- The shallow forms of functions, printed by sh.py out of the translation; each with its proof. No condition. -/
import Derived.Test.YtggejikikcffmaaShJ
import Derived.Test.YtggejikikcffmaaProg
namespace Go.Proofs
open Go Go.Sh
set_option linter.unusedVariables false
set_option maxRecDepth 100000

/-! ### tympan/tympanlaw11.OpenIn -/
namespace Sx.l11_OpenIn
noncomputable def code : Code := bodyOf Try.f3
abbrev T0 := Bool → H → Prop
def E0 (g : Env) (x6 : Bool) : Prop := g.v 6 = (.bool x6) ∧ g.ds = []
def D0 (K : T0) (g : Env) (h : H) : Prop := nilDs g.ds (vBool (g.v 6) fun b1 => K b1 h)
theorem D0_ok {K : T0} {g : Env} {h : H} (hq : D0 K g h) : ∃ (x6 : Bool), E0 g x6 ∧ K x6 h := by
  obtain ⟨hd, hq⟩ := nilDs_ok hq
  obtain ⟨y3, e2, q4⟩ := vBool_ok hq
  exact ⟨y3, ⟨e2, hd⟩, q4⟩
def Q0 (Kn : T0) (Kr : T0) : XPost
  | .normal, g, h => D0 Kn g h
  | .ret, g, h => D0 Kr g h
  | _, _, _ => False
abbrev T1 := (Option Addr) → Nat → Nat → Int → (Option Addr) → Nat → Nat → H → Prop
def E1 (g : Env) (x0b : Option Addr) (x0n : Nat) (x0c : Nat) (x1 : Int) (x2b : Option Addr) (x2n : Nat) (x2c : Nat) : Prop := g.v 0 = (.slice x0b x0n x0c) ∧ g.v 1 = (.int .u8 x1) ∧ g.v 2 = (.slice x2b x2n x2c) ∧ g.ds = []
def D1 (K : T1) (g : Env) (h : H) : Prop := nilDs g.ds (vSlice (g.v 0) fun s5b s5n s5c => vInt .u8 (g.v 1) fun i6 => vSlice (g.v 2) fun s7b s7n s7c => K s5b s5n s5c i6 s7b s7n s7c h)
theorem D1_ok {K : T1} {g : Env} {h : H} (hq : D1 K g h) : ∃ (x0b : Option Addr) (x0n : Nat) (x0c : Nat) (x1 : Int) (x2b : Option Addr) (x2n : Nat) (x2c : Nat), E1 g x0b x0n x0c x1 x2b x2n x2c ∧ K x0b x0n x0c x1 x2b x2n x2c h := by
  obtain ⟨hd, hq⟩ := nilDs_ok hq
  obtain ⟨y9b, y9n, y9c, e8, q10⟩ := vSlice_ok hq
  obtain ⟨y12, e11, q13⟩ := vInt_ok q10
  obtain ⟨y15b, y15n, y15c, e14, q16⟩ := vSlice_ok q13
  exact ⟨y9b, y9n, y9c, y12, y15b, y15n, y15c, ⟨e8, e11, e14, hd⟩, q16⟩
abbrev n1 (x0b : Option Addr) (x0n : Nat) (x0c : Nat) (x1 : Int) (x2b : Option Addr) (x2n : Nat) (x2c : Nat) (Kn : T0) (Kr : T0) (h : H) : Prop :=
  HCalls Try.prog 8 ⟨[(.slice x0b x0n x0c), (.slice x2b x2n x2c)]⟩ h fun v17 h18 => vBool v17 fun b19 => cond b19 (Kr true h18) (HCalls Try.prog 9 ⟨[]⟩ h18 fun v20 h21 => vBool v20 fun b22 => cond b22 (HCalls Try.prog 10 ⟨[(.slice x0b x0n x0c), (.int .u8 x1), (.slice x2b x2n x2c)]⟩ h21 fun v23 h24 => vBool v23 fun b25 => cond b25 (HCalls Try.prog 11 ⟨[(.slice x0b x0n x0c), (.int .u8 x1), (.slice x2b x2n x2c)]⟩ h24 fun v26 h27 => vBool v26 fun b28 => cond b28 (Kr true h27) (Kr false h27)) (HCalls Try.prog 11 ⟨[(.slice x0b x0n x0c), (.int .u8 x1), (.slice x2b x2n x2c)]⟩ h24 fun v29 h30 => vBool v29 fun b31 => cond b31 (Kr false h30) (Kr true h30))) (Kr false h21))
theorem n1_ok (x0b : Option Addr) (x0n : Nat) (x0c : Nat) (x1 : Int) (x2b : Option Addr) (x2n : Nat) (x2c : Nat) (Kn : T0) (Kr : T0) (g : Env) (hg : E1 g x0b x0n x0c x1 x2b x2n x2c) (h : H) (hS : n1 x0b x0n x0c x1 x2b x2n x2c Kn Kr h) : wpC none Try.prog 22 code (Q0 Kn Kr) g h := by
  obtain ⟨hg0, hg1, hg2, hds⟩ := hg
  refine wpC_of_wpx (by kernel_rfl) (by kernel_rfl) (g' := (((⟨g.v, []⟩ : Env).upd (some 0) (.slice x0b x0n x0c)).upd (some 1) (.int .u8 x1)).upd (some 2) (.slice x2b x2n x2c)) (by rw [env_ds hds, upd_self hg0, upd_self hg1, upd_self hg2]) ?_
  have e : (n1 x0b x0n x0c x1 x2b x2n x2c Kn Kr h) = wpx none Try.prog 22 code (Q0 Kn Kr) ((((⟨g.v, []⟩ : Env).upd (some 0) (.slice x0b x0n x0c)).upd (some 1) (.int .u8 x1)).upd (some 2) (.slice x2b x2n x2c)) h := by kernel_rfl
  exact e ▸ hS
/-- WHAT tympan/tympanlaw11.OpenIn ASKS -/
abbrev asks (x0b : Option Addr) (x0n : Nat) (x0c : Nat) (x1 : Int) (x2b : Option Addr) (x2n : Nat) (x2c : Nat) (K : Value → H → Prop) (h : H) : Prop := n1 x0b x0n x0c x1 x2b x2n x2c (fun y6 h => K (.bool y6) h) (fun y6 h => K (.bool y6) h) h
theorem ok (x0b : Option Addr) (x0n : Nat) (x0c : Nat) (x1 : Int) (x2b : Option Addr) (x2n : Nat) (x2c : Nat) (K : Value → H → Prop) (h : H) (hS : asks x0b x0n x0c x1 x2b x2n x2c K h) : HCalls Try.prog 3 ⟨[(.slice x0b x0n x0c), (.int .u8 x1), (.slice x2b x2n x2c)]⟩ h K := by
  refine calls_of_wpC (c := code) Try.func3 (by kernel_rfl) (Nat.le_of_ble_eq_true (by kernel_rfl)) ?_
  refine (n1_ok x0b x0n x0c x1 x2b x2n x2c (fun y6 h => K (.bool y6) h) (fun y6 h => K (.bool y6) h) (env0 [(.slice x0b x0n x0c), (.int .u8 x1), (.slice x2b x2n x2c)]) ⟨rfl, rfl, rfl, rfl⟩ h hS).mono ?_
  intro e g' h' hq
  cases e with
  | normal =>
    have hq : D0 (fun y6 h => K (.bool y6) h) g' h' := hq
    obtain ⟨y6, ⟨hg6, hd⟩, hq⟩ := D0_ok hq
    show leaveX g'.ds h' _
    rw [hd]
    show K (g'.v 6) h'
    rw [hg6]
    exact hq
  | ret =>
    have hq : D0 (fun y6 h => K (.bool y6) h) g' h' := hq
    obtain ⟨y6, ⟨hg6, hd⟩, hq⟩ := D0_ok hq
    show leaveX g'.ds h' _
    rw [hd]
    show K (g'.v 6) h'
    rw [hg6]
    exact hq
  | _ => exact hq
end Sx.l11_OpenIn

/-! ### tympan/tympanlaw11.OpenKinds -/
namespace Sx.l11_OpenKinds
noncomputable def code : Code := bodyOf Try.f4
abbrev T0 := Bool → H → Prop
def E0 (g : Env) (x4 : Bool) : Prop := g.v 4 = (.bool x4) ∧ g.ds = []
def D0 (K : T0) (g : Env) (h : H) : Prop := nilDs g.ds (vBool (g.v 4) fun b1 => K b1 h)
theorem D0_ok {K : T0} {g : Env} {h : H} (hq : D0 K g h) : ∃ (x4 : Bool), E0 g x4 ∧ K x4 h := by
  obtain ⟨hd, hq⟩ := nilDs_ok hq
  obtain ⟨y3, e2, q4⟩ := vBool_ok hq
  exact ⟨y3, ⟨e2, hd⟩, q4⟩
def Q0 (Kn : T0) (Kr : T0) : XPost
  | .normal, g, h => D0 Kn g h
  | .ret, g, h => D0 Kr g h
  | _, _, _ => False
abbrev T1 := Int → (List UInt8) → H → Prop
def E1 (g : Env) (x0 : Int) (x1 : List UInt8) : Prop := g.v 0 = (.int .u8 x0) ∧ g.v 1 = (S x1) ∧ g.ds = []
def D1 (K : T1) (g : Env) (h : H) : Prop := nilDs g.ds (vInt .u8 (g.v 0) fun i5 => vStr (g.v 1) fun s6 => K i5 s6 h)
theorem D1_ok {K : T1} {g : Env} {h : H} (hq : D1 K g h) : ∃ (x0 : Int) (x1 : List UInt8), E1 g x0 x1 ∧ K x0 x1 h := by
  obtain ⟨hd, hq⟩ := nilDs_ok hq
  obtain ⟨y8, e7, q9⟩ := vInt_ok hq
  obtain ⟨y11, e10, q12⟩ := vStr_ok q9
  exact ⟨y8, y11, ⟨e7, e10, hd⟩, q12⟩
abbrev n1 (x0 : Int) (x1 : List UInt8) (Kn : T0) (Kr : T0) (h : H) : Prop :=
  Spl ((x1.length : Int) > (3000 : Int)) (Kr true h) (HCalls Try.prog 9 ⟨[]⟩ h fun v13 h14 => vBool v13 fun b15 => cond b15 (HCalls Try.prog 12 ⟨[(.int .u8 x0), (S x1)]⟩ h14 fun v16 h17 => vBool v16 fun b18 => cond b18 (HCalls Try.prog 13 ⟨[(.int .u8 x0), (S x1)]⟩ h17 fun v19 h20 => vBool v19 fun b21 => cond b21 (HCalls Try.prog 14 ⟨[(S x1)]⟩ h20 fun v22 h23 => vBool v22 fun b24 => cond b24 (HCalls Try.prog 15 ⟨[(S x1)]⟩ h23 fun v25 h26 => vBool v25 fun b27 => cond b27 (Kr true h26) (Kr false h26)) (HCalls Try.prog 15 ⟨[(S x1)]⟩ h23 fun v28 h29 => vBool v28 fun b30 => cond b30 (Kr false h29) (Kr true h29))) (Kr false h20)) (HCalls Try.prog 13 ⟨[(.int .u8 x0), (S x1)]⟩ h17 fun v31 h32 => vBool v31 fun b33 => cond b33 (Kr false h32) (HCalls Try.prog 14 ⟨[(S x1)]⟩ h32 fun v34 h35 => vBool v34 fun b36 => cond b36 (HCalls Try.prog 15 ⟨[(S x1)]⟩ h35 fun v37 h38 => vBool v37 fun b39 => cond b39 (Kr true h38) (Kr false h38)) (HCalls Try.prog 15 ⟨[(S x1)]⟩ h35 fun v40 h41 => vBool v40 fun b42 => cond b42 (Kr false h41) (Kr true h41))))) (Kr false h14))
theorem n1_ok (x0 : Int) (x1 : List UInt8) (Kn : T0) (Kr : T0) (g : Env) (hg : E1 g x0 x1) (h : H) (hS : n1 x0 x1 Kn Kr h) : wpC none Try.prog 25 code (Q0 Kn Kr) g h := by
  obtain ⟨hg0, hg1, hds⟩ := hg
  refine wpC_of_wpx (by kernel_rfl) (by kernel_rfl) (g' := ((⟨g.v, []⟩ : Env).upd (some 0) (.int .u8 x0)).upd (some 1) (S x1)) (by rw [env_ds hds, upd_self hg0, upd_self hg1]) ?_
  have e : (n1 x0 x1 Kn Kr h) = wpx none Try.prog 25 code (Q0 Kn Kr) (((⟨g.v, []⟩ : Env).upd (some 0) (.int .u8 x0)).upd (some 1) (S x1)) h := by kernel_rfl
  exact e ▸ hS
/-- WHAT tympan/tympanlaw11.OpenKinds ASKS -/
abbrev asks (x0 : Int) (x1 : List UInt8) (K : Value → H → Prop) (h : H) : Prop := n1 x0 x1 (fun y4 h => K (.bool y4) h) (fun y4 h => K (.bool y4) h) h
theorem ok (x0 : Int) (x1 : List UInt8) (K : Value → H → Prop) (h : H) (hS : asks x0 x1 K h) : HCalls Try.prog 4 ⟨[(.int .u8 x0), (S x1)]⟩ h K := by
  refine calls_of_wpC (c := code) Try.func4 (by kernel_rfl) (Nat.le_of_ble_eq_true (by kernel_rfl)) ?_
  refine (n1_ok x0 x1 (fun y4 h => K (.bool y4) h) (fun y4 h => K (.bool y4) h) (env0 [(.int .u8 x0), (S x1)]) ⟨rfl, rfl, rfl⟩ h hS).mono ?_
  intro e g' h' hq
  cases e with
  | normal =>
    have hq : D0 (fun y4 h => K (.bool y4) h) g' h' := hq
    obtain ⟨y4, ⟨hg4, hd⟩, hq⟩ := D0_ok hq
    show leaveX g'.ds h' _
    rw [hd]
    show K (g'.v 4) h'
    rw [hg4]
    exact hq
  | ret =>
    have hq : D0 (fun y4 h => K (.bool y4) h) g' h' := hq
    obtain ⟨y4, ⟨hg4, hd⟩, hq⟩ := D0_ok hq
    show leaveX g'.ds h' _
    rw [hd]
    show K (g'.v 4) h'
    rw [hg4]
    exact hq
  | _ => exact hq
end Sx.l11_OpenKinds

/-! ### tympan/tympanlaw11.OpenCounts -/
namespace Sx.l11_OpenCounts
noncomputable def code : Code := bodyOf Try.f5
abbrev T0 := Bool → H → Prop
def E0 (g : Env) (x6 : Bool) : Prop := g.v 6 = (.bool x6) ∧ g.ds = []
def D0 (K : T0) (g : Env) (h : H) : Prop := nilDs g.ds (vBool (g.v 6) fun b1 => K b1 h)
theorem D0_ok {K : T0} {g : Env} {h : H} (hq : D0 K g h) : ∃ (x6 : Bool), E0 g x6 ∧ K x6 h := by
  obtain ⟨hd, hq⟩ := nilDs_ok hq
  obtain ⟨y3, e2, q4⟩ := vBool_ok hq
  exact ⟨y3, ⟨e2, hd⟩, q4⟩
def Q0 (Kn : T0) (Kr : T0) : XPost
  | .normal, g, h => D0 Kn g h
  | .ret, g, h => D0 Kr g h
  | _, _, _ => False
abbrev T1 := (Option Addr) → Nat → Nat → (List UInt8) → (Option Addr) → Nat → Nat → H → Prop
def E1 (g : Env) (x0b : Option Addr) (x0n : Nat) (x0c : Nat) (x1 : List UInt8) (x2b : Option Addr) (x2n : Nat) (x2c : Nat) : Prop := g.v 0 = (.slice x0b x0n x0c) ∧ g.v 1 = (S x1) ∧ g.v 2 = (.slice x2b x2n x2c) ∧ g.ds = []
def D1 (K : T1) (g : Env) (h : H) : Prop := nilDs g.ds (vSlice (g.v 0) fun s5b s5n s5c => vStr (g.v 1) fun s6 => vSlice (g.v 2) fun s7b s7n s7c => K s5b s5n s5c s6 s7b s7n s7c h)
theorem D1_ok {K : T1} {g : Env} {h : H} (hq : D1 K g h) : ∃ (x0b : Option Addr) (x0n : Nat) (x0c : Nat) (x1 : List UInt8) (x2b : Option Addr) (x2n : Nat) (x2c : Nat), E1 g x0b x0n x0c x1 x2b x2n x2c ∧ K x0b x0n x0c x1 x2b x2n x2c h := by
  obtain ⟨hd, hq⟩ := nilDs_ok hq
  obtain ⟨y9b, y9n, y9c, e8, q10⟩ := vSlice_ok hq
  obtain ⟨y12, e11, q13⟩ := vStr_ok q10
  obtain ⟨y15b, y15n, y15c, e14, q16⟩ := vSlice_ok q13
  exact ⟨y9b, y9n, y9c, y12, y15b, y15n, y15c, ⟨e8, e11, e14, hd⟩, q16⟩
noncomputable def n1_c1 : Code := cFst code
noncomputable def n1_c2 : Code := cSnd code
noncomputable def n2_c1 : Code := cFst n1_c2
noncomputable def n2_c2 : Code := cSnd n1_c2
noncomputable def n3_c1 : Code := cFst n2_c2
noncomputable def n3_c2 : Code := cSnd n2_c2
abbrev T2 := (Option Addr) → Nat → Nat → (Option Addr) → Nat → Nat → Bool → H → Prop
def E2 (g : Env) (x0b : Option Addr) (x0n : Nat) (x0c : Nat) (x2b : Option Addr) (x2n : Nat) (x2c : Nat) (x7 : Bool) : Prop := g.v 0 = (.slice x0b x0n x0c) ∧ g.v 2 = (.slice x2b x2n x2c) ∧ g.v 7 = (.bool x7) ∧ g.ds = []
def D2 (K : T2) (g : Env) (h : H) : Prop := nilDs g.ds (vSlice (g.v 0) fun s17b s17n s17c => vSlice (g.v 2) fun s18b s18n s18c => vBool (g.v 7) fun b19 => K s17b s17n s17c s18b s18n s18c b19 h)
theorem D2_ok {K : T2} {g : Env} {h : H} (hq : D2 K g h) : ∃ (x0b : Option Addr) (x0n : Nat) (x0c : Nat) (x2b : Option Addr) (x2n : Nat) (x2c : Nat) (x7 : Bool), E2 g x0b x0n x0c x2b x2n x2c x7 ∧ K x0b x0n x0c x2b x2n x2c x7 h := by
  obtain ⟨hd, hq⟩ := nilDs_ok hq
  obtain ⟨y21b, y21n, y21c, e20, q22⟩ := vSlice_ok hq
  obtain ⟨y24b, y24n, y24c, e23, q25⟩ := vSlice_ok q22
  obtain ⟨y27, e26, q28⟩ := vBool_ok q25
  exact ⟨y21b, y21n, y21c, y24b, y24n, y24c, y27, ⟨e20, e23, e26, hd⟩, q28⟩
abbrev n4 (x0b : Option Addr) (x0n : Nat) (x0c : Nat) (x2b : Option Addr) (x2n : Nat) (x2c : Nat) (x7 : Bool) (Kn : T0) (Kr : T0) (h : H) : Prop :=
  HCalls Try.prog 9 ⟨[]⟩ h fun v29 h30 => vBool v29 fun b31 => cond b31 (cond x7 (HCalls Try.prog 20 ⟨[(.slice x0b x0n x0c), (.slice x2b x2n x2c)]⟩ h30 fun v32 h33 => vInt .i64 v32 fun i34 => HCalls Try.prog 21 ⟨[(.slice x0b x0n x0c), (.slice x2b x2n x2c)]⟩ h33 fun v35 h36 => vInt .i64 v35 fun i37 => Spl (i34 = i37) (HCalls Try.prog 22 ⟨[(.slice x0b x0n x0c), (.slice x2b x2n x2c)]⟩ h36 fun v38 h39 => vInt .i64 v38 fun i40 => HCalls Try.prog 23 ⟨[(.slice x0b x0n x0c), (.slice x2b x2n x2c)]⟩ h39 fun v41 h42 => vInt .i64 v41 fun i43 => Spl (i40 = i43) (Kr true h42) (Kr false h42)) (Kr false h36)) (Kr false h30)) (Kr false h30)
theorem n4_ok (x0b : Option Addr) (x0n : Nat) (x0c : Nat) (x2b : Option Addr) (x2n : Nat) (x2c : Nat) (x7 : Bool) (Kn : T0) (Kr : T0) (g : Env) (hg : E2 g x0b x0n x0c x2b x2n x2c x7) (h : H) (hS : n4 x0b x0n x0c x2b x2n x2c x7 Kn Kr h) : wpC none Try.prog 54 n3_c2 (Q0 Kn Kr) g h := by
  obtain ⟨hg0, hg2, hg7, hds⟩ := hg
  refine wpC_of_wpx (by kernel_rfl) (by kernel_rfl) (g' := (((⟨g.v, []⟩ : Env).upd (some 0) (.slice x0b x0n x0c)).upd (some 2) (.slice x2b x2n x2c)).upd (some 7) (.bool x7)) (by rw [env_ds hds, upd_self hg0, upd_self hg2, upd_self hg7]) ?_
  have e : (n4 x0b x0n x0c x2b x2n x2c x7 Kn Kr h) = wpx none Try.prog 54 n3_c2 (Q0 Kn Kr) ((((⟨g.v, []⟩ : Env).upd (some 0) (.slice x0b x0n x0c)).upd (some 2) (.slice x2b x2n x2c)).upd (some 7) (.bool x7)) h := by kernel_rfl
  exact e ▸ hS
def Q1 (Kn : T2) (Kr : T0) : XPost
  | .normal, g, h => D2 Kn g h
  | .ret, g, h => D0 Kr g h
  | _, _, _ => False
abbrev n3 (x0b : Option Addr) (x0n : Nat) (x0c : Nat) (x1 : List UInt8) (x2b : Option Addr) (x2n : Nat) (x2c : Nat) (Kn : T0) (Kr : T0) (h : H) : Prop :=
  HCalls Try.prog 16 ⟨[(.slice x0b x0n x0c), (S x1)]⟩ h fun v44 h45 => vInt .i64 v44 fun i46 => HCalls Try.prog 17 ⟨[(.slice x0b x0n x0c), (S x1)]⟩ h45 fun v47 h48 => vInt .i64 v47 fun i49 => Spl (i46 = i49) (HCalls Try.prog 18 ⟨[(.slice x0b x0n x0c), (.slice x2b x2n x2c)]⟩ h48 fun v50 h51 => vInt .i64 v50 fun i52 => HCalls Try.prog 19 ⟨[(.slice x0b x0n x0c), (.slice x2b x2n x2c)]⟩ h51 fun v53 h54 => vInt .i64 v53 fun i55 => Spl (i52 = i55) (n4 x0b x0n x0c x2b x2n x2c true Kn Kr h54) (n4 x0b x0n x0c x2b x2n x2c false Kn Kr h54)) (n4 x0b x0n x0c x2b x2n x2c false Kn Kr h48)
theorem n3_ok (x0b : Option Addr) (x0n : Nat) (x0c : Nat) (x1 : List UInt8) (x2b : Option Addr) (x2n : Nat) (x2c : Nat) (Kn : T0) (Kr : T0) (g : Env) (hg : E1 g x0b x0n x0c x1 x2b x2n x2c) (h : H) (hS : n3 x0b x0n x0c x1 x2b x2n x2c Kn Kr h) : wpC none Try.prog 54 n2_c2 (Q0 Kn Kr) g h := by
  obtain ⟨hg0, hg1, hg2, hds⟩ := hg
  refine wpC_seq' (x := n3_c1) (y := n3_c2) (Q' := (Q1 (fun z0b z0n z0c z2b z2n z2c z7 h => n4 z0b z0n z0c z2b z2n z2c z7 Kn Kr h) Kr)) (by kernel_rfl) ?_ ?_
  · refine wpC_of_wpx (by kernel_rfl) (by kernel_rfl) (g' := (((⟨g.v, []⟩ : Env).upd (some 0) (.slice x0b x0n x0c)).upd (some 1) (S x1)).upd (some 2) (.slice x2b x2n x2c)) (by rw [env_ds hds, upd_self hg0, upd_self hg1, upd_self hg2]) ?_
    have e : (n3 x0b x0n x0c x1 x2b x2n x2c Kn Kr h) = wpx none Try.prog 54 n3_c1 (Q1 (fun z0b z0n z0c z2b z2n z2c z7 h => n4 z0b z0n z0c z2b z2n z2c z7 Kn Kr h) Kr) ((((⟨g.v, []⟩ : Env).upd (some 0) (.slice x0b x0n x0c)).upd (some 1) (S x1)).upd (some 2) (.slice x2b x2n x2c)) h := by kernel_rfl
    exact e ▸ hS
  · intro e g' h' hq
    cases e with
    | normal =>
      have hq : D2 (fun z0b z0n z0c z2b z2n z2c z7 h => n4 z0b z0n z0c z2b z2n z2c z7 Kn Kr h) g' h' := hq
      obtain ⟨y0b, y0n, y0c, y2b, y2n, y2c, y7, hg', hq⟩ := D2_ok hq
      exact n4_ok y0b y0n y0c y2b y2n y2c y7 Kn Kr g' hg' h' hq
    | _ => exact hq
def Q2 (Kn : T1) (Kr : T0) : XPost
  | .normal, g, h => D1 Kn g h
  | .ret, g, h => D0 Kr g h
  | _, _, _ => False
abbrev n2 (x0b : Option Addr) (x0n : Nat) (x0c : Nat) (x1 : List UInt8) (x2b : Option Addr) (x2n : Nat) (x2c : Nat) (Kn : T0) (Kr : T0) (h : H) : Prop :=
  HCalls Try.prog 8 ⟨[(.slice x0b x0n x0c), (.slice x2b x2n x2c)]⟩ h fun v56 h57 => vBool v56 fun b58 => cond b58 (Kr true h57) (Spl ((x1.length : Int) > (3000 : Int)) (Kr true h57) (n3 x0b x0n x0c x1 x2b x2n x2c Kn Kr h57))
theorem n2_ok (x0b : Option Addr) (x0n : Nat) (x0c : Nat) (x1 : List UInt8) (x2b : Option Addr) (x2n : Nat) (x2c : Nat) (Kn : T0) (Kr : T0) (g : Env) (hg : E1 g x0b x0n x0c x1 x2b x2n x2c) (h : H) (hS : n2 x0b x0n x0c x1 x2b x2n x2c Kn Kr h) : wpC none Try.prog 54 n1_c2 (Q0 Kn Kr) g h := by
  obtain ⟨hg0, hg1, hg2, hds⟩ := hg
  refine wpC_seq' (x := n2_c1) (y := n2_c2) (Q' := (Q2 (fun z0b z0n z0c z1 z2b z2n z2c h => n3 z0b z0n z0c z1 z2b z2n z2c Kn Kr h) Kr)) (by kernel_rfl) ?_ ?_
  · refine wpC_of_wpx (by kernel_rfl) (by kernel_rfl) (g' := (((⟨g.v, []⟩ : Env).upd (some 0) (.slice x0b x0n x0c)).upd (some 1) (S x1)).upd (some 2) (.slice x2b x2n x2c)) (by rw [env_ds hds, upd_self hg0, upd_self hg1, upd_self hg2]) ?_
    have e : (n2 x0b x0n x0c x1 x2b x2n x2c Kn Kr h) = wpx none Try.prog 54 n2_c1 (Q2 (fun z0b z0n z0c z1 z2b z2n z2c h => n3 z0b z0n z0c z1 z2b z2n z2c Kn Kr h) Kr) ((((⟨g.v, []⟩ : Env).upd (some 0) (.slice x0b x0n x0c)).upd (some 1) (S x1)).upd (some 2) (.slice x2b x2n x2c)) h := by kernel_rfl
    exact e ▸ hS
  · intro e g' h' hq
    cases e with
    | normal =>
      have hq : D1 (fun z0b z0n z0c z1 z2b z2n z2c h => n3 z0b z0n z0c z1 z2b z2n z2c Kn Kr h) g' h' := hq
      obtain ⟨y0b, y0n, y0c, y1, y2b, y2n, y2c, hg', hq⟩ := D1_ok hq
      exact n3_ok y0b y0n y0c y1 y2b y2n y2c Kn Kr g' hg' h' hq
    | _ => exact hq
abbrev n1 (x0b : Option Addr) (x0n : Nat) (x0c : Nat) (x1 : List UInt8) (x2b : Option Addr) (x2n : Nat) (x2c : Nat) (Kn : T0) (Kr : T0) (h : H) : Prop :=
  n2 x0b x0n x0c x1 x2b x2n x2c Kn Kr h
theorem n1_ok (x0b : Option Addr) (x0n : Nat) (x0c : Nat) (x1 : List UInt8) (x2b : Option Addr) (x2n : Nat) (x2c : Nat) (Kn : T0) (Kr : T0) (g : Env) (hg : E1 g x0b x0n x0c x1 x2b x2n x2c) (h : H) (hS : n1 x0b x0n x0c x1 x2b x2n x2c Kn Kr h) : wpC none Try.prog 54 code (Q0 Kn Kr) g h := by
  obtain ⟨hg0, hg1, hg2, hds⟩ := hg
  refine wpC_seq' (x := n1_c1) (y := n1_c2) (Q' := (Q2 (fun z0b z0n z0c z1 z2b z2n z2c h => n2 z0b z0n z0c z1 z2b z2n z2c Kn Kr h) Kr)) (by kernel_rfl) ?_ ?_
  · refine wpC_of_wpx (by kernel_rfl) (by kernel_rfl) (g' := (((⟨g.v, []⟩ : Env).upd (some 0) (.slice x0b x0n x0c)).upd (some 1) (S x1)).upd (some 2) (.slice x2b x2n x2c)) (by rw [env_ds hds, upd_self hg0, upd_self hg1, upd_self hg2]) ?_
    have e : (n1 x0b x0n x0c x1 x2b x2n x2c Kn Kr h) = wpx none Try.prog 54 n1_c1 (Q2 (fun z0b z0n z0c z1 z2b z2n z2c h => n2 z0b z0n z0c z1 z2b z2n z2c Kn Kr h) Kr) ((((⟨g.v, []⟩ : Env).upd (some 0) (.slice x0b x0n x0c)).upd (some 1) (S x1)).upd (some 2) (.slice x2b x2n x2c)) h := by kernel_rfl
    exact e ▸ hS
  · intro e g' h' hq
    cases e with
    | normal =>
      have hq : D1 (fun z0b z0n z0c z1 z2b z2n z2c h => n2 z0b z0n z0c z1 z2b z2n z2c Kn Kr h) g' h' := hq
      obtain ⟨y0b, y0n, y0c, y1, y2b, y2n, y2c, hg', hq⟩ := D1_ok hq
      exact n2_ok y0b y0n y0c y1 y2b y2n y2c Kn Kr g' hg' h' hq
    | _ => exact hq
/-- WHAT tympan/tympanlaw11.OpenCounts ASKS -/
abbrev asks (x0b : Option Addr) (x0n : Nat) (x0c : Nat) (x1 : List UInt8) (x2b : Option Addr) (x2n : Nat) (x2c : Nat) (K : Value → H → Prop) (h : H) : Prop := n1 x0b x0n x0c x1 x2b x2n x2c (fun y6 h => K (.bool y6) h) (fun y6 h => K (.bool y6) h) h
theorem ok (x0b : Option Addr) (x0n : Nat) (x0c : Nat) (x1 : List UInt8) (x2b : Option Addr) (x2n : Nat) (x2c : Nat) (K : Value → H → Prop) (h : H) (hS : asks x0b x0n x0c x1 x2b x2n x2c K h) : HCalls Try.prog 5 ⟨[(.slice x0b x0n x0c), (S x1), (.slice x2b x2n x2c)]⟩ h K := by
  refine calls_of_wpC (c := code) Try.func5 (by kernel_rfl) (Nat.le_of_ble_eq_true (by kernel_rfl)) ?_
  refine (n1_ok x0b x0n x0c x1 x2b x2n x2c (fun y6 h => K (.bool y6) h) (fun y6 h => K (.bool y6) h) (env0 [(.slice x0b x0n x0c), (S x1), (.slice x2b x2n x2c)]) ⟨rfl, rfl, rfl, rfl⟩ h hS).mono ?_
  intro e g' h' hq
  cases e with
  | normal =>
    have hq : D0 (fun y6 h => K (.bool y6) h) g' h' := hq
    obtain ⟨y6, ⟨hg6, hd⟩, hq⟩ := D0_ok hq
    show leaveX g'.ds h' _
    rw [hd]
    show K (g'.v 6) h'
    rw [hg6]
    exact hq
  | ret =>
    have hq : D0 (fun y6 h => K (.bool y6) h) g' h' := hq
    obtain ⟨y6, ⟨hg6, hd⟩, hq⟩ := D0_ok hq
    show leaveX g'.ds h' _
    rw [hd]
    show K (g'.v 6) h'
    rw [hg6]
    exact hq
  | _ => exact hq
end Sx.l11_OpenCounts

/-! ### tympan/tympanlaw11.OpenScopes -/
namespace Sx.l11_OpenScopes
noncomputable def code : Code := bodyOf Try.f6
abbrev T0 := Bool → H → Prop
def E0 (g : Env) (x6 : Bool) : Prop := g.v 6 = (.bool x6) ∧ g.ds = []
def D0 (K : T0) (g : Env) (h : H) : Prop := nilDs g.ds (vBool (g.v 6) fun b1 => K b1 h)
theorem D0_ok {K : T0} {g : Env} {h : H} (hq : D0 K g h) : ∃ (x6 : Bool), E0 g x6 ∧ K x6 h := by
  obtain ⟨hd, hq⟩ := nilDs_ok hq
  obtain ⟨y3, e2, q4⟩ := vBool_ok hq
  exact ⟨y3, ⟨e2, hd⟩, q4⟩
def Q0 (Kn : T0) (Kr : T0) : XPost
  | .normal, g, h => D0 Kn g h
  | .ret, g, h => D0 Kr g h
  | _, _, _ => False
abbrev T1 := (Option Addr) → Nat → Nat → (Option Addr) → Nat → Nat → (List UInt8) → H → Prop
def E1 (g : Env) (x0b : Option Addr) (x0n : Nat) (x0c : Nat) (x1b : Option Addr) (x1n : Nat) (x1c : Nat) (x2 : List UInt8) : Prop := g.v 0 = (.slice x0b x0n x0c) ∧ g.v 1 = (.slice x1b x1n x1c) ∧ g.v 2 = (S x2) ∧ g.ds = []
def D1 (K : T1) (g : Env) (h : H) : Prop := nilDs g.ds (vSlice (g.v 0) fun s5b s5n s5c => vSlice (g.v 1) fun s6b s6n s6c => vStr (g.v 2) fun s7 => K s5b s5n s5c s6b s6n s6c s7 h)
theorem D1_ok {K : T1} {g : Env} {h : H} (hq : D1 K g h) : ∃ (x0b : Option Addr) (x0n : Nat) (x0c : Nat) (x1b : Option Addr) (x1n : Nat) (x1c : Nat) (x2 : List UInt8), E1 g x0b x0n x0c x1b x1n x1c x2 ∧ K x0b x0n x0c x1b x1n x1c x2 h := by
  obtain ⟨hd, hq⟩ := nilDs_ok hq
  obtain ⟨y9b, y9n, y9c, e8, q10⟩ := vSlice_ok hq
  obtain ⟨y12b, y12n, y12c, e11, q13⟩ := vSlice_ok q10
  obtain ⟨y15, e14, q16⟩ := vStr_ok q13
  exact ⟨y9b, y9n, y9c, y12b, y12n, y12c, y15, ⟨e8, e11, e14, hd⟩, q16⟩
noncomputable def n1_c1 : Code := cFst code
noncomputable def n1_c2 : Code := cSnd code
noncomputable def n2_c1 : Code := cFst n1_c2
noncomputable def n2_c2 : Code := cSnd n1_c2
noncomputable def n3_c1 : Code := cFst n2_c2
noncomputable def n3_c2 : Code := cSnd n2_c2
abbrev T2 := (Option Addr) → Nat → Nat → (Option Addr) → Nat → Nat → (List UInt8) → Bool → H → Prop
def E2 (g : Env) (x0b : Option Addr) (x0n : Nat) (x0c : Nat) (x1b : Option Addr) (x1n : Nat) (x1c : Nat) (x2 : List UInt8) (x7 : Bool) : Prop := g.v 0 = (.slice x0b x0n x0c) ∧ g.v 1 = (.slice x1b x1n x1c) ∧ g.v 2 = (S x2) ∧ g.v 7 = (.bool x7) ∧ g.ds = []
def D2 (K : T2) (g : Env) (h : H) : Prop := nilDs g.ds (vSlice (g.v 0) fun s17b s17n s17c => vSlice (g.v 1) fun s18b s18n s18c => vStr (g.v 2) fun s19 => vBool (g.v 7) fun b20 => K s17b s17n s17c s18b s18n s18c s19 b20 h)
theorem D2_ok {K : T2} {g : Env} {h : H} (hq : D2 K g h) : ∃ (x0b : Option Addr) (x0n : Nat) (x0c : Nat) (x1b : Option Addr) (x1n : Nat) (x1c : Nat) (x2 : List UInt8) (x7 : Bool), E2 g x0b x0n x0c x1b x1n x1c x2 x7 ∧ K x0b x0n x0c x1b x1n x1c x2 x7 h := by
  obtain ⟨hd, hq⟩ := nilDs_ok hq
  obtain ⟨y22b, y22n, y22c, e21, q23⟩ := vSlice_ok hq
  obtain ⟨y25b, y25n, y25c, e24, q26⟩ := vSlice_ok q23
  obtain ⟨y28, e27, q29⟩ := vStr_ok q26
  obtain ⟨y31, e30, q32⟩ := vBool_ok q29
  exact ⟨y22b, y22n, y22c, y25b, y25n, y25c, y28, y31, ⟨e21, e24, e27, e30, hd⟩, q32⟩
noncomputable def n4_c1 : Code := cFst n3_c2
noncomputable def n4_c2 : Code := cSnd n3_c2
abbrev T3 := (Option Addr) → Nat → Nat → (Option Addr) → Nat → Nat → (List UInt8) → Bool → Bool → H → Prop
def E3 (g : Env) (x0b : Option Addr) (x0n : Nat) (x0c : Nat) (x1b : Option Addr) (x1n : Nat) (x1c : Nat) (x2 : List UInt8) (x7 : Bool) (x8 : Bool) : Prop := g.v 0 = (.slice x0b x0n x0c) ∧ g.v 1 = (.slice x1b x1n x1c) ∧ g.v 2 = (S x2) ∧ g.v 7 = (.bool x7) ∧ g.v 8 = (.bool x8) ∧ g.ds = []
def D3 (K : T3) (g : Env) (h : H) : Prop := nilDs g.ds (vSlice (g.v 0) fun s33b s33n s33c => vSlice (g.v 1) fun s34b s34n s34c => vStr (g.v 2) fun s35 => vBool (g.v 7) fun b36 => vBool (g.v 8) fun b37 => K s33b s33n s33c s34b s34n s34c s35 b36 b37 h)
theorem D3_ok {K : T3} {g : Env} {h : H} (hq : D3 K g h) : ∃ (x0b : Option Addr) (x0n : Nat) (x0c : Nat) (x1b : Option Addr) (x1n : Nat) (x1c : Nat) (x2 : List UInt8) (x7 : Bool) (x8 : Bool), E3 g x0b x0n x0c x1b x1n x1c x2 x7 x8 ∧ K x0b x0n x0c x1b x1n x1c x2 x7 x8 h := by
  obtain ⟨hd, hq⟩ := nilDs_ok hq
  obtain ⟨y39b, y39n, y39c, e38, q40⟩ := vSlice_ok hq
  obtain ⟨y42b, y42n, y42c, e41, q43⟩ := vSlice_ok q40
  obtain ⟨y45, e44, q46⟩ := vStr_ok q43
  obtain ⟨y48, e47, q49⟩ := vBool_ok q46
  obtain ⟨y51, e50, q52⟩ := vBool_ok q49
  exact ⟨y39b, y39n, y39c, y42b, y42n, y42c, y45, y48, y51, ⟨e38, e41, e44, e47, e50, hd⟩, q52⟩
noncomputable def n5_c1 : Code := cFst n4_c2
noncomputable def n5_c2 : Code := cSnd n4_c2
abbrev T4 := (Option Addr) → Nat → Nat → (Option Addr) → Nat → Nat → (List UInt8) → Bool → Bool → Bool → H → Prop
def E4 (g : Env) (x0b : Option Addr) (x0n : Nat) (x0c : Nat) (x1b : Option Addr) (x1n : Nat) (x1c : Nat) (x2 : List UInt8) (x7 : Bool) (x8 : Bool) (x9 : Bool) : Prop := g.v 0 = (.slice x0b x0n x0c) ∧ g.v 1 = (.slice x1b x1n x1c) ∧ g.v 2 = (S x2) ∧ g.v 7 = (.bool x7) ∧ g.v 8 = (.bool x8) ∧ g.v 9 = (.bool x9) ∧ g.ds = []
def D4 (K : T4) (g : Env) (h : H) : Prop := nilDs g.ds (vSlice (g.v 0) fun s53b s53n s53c => vSlice (g.v 1) fun s54b s54n s54c => vStr (g.v 2) fun s55 => vBool (g.v 7) fun b56 => vBool (g.v 8) fun b57 => vBool (g.v 9) fun b58 => K s53b s53n s53c s54b s54n s54c s55 b56 b57 b58 h)
theorem D4_ok {K : T4} {g : Env} {h : H} (hq : D4 K g h) : ∃ (x0b : Option Addr) (x0n : Nat) (x0c : Nat) (x1b : Option Addr) (x1n : Nat) (x1c : Nat) (x2 : List UInt8) (x7 : Bool) (x8 : Bool) (x9 : Bool), E4 g x0b x0n x0c x1b x1n x1c x2 x7 x8 x9 ∧ K x0b x0n x0c x1b x1n x1c x2 x7 x8 x9 h := by
  obtain ⟨hd, hq⟩ := nilDs_ok hq
  obtain ⟨y60b, y60n, y60c, e59, q61⟩ := vSlice_ok hq
  obtain ⟨y63b, y63n, y63c, e62, q64⟩ := vSlice_ok q61
  obtain ⟨y66, e65, q67⟩ := vStr_ok q64
  obtain ⟨y69, e68, q70⟩ := vBool_ok q67
  obtain ⟨y72, e71, q73⟩ := vBool_ok q70
  obtain ⟨y75, e74, q76⟩ := vBool_ok q73
  exact ⟨y60b, y60n, y60c, y63b, y63n, y63c, y66, y69, y72, y75, ⟨e59, e62, e65, e68, e71, e74, hd⟩, q76⟩
noncomputable def n6_c1 : Code := cFst n5_c2
noncomputable def n6_c2 : Code := cSnd n5_c2
abbrev T5 := (Option Addr) → Nat → Nat → (Option Addr) → Nat → Nat → (List UInt8) → Bool → Bool → Bool → (Option Addr) → Nat → Nat → H → Prop
def E5 (g : Env) (x0b : Option Addr) (x0n : Nat) (x0c : Nat) (x1b : Option Addr) (x1n : Nat) (x1c : Nat) (x2 : List UInt8) (x7 : Bool) (x8 : Bool) (x9 : Bool) (x10b : Option Addr) (x10n : Nat) (x10c : Nat) : Prop := g.v 0 = (.slice x0b x0n x0c) ∧ g.v 1 = (.slice x1b x1n x1c) ∧ g.v 2 = (S x2) ∧ g.v 7 = (.bool x7) ∧ g.v 8 = (.bool x8) ∧ g.v 9 = (.bool x9) ∧ g.v 10 = (.slice x10b x10n x10c) ∧ g.ds = []
def D5 (K : T5) (g : Env) (h : H) : Prop := nilDs g.ds (vSlice (g.v 0) fun s77b s77n s77c => vSlice (g.v 1) fun s78b s78n s78c => vStr (g.v 2) fun s79 => vBool (g.v 7) fun b80 => vBool (g.v 8) fun b81 => vBool (g.v 9) fun b82 => vSlice (g.v 10) fun s83b s83n s83c => K s77b s77n s77c s78b s78n s78c s79 b80 b81 b82 s83b s83n s83c h)
theorem D5_ok {K : T5} {g : Env} {h : H} (hq : D5 K g h) : ∃ (x0b : Option Addr) (x0n : Nat) (x0c : Nat) (x1b : Option Addr) (x1n : Nat) (x1c : Nat) (x2 : List UInt8) (x7 : Bool) (x8 : Bool) (x9 : Bool) (x10b : Option Addr) (x10n : Nat) (x10c : Nat), E5 g x0b x0n x0c x1b x1n x1c x2 x7 x8 x9 x10b x10n x10c ∧ K x0b x0n x0c x1b x1n x1c x2 x7 x8 x9 x10b x10n x10c h := by
  obtain ⟨hd, hq⟩ := nilDs_ok hq
  obtain ⟨y85b, y85n, y85c, e84, q86⟩ := vSlice_ok hq
  obtain ⟨y88b, y88n, y88c, e87, q89⟩ := vSlice_ok q86
  obtain ⟨y91, e90, q92⟩ := vStr_ok q89
  obtain ⟨y94, e93, q95⟩ := vBool_ok q92
  obtain ⟨y97, e96, q98⟩ := vBool_ok q95
  obtain ⟨y100, e99, q101⟩ := vBool_ok q98
  obtain ⟨y103b, y103n, y103c, e102, q104⟩ := vSlice_ok q101
  exact ⟨y85b, y85n, y85c, y88b, y88n, y88c, y91, y94, y97, y100, y103b, y103n, y103c, ⟨e84, e87, e90, e93, e96, e99, e102, hd⟩, q104⟩
noncomputable def n7_c1 : Code := cFst n6_c2
noncomputable def n7_c2 : Code := cSnd n6_c2
noncomputable def n8_c1 : Code := cFst n7_c2
noncomputable def n8_c2 : Code := cSnd n7_c2
noncomputable def n9_c1 : Code := cFst n8_c2
noncomputable def n9_c2 : Code := cSnd n8_c2
abbrev T6 := (Option Addr) → Nat → Nat → (Option Addr) → Nat → Nat → (List UInt8) → Bool → Bool → Bool → Bool → H → Prop
def E6 (g : Env) (x0b : Option Addr) (x0n : Nat) (x0c : Nat) (x1b : Option Addr) (x1n : Nat) (x1c : Nat) (x2 : List UInt8) (x7 : Bool) (x8 : Bool) (x9 : Bool) (x11 : Bool) : Prop := g.v 0 = (.slice x0b x0n x0c) ∧ g.v 1 = (.slice x1b x1n x1c) ∧ g.v 2 = (S x2) ∧ g.v 7 = (.bool x7) ∧ g.v 8 = (.bool x8) ∧ g.v 9 = (.bool x9) ∧ g.v 11 = (.bool x11) ∧ g.ds = []
def D6 (K : T6) (g : Env) (h : H) : Prop := nilDs g.ds (vSlice (g.v 0) fun s105b s105n s105c => vSlice (g.v 1) fun s106b s106n s106c => vStr (g.v 2) fun s107 => vBool (g.v 7) fun b108 => vBool (g.v 8) fun b109 => vBool (g.v 9) fun b110 => vBool (g.v 11) fun b111 => K s105b s105n s105c s106b s106n s106c s107 b108 b109 b110 b111 h)
theorem D6_ok {K : T6} {g : Env} {h : H} (hq : D6 K g h) : ∃ (x0b : Option Addr) (x0n : Nat) (x0c : Nat) (x1b : Option Addr) (x1n : Nat) (x1c : Nat) (x2 : List UInt8) (x7 : Bool) (x8 : Bool) (x9 : Bool) (x11 : Bool), E6 g x0b x0n x0c x1b x1n x1c x2 x7 x8 x9 x11 ∧ K x0b x0n x0c x1b x1n x1c x2 x7 x8 x9 x11 h := by
  obtain ⟨hd, hq⟩ := nilDs_ok hq
  obtain ⟨y113b, y113n, y113c, e112, q114⟩ := vSlice_ok hq
  obtain ⟨y116b, y116n, y116c, e115, q117⟩ := vSlice_ok q114
  obtain ⟨y119, e118, q120⟩ := vStr_ok q117
  obtain ⟨y122, e121, q123⟩ := vBool_ok q120
  obtain ⟨y125, e124, q126⟩ := vBool_ok q123
  obtain ⟨y128, e127, q129⟩ := vBool_ok q126
  obtain ⟨y131, e130, q132⟩ := vBool_ok q129
  exact ⟨y113b, y113n, y113c, y116b, y116n, y116c, y119, y122, y125, y128, y131, ⟨e112, e115, e118, e121, e124, e127, e130, hd⟩, q132⟩
abbrev n10 (x0b : Option Addr) (x0n : Nat) (x0c : Nat) (x1b : Option Addr) (x1n : Nat) (x1c : Nat) (x2 : List UInt8) (x7 : Bool) (x8 : Bool) (x9 : Bool) (x11 : Bool) (Kn : T0) (Kr : T0) (h : H) : Prop :=
  HCalls Try.prog 18 ⟨[(.slice x0b x0n x0c), (.slice x1b x1n x1c)]⟩ h fun v133 h134 => vInt .i64 v133 fun i135 => cond x8 (cond x7 (cond x9 (cond x7 (cond x7 (cond x11 (cond x7 (Spl (i135 < (0 : Int)) (Kr false h134) (HCalls Try.prog 16 ⟨[(.slice x0b x0n x0c), (S x2)]⟩ h134 fun v136 h137 => vInt .i64 v136 fun i138 => HCalls Try.prog 20 ⟨[(.slice x0b x0n x0c), (.slice x1b x1n x1c)]⟩ h137 fun v139 h140 => vInt .i64 v139 fun i141 => HCalls Try.prog 22 ⟨[(.slice x0b x0n x0c), (.slice x1b x1n x1c)]⟩ h140 fun v142 h143 => vInt .i64 v142 fun i144 => Spl (i138 ≥ (0 : Int)) (Spl (i138 ≤ (x0n : Int)) (Spl (i141 ≥ (0 : Int)) (Spl (i141 ≤ (x0n : Int)) (Spl (i135 < (x0n : Int)) (Spl (i144 < (x0n : Int)) (Spl (i144 ≤ (if (-1 : Int) > i135 then (-1 : Int) else i135)) (Kr true h143) (Kr false h143)) (Kr false h143)) (Kr false h143)) (Kr false h143)) (Kr false h143)) (Kr false h143)) (Kr false h143))) (HCalls Try.prog 16 ⟨[(.slice x0b x0n x0c), (S x2)]⟩ h134 fun v145 h146 => vInt .i64 v145 fun i147 => HCalls Try.prog 20 ⟨[(.slice x0b x0n x0c), (.slice x1b x1n x1c)]⟩ h146 fun v148 h149 => vInt .i64 v148 fun i150 => HCalls Try.prog 22 ⟨[(.slice x0b x0n x0c), (.slice x1b x1n x1c)]⟩ h149 fun v151 h152 => vInt .i64 v151 fun i153 => Spl (i147 ≥ (0 : Int)) (Spl (i147 ≤ (x0n : Int)) (Spl (i150 ≥ (0 : Int)) (Spl (i150 ≤ (x0n : Int)) (Spl (i135 < (x0n : Int)) (Spl (i153 < (x0n : Int)) (Spl (i153 ≤ (if (-1 : Int) > i135 then (-1 : Int) else i135)) (Kr true h152) (Kr false h152)) (Kr false h152)) (Kr false h152)) (Kr false h152)) (Kr false h152)) (Kr false h152)) (Kr false h152))) (Kr false h134)) (cond x7 (Spl (i135 < (0 : Int)) (Kr false h134) (HCalls Try.prog 16 ⟨[(.slice x0b x0n x0c), (S x2)]⟩ h134 fun v154 h155 => vInt .i64 v154 fun i156 => HCalls Try.prog 20 ⟨[(.slice x0b x0n x0c), (.slice x1b x1n x1c)]⟩ h155 fun v157 h158 => vInt .i64 v157 fun i159 => HCalls Try.prog 22 ⟨[(.slice x0b x0n x0c), (.slice x1b x1n x1c)]⟩ h158 fun v160 h161 => vInt .i64 v160 fun i162 => Spl (i156 ≥ (0 : Int)) (Spl (i156 ≤ (x0n : Int)) (Spl (i159 ≥ (0 : Int)) (Spl (i159 ≤ (x0n : Int)) (Spl (i135 < (x0n : Int)) (Spl (i162 < (x0n : Int)) (Spl (i162 ≤ (if (-1 : Int) > i135 then (-1 : Int) else i135)) (Kr true h161) (Kr false h161)) (Kr false h161)) (Kr false h161)) (Kr false h161)) (Kr false h161)) (Kr false h161)) (Kr false h161))) (HCalls Try.prog 16 ⟨[(.slice x0b x0n x0c), (S x2)]⟩ h134 fun v163 h164 => vInt .i64 v163 fun i165 => HCalls Try.prog 20 ⟨[(.slice x0b x0n x0c), (.slice x1b x1n x1c)]⟩ h164 fun v166 h167 => vInt .i64 v166 fun i168 => HCalls Try.prog 22 ⟨[(.slice x0b x0n x0c), (.slice x1b x1n x1c)]⟩ h167 fun v169 h170 => vInt .i64 v169 fun i171 => Spl (i165 ≥ (0 : Int)) (Spl (i165 ≤ (x0n : Int)) (Spl (i168 ≥ (0 : Int)) (Spl (i168 ≤ (x0n : Int)) (Spl (i135 < (x0n : Int)) (Spl (i171 < (x0n : Int)) (Spl (i171 ≤ (if (-1 : Int) > i135 then (-1 : Int) else i135)) (Kr true h170) (Kr false h170)) (Kr false h170)) (Kr false h170)) (Kr false h170)) (Kr false h170)) (Kr false h170)) (Kr false h170)))) (Kr false h134)) (cond x7 (cond x11 (cond x7 (Spl (i135 < (0 : Int)) (Kr false h134) (HCalls Try.prog 16 ⟨[(.slice x0b x0n x0c), (S x2)]⟩ h134 fun v172 h173 => vInt .i64 v172 fun i174 => HCalls Try.prog 20 ⟨[(.slice x0b x0n x0c), (.slice x1b x1n x1c)]⟩ h173 fun v175 h176 => vInt .i64 v175 fun i177 => HCalls Try.prog 22 ⟨[(.slice x0b x0n x0c), (.slice x1b x1n x1c)]⟩ h176 fun v178 h179 => vInt .i64 v178 fun i180 => Spl (i174 ≥ (0 : Int)) (Spl (i174 ≤ (x0n : Int)) (Spl (i177 ≥ (0 : Int)) (Spl (i177 ≤ (x0n : Int)) (Spl (i135 < (x0n : Int)) (Spl (i180 < (x0n : Int)) (Spl (i180 ≤ (if (-1 : Int) > i135 then (-1 : Int) else i135)) (Kr true h179) (Kr false h179)) (Kr false h179)) (Kr false h179)) (Kr false h179)) (Kr false h179)) (Kr false h179)) (Kr false h179))) (HCalls Try.prog 16 ⟨[(.slice x0b x0n x0c), (S x2)]⟩ h134 fun v181 h182 => vInt .i64 v181 fun i183 => HCalls Try.prog 20 ⟨[(.slice x0b x0n x0c), (.slice x1b x1n x1c)]⟩ h182 fun v184 h185 => vInt .i64 v184 fun i186 => HCalls Try.prog 22 ⟨[(.slice x0b x0n x0c), (.slice x1b x1n x1c)]⟩ h185 fun v187 h188 => vInt .i64 v187 fun i189 => Spl (i183 ≥ (0 : Int)) (Spl (i183 ≤ (x0n : Int)) (Spl (i186 ≥ (0 : Int)) (Spl (i186 ≤ (x0n : Int)) (Spl (i135 < (x0n : Int)) (Spl (i189 < (x0n : Int)) (Spl (i189 ≤ (if (-1 : Int) > i135 then (-1 : Int) else i135)) (Kr true h188) (Kr false h188)) (Kr false h188)) (Kr false h188)) (Kr false h188)) (Kr false h188)) (Kr false h188)) (Kr false h188))) (Kr false h134)) (cond x7 (Spl (i135 < (0 : Int)) (Kr false h134) (HCalls Try.prog 16 ⟨[(.slice x0b x0n x0c), (S x2)]⟩ h134 fun v190 h191 => vInt .i64 v190 fun i192 => HCalls Try.prog 20 ⟨[(.slice x0b x0n x0c), (.slice x1b x1n x1c)]⟩ h191 fun v193 h194 => vInt .i64 v193 fun i195 => HCalls Try.prog 22 ⟨[(.slice x0b x0n x0c), (.slice x1b x1n x1c)]⟩ h194 fun v196 h197 => vInt .i64 v196 fun i198 => Spl (i192 ≥ (0 : Int)) (Spl (i192 ≤ (x0n : Int)) (Spl (i195 ≥ (0 : Int)) (Spl (i195 ≤ (x0n : Int)) (Spl (i135 < (x0n : Int)) (Spl (i198 < (x0n : Int)) (Spl (i198 ≤ (if (-1 : Int) > i135 then (-1 : Int) else i135)) (Kr true h197) (Kr false h197)) (Kr false h197)) (Kr false h197)) (Kr false h197)) (Kr false h197)) (Kr false h197)) (Kr false h197))) (HCalls Try.prog 16 ⟨[(.slice x0b x0n x0c), (S x2)]⟩ h134 fun v199 h200 => vInt .i64 v199 fun i201 => HCalls Try.prog 20 ⟨[(.slice x0b x0n x0c), (.slice x1b x1n x1c)]⟩ h200 fun v202 h203 => vInt .i64 v202 fun i204 => HCalls Try.prog 22 ⟨[(.slice x0b x0n x0c), (.slice x1b x1n x1c)]⟩ h203 fun v205 h206 => vInt .i64 v205 fun i207 => Spl (i201 ≥ (0 : Int)) (Spl (i201 ≤ (x0n : Int)) (Spl (i204 ≥ (0 : Int)) (Spl (i204 ≤ (x0n : Int)) (Spl (i135 < (x0n : Int)) (Spl (i207 < (x0n : Int)) (Spl (i207 ≤ (if (-1 : Int) > i135 then (-1 : Int) else i135)) (Kr true h206) (Kr false h206)) (Kr false h206)) (Kr false h206)) (Kr false h206)) (Kr false h206)) (Kr false h206)) (Kr false h206))))) (Kr false h134)) (cond x9 (cond x7 (cond x7 (cond x11 (cond x7 (Spl (i135 < (0 : Int)) (Kr false h134) (HCalls Try.prog 16 ⟨[(.slice x0b x0n x0c), (S x2)]⟩ h134 fun v208 h209 => vInt .i64 v208 fun i210 => HCalls Try.prog 20 ⟨[(.slice x0b x0n x0c), (.slice x1b x1n x1c)]⟩ h209 fun v211 h212 => vInt .i64 v211 fun i213 => HCalls Try.prog 22 ⟨[(.slice x0b x0n x0c), (.slice x1b x1n x1c)]⟩ h212 fun v214 h215 => vInt .i64 v214 fun i216 => Spl (i210 ≥ (0 : Int)) (Spl (i210 ≤ (x0n : Int)) (Spl (i213 ≥ (0 : Int)) (Spl (i213 ≤ (x0n : Int)) (Spl (i135 < (x0n : Int)) (Spl (i216 < (x0n : Int)) (Spl (i216 ≤ (if (-1 : Int) > i135 then (-1 : Int) else i135)) (Kr true h215) (Kr false h215)) (Kr false h215)) (Kr false h215)) (Kr false h215)) (Kr false h215)) (Kr false h215)) (Kr false h215))) (HCalls Try.prog 16 ⟨[(.slice x0b x0n x0c), (S x2)]⟩ h134 fun v217 h218 => vInt .i64 v217 fun i219 => HCalls Try.prog 20 ⟨[(.slice x0b x0n x0c), (.slice x1b x1n x1c)]⟩ h218 fun v220 h221 => vInt .i64 v220 fun i222 => HCalls Try.prog 22 ⟨[(.slice x0b x0n x0c), (.slice x1b x1n x1c)]⟩ h221 fun v223 h224 => vInt .i64 v223 fun i225 => Spl (i219 ≥ (0 : Int)) (Spl (i219 ≤ (x0n : Int)) (Spl (i222 ≥ (0 : Int)) (Spl (i222 ≤ (x0n : Int)) (Spl (i135 < (x0n : Int)) (Spl (i225 < (x0n : Int)) (Spl (i225 ≤ (if (-1 : Int) > i135 then (-1 : Int) else i135)) (Kr true h224) (Kr false h224)) (Kr false h224)) (Kr false h224)) (Kr false h224)) (Kr false h224)) (Kr false h224)) (Kr false h224))) (Kr false h134)) (cond x7 (Spl (i135 < (0 : Int)) (Kr false h134) (HCalls Try.prog 16 ⟨[(.slice x0b x0n x0c), (S x2)]⟩ h134 fun v226 h227 => vInt .i64 v226 fun i228 => HCalls Try.prog 20 ⟨[(.slice x0b x0n x0c), (.slice x1b x1n x1c)]⟩ h227 fun v229 h230 => vInt .i64 v229 fun i231 => HCalls Try.prog 22 ⟨[(.slice x0b x0n x0c), (.slice x1b x1n x1c)]⟩ h230 fun v232 h233 => vInt .i64 v232 fun i234 => Spl (i228 ≥ (0 : Int)) (Spl (i228 ≤ (x0n : Int)) (Spl (i231 ≥ (0 : Int)) (Spl (i231 ≤ (x0n : Int)) (Spl (i135 < (x0n : Int)) (Spl (i234 < (x0n : Int)) (Spl (i234 ≤ (if (-1 : Int) > i135 then (-1 : Int) else i135)) (Kr true h233) (Kr false h233)) (Kr false h233)) (Kr false h233)) (Kr false h233)) (Kr false h233)) (Kr false h233)) (Kr false h233))) (HCalls Try.prog 16 ⟨[(.slice x0b x0n x0c), (S x2)]⟩ h134 fun v235 h236 => vInt .i64 v235 fun i237 => HCalls Try.prog 20 ⟨[(.slice x0b x0n x0c), (.slice x1b x1n x1c)]⟩ h236 fun v238 h239 => vInt .i64 v238 fun i240 => HCalls Try.prog 22 ⟨[(.slice x0b x0n x0c), (.slice x1b x1n x1c)]⟩ h239 fun v241 h242 => vInt .i64 v241 fun i243 => Spl (i237 ≥ (0 : Int)) (Spl (i237 ≤ (x0n : Int)) (Spl (i240 ≥ (0 : Int)) (Spl (i240 ≤ (x0n : Int)) (Spl (i135 < (x0n : Int)) (Spl (i243 < (x0n : Int)) (Spl (i243 ≤ (if (-1 : Int) > i135 then (-1 : Int) else i135)) (Kr true h242) (Kr false h242)) (Kr false h242)) (Kr false h242)) (Kr false h242)) (Kr false h242)) (Kr false h242)) (Kr false h242)))) (Kr false h134)) (cond x7 (cond x11 (cond x7 (Spl (i135 < (0 : Int)) (Kr false h134) (HCalls Try.prog 16 ⟨[(.slice x0b x0n x0c), (S x2)]⟩ h134 fun v244 h245 => vInt .i64 v244 fun i246 => HCalls Try.prog 20 ⟨[(.slice x0b x0n x0c), (.slice x1b x1n x1c)]⟩ h245 fun v247 h248 => vInt .i64 v247 fun i249 => HCalls Try.prog 22 ⟨[(.slice x0b x0n x0c), (.slice x1b x1n x1c)]⟩ h248 fun v250 h251 => vInt .i64 v250 fun i252 => Spl (i246 ≥ (0 : Int)) (Spl (i246 ≤ (x0n : Int)) (Spl (i249 ≥ (0 : Int)) (Spl (i249 ≤ (x0n : Int)) (Spl (i135 < (x0n : Int)) (Spl (i252 < (x0n : Int)) (Spl (i252 ≤ (if (-1 : Int) > i135 then (-1 : Int) else i135)) (Kr true h251) (Kr false h251)) (Kr false h251)) (Kr false h251)) (Kr false h251)) (Kr false h251)) (Kr false h251)) (Kr false h251))) (HCalls Try.prog 16 ⟨[(.slice x0b x0n x0c), (S x2)]⟩ h134 fun v253 h254 => vInt .i64 v253 fun i255 => HCalls Try.prog 20 ⟨[(.slice x0b x0n x0c), (.slice x1b x1n x1c)]⟩ h254 fun v256 h257 => vInt .i64 v256 fun i258 => HCalls Try.prog 22 ⟨[(.slice x0b x0n x0c), (.slice x1b x1n x1c)]⟩ h257 fun v259 h260 => vInt .i64 v259 fun i261 => Spl (i255 ≥ (0 : Int)) (Spl (i255 ≤ (x0n : Int)) (Spl (i258 ≥ (0 : Int)) (Spl (i258 ≤ (x0n : Int)) (Spl (i135 < (x0n : Int)) (Spl (i261 < (x0n : Int)) (Spl (i261 ≤ (if (-1 : Int) > i135 then (-1 : Int) else i135)) (Kr true h260) (Kr false h260)) (Kr false h260)) (Kr false h260)) (Kr false h260)) (Kr false h260)) (Kr false h260)) (Kr false h260))) (Kr false h134)) (cond x7 (Spl (i135 < (0 : Int)) (Kr false h134) (HCalls Try.prog 16 ⟨[(.slice x0b x0n x0c), (S x2)]⟩ h134 fun v262 h263 => vInt .i64 v262 fun i264 => HCalls Try.prog 20 ⟨[(.slice x0b x0n x0c), (.slice x1b x1n x1c)]⟩ h263 fun v265 h266 => vInt .i64 v265 fun i267 => HCalls Try.prog 22 ⟨[(.slice x0b x0n x0c), (.slice x1b x1n x1c)]⟩ h266 fun v268 h269 => vInt .i64 v268 fun i270 => Spl (i264 ≥ (0 : Int)) (Spl (i264 ≤ (x0n : Int)) (Spl (i267 ≥ (0 : Int)) (Spl (i267 ≤ (x0n : Int)) (Spl (i135 < (x0n : Int)) (Spl (i270 < (x0n : Int)) (Spl (i270 ≤ (if (-1 : Int) > i135 then (-1 : Int) else i135)) (Kr true h269) (Kr false h269)) (Kr false h269)) (Kr false h269)) (Kr false h269)) (Kr false h269)) (Kr false h269)) (Kr false h269))) (HCalls Try.prog 16 ⟨[(.slice x0b x0n x0c), (S x2)]⟩ h134 fun v271 h272 => vInt .i64 v271 fun i273 => HCalls Try.prog 20 ⟨[(.slice x0b x0n x0c), (.slice x1b x1n x1c)]⟩ h272 fun v274 h275 => vInt .i64 v274 fun i276 => HCalls Try.prog 22 ⟨[(.slice x0b x0n x0c), (.slice x1b x1n x1c)]⟩ h275 fun v277 h278 => vInt .i64 v277 fun i279 => Spl (i273 ≥ (0 : Int)) (Spl (i273 ≤ (x0n : Int)) (Spl (i276 ≥ (0 : Int)) (Spl (i276 ≤ (x0n : Int)) (Spl (i135 < (x0n : Int)) (Spl (i279 < (x0n : Int)) (Spl (i279 ≤ (if (-1 : Int) > i135 then (-1 : Int) else i135)) (Kr true h278) (Kr false h278)) (Kr false h278)) (Kr false h278)) (Kr false h278)) (Kr false h278)) (Kr false h278)) (Kr false h278)))))
theorem n10_ok (x0b : Option Addr) (x0n : Nat) (x0c : Nat) (x1b : Option Addr) (x1n : Nat) (x1c : Nat) (x2 : List UInt8) (x7 : Bool) (x8 : Bool) (x9 : Bool) (x11 : Bool) (Kn : T0) (Kr : T0) (g : Env) (hg : E6 g x0b x0n x0c x1b x1n x1c x2 x7 x8 x9 x11) (h : H) (hS : n10 x0b x0n x0c x1b x1n x1c x2 x7 x8 x9 x11 Kn Kr h) : wpC none Try.prog 122 n9_c2 (Q0 Kn Kr) g h := by
  obtain ⟨hg0, hg1, hg2, hg7, hg8, hg9, hg11, hds⟩ := hg
  refine wpC_of_wpx (by kernel_rfl) (by kernel_rfl) (g' := (((((((⟨g.v, []⟩ : Env).upd (some 0) (.slice x0b x0n x0c)).upd (some 1) (.slice x1b x1n x1c)).upd (some 2) (S x2)).upd (some 7) (.bool x7)).upd (some 8) (.bool x8)).upd (some 9) (.bool x9)).upd (some 11) (.bool x11)) (by rw [env_ds hds, upd_self hg0, upd_self hg1, upd_self hg2, upd_self hg7, upd_self hg8, upd_self hg9, upd_self hg11]) ?_
  have e : (n10 x0b x0n x0c x1b x1n x1c x2 x7 x8 x9 x11 Kn Kr h) = wpx none Try.prog 122 n9_c2 (Q0 Kn Kr) ((((((((⟨g.v, []⟩ : Env).upd (some 0) (.slice x0b x0n x0c)).upd (some 1) (.slice x1b x1n x1c)).upd (some 2) (S x2)).upd (some 7) (.bool x7)).upd (some 8) (.bool x8)).upd (some 9) (.bool x9)).upd (some 11) (.bool x11)) h := by kernel_rfl
  exact e ▸ hS
def Q1 (Kn : T6) (Kr : T0) : XPost
  | .normal, g, h => D6 Kn g h
  | .ret, g, h => D0 Kr g h
  | _, _, _ => False
abbrev n9 (x0b : Option Addr) (x0n : Nat) (x0c : Nat) (x1b : Option Addr) (x1n : Nat) (x1c : Nat) (x2 : List UInt8) (x7 : Bool) (x8 : Bool) (x9 : Bool) (x10b : Option Addr) (x10n : Nat) (x10c : Nat) (Kn : T0) (Kr : T0) (h : H) : Prop :=
  HCalls Try.prog 10 ⟨[(.slice x0b x0n x0c), (.int .u8 (0 : Int)), (.slice x10b x10n x10c)]⟩ h fun v280 h281 => vBool v280 fun b282 => cond b282 (n10 x0b x0n x0c x1b x1n x1c x2 x7 x8 x9 true Kn Kr h281) (n10 x0b x0n x0c x1b x1n x1c x2 x7 x8 x9 false Kn Kr h281)
theorem n9_ok (x0b : Option Addr) (x0n : Nat) (x0c : Nat) (x1b : Option Addr) (x1n : Nat) (x1c : Nat) (x2 : List UInt8) (x7 : Bool) (x8 : Bool) (x9 : Bool) (x10b : Option Addr) (x10n : Nat) (x10c : Nat) (Kn : T0) (Kr : T0) (g : Env) (hg : E5 g x0b x0n x0c x1b x1n x1c x2 x7 x8 x9 x10b x10n x10c) (h : H) (hS : n9 x0b x0n x0c x1b x1n x1c x2 x7 x8 x9 x10b x10n x10c Kn Kr h) : wpC none Try.prog 122 n8_c2 (Q0 Kn Kr) g h := by
  obtain ⟨hg0, hg1, hg2, hg7, hg8, hg9, hg10, hds⟩ := hg
  refine wpC_seq' (x := n9_c1) (y := n9_c2) (Q' := (Q1 (fun z0b z0n z0c z1b z1n z1c z2 z7 z8 z9 z11 h => n10 z0b z0n z0c z1b z1n z1c z2 z7 z8 z9 z11 Kn Kr h) Kr)) (by kernel_rfl) ?_ ?_
  · refine wpC_of_wpx (by kernel_rfl) (by kernel_rfl) (g' := (((((((⟨g.v, []⟩ : Env).upd (some 0) (.slice x0b x0n x0c)).upd (some 1) (.slice x1b x1n x1c)).upd (some 2) (S x2)).upd (some 7) (.bool x7)).upd (some 8) (.bool x8)).upd (some 9) (.bool x9)).upd (some 10) (.slice x10b x10n x10c)) (by rw [env_ds hds, upd_self hg0, upd_self hg1, upd_self hg2, upd_self hg7, upd_self hg8, upd_self hg9, upd_self hg10]) ?_
    have e : (n9 x0b x0n x0c x1b x1n x1c x2 x7 x8 x9 x10b x10n x10c Kn Kr h) = wpx none Try.prog 122 n9_c1 (Q1 (fun z0b z0n z0c z1b z1n z1c z2 z7 z8 z9 z11 h => n10 z0b z0n z0c z1b z1n z1c z2 z7 z8 z9 z11 Kn Kr h) Kr) ((((((((⟨g.v, []⟩ : Env).upd (some 0) (.slice x0b x0n x0c)).upd (some 1) (.slice x1b x1n x1c)).upd (some 2) (S x2)).upd (some 7) (.bool x7)).upd (some 8) (.bool x8)).upd (some 9) (.bool x9)).upd (some 10) (.slice x10b x10n x10c)) h := by kernel_rfl
    exact e ▸ hS
  · intro e g' h' hq
    cases e with
    | normal =>
      have hq : D6 (fun z0b z0n z0c z1b z1n z1c z2 z7 z8 z9 z11 h => n10 z0b z0n z0c z1b z1n z1c z2 z7 z8 z9 z11 Kn Kr h) g' h' := hq
      obtain ⟨y0b, y0n, y0c, y1b, y1n, y1c, y2, y7, y8, y9, y11, hg', hq⟩ := D6_ok hq
      exact n10_ok y0b y0n y0c y1b y1n y1c y2 y7 y8 y9 y11 Kn Kr g' hg' h' hq
    | _ => exact hq
def Q2 (Kn : T5) (Kr : T0) : XPost
  | .normal, g, h => D5 Kn g h
  | .ret, g, h => D0 Kr g h
  | _, _, _ => False
abbrev n8 (x0b : Option Addr) (x0n : Nat) (x0c : Nat) (x1b : Option Addr) (x1n : Nat) (x1c : Nat) (x2 : List UInt8) (x7 : Bool) (x8 : Bool) (x9 : Bool) (x10b : Option Addr) (x10n : Nat) (x10c : Nat) (Kn : T0) (Kr : T0) (h : H) : Prop :=
  newx h #[(S x2)] 9 fun a283 h284 => SemH Try.prog (Builtin.append_ #[23, 23] 23 ⟨[(.slice x10b x10n x10c), (.slice (some a283) 1 1)]⟩) h284 fun v285 h286 => vSlice v285 fun s287b s287n s287c => n9 x0b x0n x0c x1b x1n x1c x2 x7 x8 x9 s287b s287n s287c Kn Kr h286
theorem n8_ok (x0b : Option Addr) (x0n : Nat) (x0c : Nat) (x1b : Option Addr) (x1n : Nat) (x1c : Nat) (x2 : List UInt8) (x7 : Bool) (x8 : Bool) (x9 : Bool) (x10b : Option Addr) (x10n : Nat) (x10c : Nat) (Kn : T0) (Kr : T0) (g : Env) (hg : E5 g x0b x0n x0c x1b x1n x1c x2 x7 x8 x9 x10b x10n x10c) (h : H) (hS : n8 x0b x0n x0c x1b x1n x1c x2 x7 x8 x9 x10b x10n x10c Kn Kr h) : wpC none Try.prog 122 n7_c2 (Q0 Kn Kr) g h := by
  obtain ⟨hg0, hg1, hg2, hg7, hg8, hg9, hg10, hds⟩ := hg
  refine wpC_seq' (x := n8_c1) (y := n8_c2) (Q' := (Q2 (fun z0b z0n z0c z1b z1n z1c z2 z7 z8 z9 z10b z10n z10c h => n9 z0b z0n z0c z1b z1n z1c z2 z7 z8 z9 z10b z10n z10c Kn Kr h) Kr)) (by kernel_rfl) ?_ ?_
  · refine wpC_of_wpx (by kernel_rfl) (by kernel_rfl) (g' := (((((((⟨g.v, []⟩ : Env).upd (some 0) (.slice x0b x0n x0c)).upd (some 1) (.slice x1b x1n x1c)).upd (some 2) (S x2)).upd (some 7) (.bool x7)).upd (some 8) (.bool x8)).upd (some 9) (.bool x9)).upd (some 10) (.slice x10b x10n x10c)) (by rw [env_ds hds, upd_self hg0, upd_self hg1, upd_self hg2, upd_self hg7, upd_self hg8, upd_self hg9, upd_self hg10]) ?_
    have e : (n8 x0b x0n x0c x1b x1n x1c x2 x7 x8 x9 x10b x10n x10c Kn Kr h) = wpx none Try.prog 122 n8_c1 (Q2 (fun z0b z0n z0c z1b z1n z1c z2 z7 z8 z9 z10b z10n z10c h => n9 z0b z0n z0c z1b z1n z1c z2 z7 z8 z9 z10b z10n z10c Kn Kr h) Kr) ((((((((⟨g.v, []⟩ : Env).upd (some 0) (.slice x0b x0n x0c)).upd (some 1) (.slice x1b x1n x1c)).upd (some 2) (S x2)).upd (some 7) (.bool x7)).upd (some 8) (.bool x8)).upd (some 9) (.bool x9)).upd (some 10) (.slice x10b x10n x10c)) h := by kernel_rfl
    exact e ▸ hS
  · intro e g' h' hq
    cases e with
    | normal =>
      have hq : D5 (fun z0b z0n z0c z1b z1n z1c z2 z7 z8 z9 z10b z10n z10c h => n9 z0b z0n z0c z1b z1n z1c z2 z7 z8 z9 z10b z10n z10c Kn Kr h) g' h' := hq
      obtain ⟨y0b, y0n, y0c, y1b, y1n, y1c, y2, y7, y8, y9, y10b, y10n, y10c, hg', hq⟩ := D5_ok hq
      exact n9_ok y0b y0n y0c y1b y1n y1c y2 y7 y8 y9 y10b y10n y10c Kn Kr g' hg' h' hq
    | _ => exact hq
abbrev n7 (x0b : Option Addr) (x0n : Nat) (x0c : Nat) (x1b : Option Addr) (x1n : Nat) (x1c : Nat) (x2 : List UInt8) (x7 : Bool) (x8 : Bool) (x9 : Bool) (x10b : Option Addr) (x10n : Nat) (x10c : Nat) (Kn : T0) (Kr : T0) (h : H) : Prop :=
  SemH Try.prog (Builtin.append_ #[23, 23] 23 ⟨[(.slice x10b x10n x10c), (.slice x1b x1n x1c)]⟩) h fun v288 h289 => vSlice v288 fun s290b s290n s290c => n8 x0b x0n x0c x1b x1n x1c x2 x7 x8 x9 s290b s290n s290c Kn Kr h289
theorem n7_ok (x0b : Option Addr) (x0n : Nat) (x0c : Nat) (x1b : Option Addr) (x1n : Nat) (x1c : Nat) (x2 : List UInt8) (x7 : Bool) (x8 : Bool) (x9 : Bool) (x10b : Option Addr) (x10n : Nat) (x10c : Nat) (Kn : T0) (Kr : T0) (g : Env) (hg : E5 g x0b x0n x0c x1b x1n x1c x2 x7 x8 x9 x10b x10n x10c) (h : H) (hS : n7 x0b x0n x0c x1b x1n x1c x2 x7 x8 x9 x10b x10n x10c Kn Kr h) : wpC none Try.prog 122 n6_c2 (Q0 Kn Kr) g h := by
  obtain ⟨hg0, hg1, hg2, hg7, hg8, hg9, hg10, hds⟩ := hg
  refine wpC_seq' (x := n7_c1) (y := n7_c2) (Q' := (Q2 (fun z0b z0n z0c z1b z1n z1c z2 z7 z8 z9 z10b z10n z10c h => n8 z0b z0n z0c z1b z1n z1c z2 z7 z8 z9 z10b z10n z10c Kn Kr h) Kr)) (by kernel_rfl) ?_ ?_
  · refine wpC_of_wpx (by kernel_rfl) (by kernel_rfl) (g' := (((((((⟨g.v, []⟩ : Env).upd (some 0) (.slice x0b x0n x0c)).upd (some 1) (.slice x1b x1n x1c)).upd (some 2) (S x2)).upd (some 7) (.bool x7)).upd (some 8) (.bool x8)).upd (some 9) (.bool x9)).upd (some 10) (.slice x10b x10n x10c)) (by rw [env_ds hds, upd_self hg0, upd_self hg1, upd_self hg2, upd_self hg7, upd_self hg8, upd_self hg9, upd_self hg10]) ?_
    have e : (n7 x0b x0n x0c x1b x1n x1c x2 x7 x8 x9 x10b x10n x10c Kn Kr h) = wpx none Try.prog 122 n7_c1 (Q2 (fun z0b z0n z0c z1b z1n z1c z2 z7 z8 z9 z10b z10n z10c h => n8 z0b z0n z0c z1b z1n z1c z2 z7 z8 z9 z10b z10n z10c Kn Kr h) Kr) ((((((((⟨g.v, []⟩ : Env).upd (some 0) (.slice x0b x0n x0c)).upd (some 1) (.slice x1b x1n x1c)).upd (some 2) (S x2)).upd (some 7) (.bool x7)).upd (some 8) (.bool x8)).upd (some 9) (.bool x9)).upd (some 10) (.slice x10b x10n x10c)) h := by kernel_rfl
    exact e ▸ hS
  · intro e g' h' hq
    cases e with
    | normal =>
      have hq : D5 (fun z0b z0n z0c z1b z1n z1c z2 z7 z8 z9 z10b z10n z10c h => n8 z0b z0n z0c z1b z1n z1c z2 z7 z8 z9 z10b z10n z10c Kn Kr h) g' h' := hq
      obtain ⟨y0b, y0n, y0c, y1b, y1n, y1c, y2, y7, y8, y9, y10b, y10n, y10c, hg', hq⟩ := D5_ok hq
      exact n8_ok y0b y0n y0c y1b y1n y1c y2 y7 y8 y9 y10b y10n y10c Kn Kr g' hg' h' hq
    | _ => exact hq
abbrev n6 (x0b : Option Addr) (x0n : Nat) (x0c : Nat) (x1b : Option Addr) (x1n : Nat) (x1c : Nat) (x2 : List UInt8) (x7 : Bool) (x8 : Bool) (x9 : Bool) (Kn : T0) (Kr : T0) (h : H) : Prop :=
  n7 x0b x0n x0c x1b x1n x1c x2 x7 x8 x9 none 0 0 Kn Kr h
theorem n6_ok (x0b : Option Addr) (x0n : Nat) (x0c : Nat) (x1b : Option Addr) (x1n : Nat) (x1c : Nat) (x2 : List UInt8) (x7 : Bool) (x8 : Bool) (x9 : Bool) (Kn : T0) (Kr : T0) (g : Env) (hg : E4 g x0b x0n x0c x1b x1n x1c x2 x7 x8 x9) (h : H) (hS : n6 x0b x0n x0c x1b x1n x1c x2 x7 x8 x9 Kn Kr h) : wpC none Try.prog 122 n5_c2 (Q0 Kn Kr) g h := by
  obtain ⟨hg0, hg1, hg2, hg7, hg8, hg9, hds⟩ := hg
  refine wpC_seq' (x := n6_c1) (y := n6_c2) (Q' := (Q2 (fun z0b z0n z0c z1b z1n z1c z2 z7 z8 z9 z10b z10n z10c h => n7 z0b z0n z0c z1b z1n z1c z2 z7 z8 z9 z10b z10n z10c Kn Kr h) Kr)) (by kernel_rfl) ?_ ?_
  · refine wpC_of_wpx (by kernel_rfl) (by kernel_rfl) (g' := ((((((⟨g.v, []⟩ : Env).upd (some 0) (.slice x0b x0n x0c)).upd (some 1) (.slice x1b x1n x1c)).upd (some 2) (S x2)).upd (some 7) (.bool x7)).upd (some 8) (.bool x8)).upd (some 9) (.bool x9)) (by rw [env_ds hds, upd_self hg0, upd_self hg1, upd_self hg2, upd_self hg7, upd_self hg8, upd_self hg9]) ?_
    have e : (n6 x0b x0n x0c x1b x1n x1c x2 x7 x8 x9 Kn Kr h) = wpx none Try.prog 122 n6_c1 (Q2 (fun z0b z0n z0c z1b z1n z1c z2 z7 z8 z9 z10b z10n z10c h => n7 z0b z0n z0c z1b z1n z1c z2 z7 z8 z9 z10b z10n z10c Kn Kr h) Kr) (((((((⟨g.v, []⟩ : Env).upd (some 0) (.slice x0b x0n x0c)).upd (some 1) (.slice x1b x1n x1c)).upd (some 2) (S x2)).upd (some 7) (.bool x7)).upd (some 8) (.bool x8)).upd (some 9) (.bool x9)) h := by kernel_rfl
    exact e ▸ hS
  · intro e g' h' hq
    cases e with
    | normal =>
      have hq : D5 (fun z0b z0n z0c z1b z1n z1c z2 z7 z8 z9 z10b z10n z10c h => n7 z0b z0n z0c z1b z1n z1c z2 z7 z8 z9 z10b z10n z10c Kn Kr h) g' h' := hq
      obtain ⟨y0b, y0n, y0c, y1b, y1n, y1c, y2, y7, y8, y9, y10b, y10n, y10c, hg', hq⟩ := D5_ok hq
      exact n7_ok y0b y0n y0c y1b y1n y1c y2 y7 y8 y9 y10b y10n y10c Kn Kr g' hg' h' hq
    | _ => exact hq
def Q3 (Kn : T4) (Kr : T0) : XPost
  | .normal, g, h => D4 Kn g h
  | .ret, g, h => D0 Kr g h
  | _, _, _ => False
abbrev n5 (x0b : Option Addr) (x0n : Nat) (x0c : Nat) (x1b : Option Addr) (x1n : Nat) (x1c : Nat) (x2 : List UInt8) (x7 : Bool) (x8 : Bool) (Kn : T0) (Kr : T0) (h : H) : Prop :=
  HCalls Try.prog 10 ⟨[(.slice x0b x0n x0c), (.int .u8 (1 : Int)), (.slice x1b x1n x1c)]⟩ h fun v291 h292 => vBool v291 fun b293 => cond b293 (n6 x0b x0n x0c x1b x1n x1c x2 x7 x8 true Kn Kr h292) (n6 x0b x0n x0c x1b x1n x1c x2 x7 x8 false Kn Kr h292)
theorem n5_ok (x0b : Option Addr) (x0n : Nat) (x0c : Nat) (x1b : Option Addr) (x1n : Nat) (x1c : Nat) (x2 : List UInt8) (x7 : Bool) (x8 : Bool) (Kn : T0) (Kr : T0) (g : Env) (hg : E3 g x0b x0n x0c x1b x1n x1c x2 x7 x8) (h : H) (hS : n5 x0b x0n x0c x1b x1n x1c x2 x7 x8 Kn Kr h) : wpC none Try.prog 122 n4_c2 (Q0 Kn Kr) g h := by
  obtain ⟨hg0, hg1, hg2, hg7, hg8, hds⟩ := hg
  refine wpC_seq' (x := n5_c1) (y := n5_c2) (Q' := (Q3 (fun z0b z0n z0c z1b z1n z1c z2 z7 z8 z9 h => n6 z0b z0n z0c z1b z1n z1c z2 z7 z8 z9 Kn Kr h) Kr)) (by kernel_rfl) ?_ ?_
  · refine wpC_of_wpx (by kernel_rfl) (by kernel_rfl) (g' := (((((⟨g.v, []⟩ : Env).upd (some 0) (.slice x0b x0n x0c)).upd (some 1) (.slice x1b x1n x1c)).upd (some 2) (S x2)).upd (some 7) (.bool x7)).upd (some 8) (.bool x8)) (by rw [env_ds hds, upd_self hg0, upd_self hg1, upd_self hg2, upd_self hg7, upd_self hg8]) ?_
    have e : (n5 x0b x0n x0c x1b x1n x1c x2 x7 x8 Kn Kr h) = wpx none Try.prog 122 n5_c1 (Q3 (fun z0b z0n z0c z1b z1n z1c z2 z7 z8 z9 h => n6 z0b z0n z0c z1b z1n z1c z2 z7 z8 z9 Kn Kr h) Kr) ((((((⟨g.v, []⟩ : Env).upd (some 0) (.slice x0b x0n x0c)).upd (some 1) (.slice x1b x1n x1c)).upd (some 2) (S x2)).upd (some 7) (.bool x7)).upd (some 8) (.bool x8)) h := by kernel_rfl
    exact e ▸ hS
  · intro e g' h' hq
    cases e with
    | normal =>
      have hq : D4 (fun z0b z0n z0c z1b z1n z1c z2 z7 z8 z9 h => n6 z0b z0n z0c z1b z1n z1c z2 z7 z8 z9 Kn Kr h) g' h' := hq
      obtain ⟨y0b, y0n, y0c, y1b, y1n, y1c, y2, y7, y8, y9, hg', hq⟩ := D4_ok hq
      exact n6_ok y0b y0n y0c y1b y1n y1c y2 y7 y8 y9 Kn Kr g' hg' h' hq
    | _ => exact hq
def Q4 (Kn : T3) (Kr : T0) : XPost
  | .normal, g, h => D3 Kn g h
  | .ret, g, h => D0 Kr g h
  | _, _, _ => False
abbrev n4 (x0b : Option Addr) (x0n : Nat) (x0c : Nat) (x1b : Option Addr) (x1n : Nat) (x1c : Nat) (x2 : List UInt8) (x7 : Bool) (Kn : T0) (Kr : T0) (h : H) : Prop :=
  HCalls Try.prog 10 ⟨[(.slice x0b x0n x0c), (.int .u8 (2 : Int)), (.slice x1b x1n x1c)]⟩ h fun v294 h295 => vBool v294 fun b296 => cond b296 (n5 x0b x0n x0c x1b x1n x1c x2 x7 true Kn Kr h295) (n5 x0b x0n x0c x1b x1n x1c x2 x7 false Kn Kr h295)
theorem n4_ok (x0b : Option Addr) (x0n : Nat) (x0c : Nat) (x1b : Option Addr) (x1n : Nat) (x1c : Nat) (x2 : List UInt8) (x7 : Bool) (Kn : T0) (Kr : T0) (g : Env) (hg : E2 g x0b x0n x0c x1b x1n x1c x2 x7) (h : H) (hS : n4 x0b x0n x0c x1b x1n x1c x2 x7 Kn Kr h) : wpC none Try.prog 122 n3_c2 (Q0 Kn Kr) g h := by
  obtain ⟨hg0, hg1, hg2, hg7, hds⟩ := hg
  refine wpC_seq' (x := n4_c1) (y := n4_c2) (Q' := (Q4 (fun z0b z0n z0c z1b z1n z1c z2 z7 z8 h => n5 z0b z0n z0c z1b z1n z1c z2 z7 z8 Kn Kr h) Kr)) (by kernel_rfl) ?_ ?_
  · refine wpC_of_wpx (by kernel_rfl) (by kernel_rfl) (g' := ((((⟨g.v, []⟩ : Env).upd (some 0) (.slice x0b x0n x0c)).upd (some 1) (.slice x1b x1n x1c)).upd (some 2) (S x2)).upd (some 7) (.bool x7)) (by rw [env_ds hds, upd_self hg0, upd_self hg1, upd_self hg2, upd_self hg7]) ?_
    have e : (n4 x0b x0n x0c x1b x1n x1c x2 x7 Kn Kr h) = wpx none Try.prog 122 n4_c1 (Q4 (fun z0b z0n z0c z1b z1n z1c z2 z7 z8 h => n5 z0b z0n z0c z1b z1n z1c z2 z7 z8 Kn Kr h) Kr) (((((⟨g.v, []⟩ : Env).upd (some 0) (.slice x0b x0n x0c)).upd (some 1) (.slice x1b x1n x1c)).upd (some 2) (S x2)).upd (some 7) (.bool x7)) h := by kernel_rfl
    exact e ▸ hS
  · intro e g' h' hq
    cases e with
    | normal =>
      have hq : D3 (fun z0b z0n z0c z1b z1n z1c z2 z7 z8 h => n5 z0b z0n z0c z1b z1n z1c z2 z7 z8 Kn Kr h) g' h' := hq
      obtain ⟨y0b, y0n, y0c, y1b, y1n, y1c, y2, y7, y8, hg', hq⟩ := D3_ok hq
      exact n5_ok y0b y0n y0c y1b y1n y1c y2 y7 y8 Kn Kr g' hg' h' hq
    | _ => exact hq
def Q5 (Kn : T2) (Kr : T0) : XPost
  | .normal, g, h => D2 Kn g h
  | .ret, g, h => D0 Kr g h
  | _, _, _ => False
abbrev n3 (x0b : Option Addr) (x0n : Nat) (x0c : Nat) (x1b : Option Addr) (x1n : Nat) (x1c : Nat) (x2 : List UInt8) (Kn : T0) (Kr : T0) (h : H) : Prop :=
  HCalls Try.prog 10 ⟨[(.slice x0b x0n x0c), (.int .u8 (0 : Int)), (.slice x1b x1n x1c)]⟩ h fun v297 h298 => vBool v297 fun b299 => cond b299 (n4 x0b x0n x0c x1b x1n x1c x2 true Kn Kr h298) (n4 x0b x0n x0c x1b x1n x1c x2 false Kn Kr h298)
theorem n3_ok (x0b : Option Addr) (x0n : Nat) (x0c : Nat) (x1b : Option Addr) (x1n : Nat) (x1c : Nat) (x2 : List UInt8) (Kn : T0) (Kr : T0) (g : Env) (hg : E1 g x0b x0n x0c x1b x1n x1c x2) (h : H) (hS : n3 x0b x0n x0c x1b x1n x1c x2 Kn Kr h) : wpC none Try.prog 122 n2_c2 (Q0 Kn Kr) g h := by
  obtain ⟨hg0, hg1, hg2, hds⟩ := hg
  refine wpC_seq' (x := n3_c1) (y := n3_c2) (Q' := (Q5 (fun z0b z0n z0c z1b z1n z1c z2 z7 h => n4 z0b z0n z0c z1b z1n z1c z2 z7 Kn Kr h) Kr)) (by kernel_rfl) ?_ ?_
  · refine wpC_of_wpx (by kernel_rfl) (by kernel_rfl) (g' := (((⟨g.v, []⟩ : Env).upd (some 0) (.slice x0b x0n x0c)).upd (some 1) (.slice x1b x1n x1c)).upd (some 2) (S x2)) (by rw [env_ds hds, upd_self hg0, upd_self hg1, upd_self hg2]) ?_
    have e : (n3 x0b x0n x0c x1b x1n x1c x2 Kn Kr h) = wpx none Try.prog 122 n3_c1 (Q5 (fun z0b z0n z0c z1b z1n z1c z2 z7 h => n4 z0b z0n z0c z1b z1n z1c z2 z7 Kn Kr h) Kr) ((((⟨g.v, []⟩ : Env).upd (some 0) (.slice x0b x0n x0c)).upd (some 1) (.slice x1b x1n x1c)).upd (some 2) (S x2)) h := by kernel_rfl
    exact e ▸ hS
  · intro e g' h' hq
    cases e with
    | normal =>
      have hq : D2 (fun z0b z0n z0c z1b z1n z1c z2 z7 h => n4 z0b z0n z0c z1b z1n z1c z2 z7 Kn Kr h) g' h' := hq
      obtain ⟨y0b, y0n, y0c, y1b, y1n, y1c, y2, y7, hg', hq⟩ := D2_ok hq
      exact n4_ok y0b y0n y0c y1b y1n y1c y2 y7 Kn Kr g' hg' h' hq
    | _ => exact hq
def Q6 (Kn : T1) (Kr : T0) : XPost
  | .normal, g, h => D1 Kn g h
  | .ret, g, h => D0 Kr g h
  | _, _, _ => False
abbrev n2 (x0b : Option Addr) (x0n : Nat) (x0c : Nat) (x1b : Option Addr) (x1n : Nat) (x1c : Nat) (x2 : List UInt8) (Kn : T0) (Kr : T0) (h : H) : Prop :=
  HCalls Try.prog 8 ⟨[(.slice x0b x0n x0c), (.slice x1b x1n x1c)]⟩ h fun v300 h301 => vBool v300 fun b302 => cond b302 (HCalls Try.prog 9 ⟨[]⟩ h301 fun v303 h304 => vBool v303 fun b305 => cond b305 (Kr true h304) (Kr false h304)) (Spl ((x2.length : Int) > (3000 : Int)) (HCalls Try.prog 9 ⟨[]⟩ h301 fun v306 h307 => vBool v306 fun b308 => cond b308 (Kr true h307) (Kr false h307)) (HCalls Try.prog 9 ⟨[]⟩ h301 fun v309 h310 => vBool v309 fun b311 => cond b311 (n3 x0b x0n x0c x1b x1n x1c x2 Kn Kr h310) (HCalls Try.prog 9 ⟨[]⟩ h310 fun v312 h313 => vBool v312 fun b314 => cond b314 (Kr true h313) (Kr false h313))))
theorem n2_ok (x0b : Option Addr) (x0n : Nat) (x0c : Nat) (x1b : Option Addr) (x1n : Nat) (x1c : Nat) (x2 : List UInt8) (Kn : T0) (Kr : T0) (g : Env) (hg : E1 g x0b x0n x0c x1b x1n x1c x2) (h : H) (hS : n2 x0b x0n x0c x1b x1n x1c x2 Kn Kr h) : wpC none Try.prog 122 n1_c2 (Q0 Kn Kr) g h := by
  obtain ⟨hg0, hg1, hg2, hds⟩ := hg
  refine wpC_seq' (x := n2_c1) (y := n2_c2) (Q' := (Q6 (fun z0b z0n z0c z1b z1n z1c z2 h => n3 z0b z0n z0c z1b z1n z1c z2 Kn Kr h) Kr)) (by kernel_rfl) ?_ ?_
  · refine wpC_of_wpx (by kernel_rfl) (by kernel_rfl) (g' := (((⟨g.v, []⟩ : Env).upd (some 0) (.slice x0b x0n x0c)).upd (some 1) (.slice x1b x1n x1c)).upd (some 2) (S x2)) (by rw [env_ds hds, upd_self hg0, upd_self hg1, upd_self hg2]) ?_
    have e : (n2 x0b x0n x0c x1b x1n x1c x2 Kn Kr h) = wpx none Try.prog 122 n2_c1 (Q6 (fun z0b z0n z0c z1b z1n z1c z2 h => n3 z0b z0n z0c z1b z1n z1c z2 Kn Kr h) Kr) ((((⟨g.v, []⟩ : Env).upd (some 0) (.slice x0b x0n x0c)).upd (some 1) (.slice x1b x1n x1c)).upd (some 2) (S x2)) h := by kernel_rfl
    exact e ▸ hS
  · intro e g' h' hq
    cases e with
    | normal =>
      have hq : D1 (fun z0b z0n z0c z1b z1n z1c z2 h => n3 z0b z0n z0c z1b z1n z1c z2 Kn Kr h) g' h' := hq
      obtain ⟨y0b, y0n, y0c, y1b, y1n, y1c, y2, hg', hq⟩ := D1_ok hq
      exact n3_ok y0b y0n y0c y1b y1n y1c y2 Kn Kr g' hg' h' hq
    | _ => exact hq
abbrev n1 (x0b : Option Addr) (x0n : Nat) (x0c : Nat) (x1b : Option Addr) (x1n : Nat) (x1c : Nat) (x2 : List UInt8) (Kn : T0) (Kr : T0) (h : H) : Prop :=
  n2 x0b x0n x0c x1b x1n x1c x2 Kn Kr h
theorem n1_ok (x0b : Option Addr) (x0n : Nat) (x0c : Nat) (x1b : Option Addr) (x1n : Nat) (x1c : Nat) (x2 : List UInt8) (Kn : T0) (Kr : T0) (g : Env) (hg : E1 g x0b x0n x0c x1b x1n x1c x2) (h : H) (hS : n1 x0b x0n x0c x1b x1n x1c x2 Kn Kr h) : wpC none Try.prog 122 code (Q0 Kn Kr) g h := by
  obtain ⟨hg0, hg1, hg2, hds⟩ := hg
  refine wpC_seq' (x := n1_c1) (y := n1_c2) (Q' := (Q6 (fun z0b z0n z0c z1b z1n z1c z2 h => n2 z0b z0n z0c z1b z1n z1c z2 Kn Kr h) Kr)) (by kernel_rfl) ?_ ?_
  · refine wpC_of_wpx (by kernel_rfl) (by kernel_rfl) (g' := (((⟨g.v, []⟩ : Env).upd (some 0) (.slice x0b x0n x0c)).upd (some 1) (.slice x1b x1n x1c)).upd (some 2) (S x2)) (by rw [env_ds hds, upd_self hg0, upd_self hg1, upd_self hg2]) ?_
    have e : (n1 x0b x0n x0c x1b x1n x1c x2 Kn Kr h) = wpx none Try.prog 122 n1_c1 (Q6 (fun z0b z0n z0c z1b z1n z1c z2 h => n2 z0b z0n z0c z1b z1n z1c z2 Kn Kr h) Kr) ((((⟨g.v, []⟩ : Env).upd (some 0) (.slice x0b x0n x0c)).upd (some 1) (.slice x1b x1n x1c)).upd (some 2) (S x2)) h := by kernel_rfl
    exact e ▸ hS
  · intro e g' h' hq
    cases e with
    | normal =>
      have hq : D1 (fun z0b z0n z0c z1b z1n z1c z2 h => n2 z0b z0n z0c z1b z1n z1c z2 Kn Kr h) g' h' := hq
      obtain ⟨y0b, y0n, y0c, y1b, y1n, y1c, y2, hg', hq⟩ := D1_ok hq
      exact n2_ok y0b y0n y0c y1b y1n y1c y2 Kn Kr g' hg' h' hq
    | _ => exact hq
/-- WHAT tympan/tympanlaw11.OpenScopes ASKS -/
abbrev asks (x0b : Option Addr) (x0n : Nat) (x0c : Nat) (x1b : Option Addr) (x1n : Nat) (x1c : Nat) (x2 : List UInt8) (K : Value → H → Prop) (h : H) : Prop := n1 x0b x0n x0c x1b x1n x1c x2 (fun y6 h => K (.bool y6) h) (fun y6 h => K (.bool y6) h) h
theorem ok (x0b : Option Addr) (x0n : Nat) (x0c : Nat) (x1b : Option Addr) (x1n : Nat) (x1c : Nat) (x2 : List UInt8) (K : Value → H → Prop) (h : H) (hS : asks x0b x0n x0c x1b x1n x1c x2 K h) : HCalls Try.prog 6 ⟨[(.slice x0b x0n x0c), (.slice x1b x1n x1c), (S x2)]⟩ h K := by
  refine calls_of_wpC (c := code) Try.func6 (by kernel_rfl) (Nat.le_of_ble_eq_true (by kernel_rfl)) ?_
  refine (n1_ok x0b x0n x0c x1b x1n x1c x2 (fun y6 h => K (.bool y6) h) (fun y6 h => K (.bool y6) h) (env0 [(.slice x0b x0n x0c), (.slice x1b x1n x1c), (S x2)]) ⟨rfl, rfl, rfl, rfl⟩ h hS).mono ?_
  intro e g' h' hq
  cases e with
  | normal =>
    have hq : D0 (fun y6 h => K (.bool y6) h) g' h' := hq
    obtain ⟨y6, ⟨hg6, hd⟩, hq⟩ := D0_ok hq
    show leaveX g'.ds h' _
    rw [hd]
    show K (g'.v 6) h'
    rw [hg6]
    exact hq
  | ret =>
    have hq : D0 (fun y6 h => K (.bool y6) h) g' h' := hq
    obtain ⟨y6, ⟨hg6, hd⟩, hq⟩ := D0_ok hq
    show leaveX g'.ds h' _
    rw [hd]
    show K (g'.v 6) h'
    rw [hg6]
    exact hq
  | _ => exact hq
end Sx.l11_OpenScopes

/-! ### tympan/tympanlaw11.OpenOrder -/
namespace Sx.l11_OpenOrder
noncomputable def code : Code := bodyOf Try.f7
abbrev T0 := Bool → H → Prop
def E0 (g : Env) (x8 : Bool) : Prop := g.v 8 = (.bool x8) ∧ g.ds = []
def D0 (K : T0) (g : Env) (h : H) : Prop := nilDs g.ds (vBool (g.v 8) fun b1 => K b1 h)
theorem D0_ok {K : T0} {g : Env} {h : H} (hq : D0 K g h) : ∃ (x8 : Bool), E0 g x8 ∧ K x8 h := by
  obtain ⟨hd, hq⟩ := nilDs_ok hq
  obtain ⟨y3, e2, q4⟩ := vBool_ok hq
  exact ⟨y3, ⟨e2, hd⟩, q4⟩
def Q0 (Kn : T0) (Kr : T0) : XPost
  | .normal, g, h => D0 Kn g h
  | .ret, g, h => D0 Kr g h
  | _, _, _ => False
abbrev T1 := (Option Addr) → Nat → Nat → Int → (Option Addr) → Nat → Nat → (Option Addr) → Nat → Nat → H → Prop
def E1 (g : Env) (x0b : Option Addr) (x0n : Nat) (x0c : Nat) (x1 : Int) (x2b : Option Addr) (x2n : Nat) (x2c : Nat) (x3b : Option Addr) (x3n : Nat) (x3c : Nat) : Prop := g.v 0 = (.slice x0b x0n x0c) ∧ g.v 1 = (.int .u8 x1) ∧ g.v 2 = (.slice x2b x2n x2c) ∧ g.v 3 = (.slice x3b x3n x3c) ∧ g.ds = []
def D1 (K : T1) (g : Env) (h : H) : Prop := nilDs g.ds (vSlice (g.v 0) fun s5b s5n s5c => vInt .u8 (g.v 1) fun i6 => vSlice (g.v 2) fun s7b s7n s7c => vSlice (g.v 3) fun s8b s8n s8c => K s5b s5n s5c i6 s7b s7n s7c s8b s8n s8c h)
theorem D1_ok {K : T1} {g : Env} {h : H} (hq : D1 K g h) : ∃ (x0b : Option Addr) (x0n : Nat) (x0c : Nat) (x1 : Int) (x2b : Option Addr) (x2n : Nat) (x2c : Nat) (x3b : Option Addr) (x3n : Nat) (x3c : Nat), E1 g x0b x0n x0c x1 x2b x2n x2c x3b x3n x3c ∧ K x0b x0n x0c x1 x2b x2n x2c x3b x3n x3c h := by
  obtain ⟨hd, hq⟩ := nilDs_ok hq
  obtain ⟨y10b, y10n, y10c, e9, q11⟩ := vSlice_ok hq
  obtain ⟨y13, e12, q14⟩ := vInt_ok q11
  obtain ⟨y16b, y16n, y16c, e15, q17⟩ := vSlice_ok q14
  obtain ⟨y19b, y19n, y19c, e18, q20⟩ := vSlice_ok q17
  exact ⟨y10b, y10n, y10c, y13, y16b, y16n, y16c, y19b, y19n, y19c, ⟨e9, e12, e15, e18, hd⟩, q20⟩
noncomputable def n1_c1 : Code := cFst code
noncomputable def n1_c2 : Code := cSnd code
noncomputable def n2_c1 : Code := cFst n1_c2
noncomputable def n2_c2 : Code := cSnd n1_c2
noncomputable def n3_c1 : Code := cFst n2_c2
noncomputable def n3_c2 : Code := cSnd n2_c2
abbrev T2 := (Option Addr) → Nat → Nat → Int → (Option Addr) → Nat → Nat → (Option Addr) → Nat → Nat → (Option Addr) → Nat → Nat → H → Prop
def E2 (g : Env) (x0b : Option Addr) (x0n : Nat) (x0c : Nat) (x1 : Int) (x2b : Option Addr) (x2n : Nat) (x2c : Nat) (x3b : Option Addr) (x3n : Nat) (x3c : Nat) (x9b : Option Addr) (x9n : Nat) (x9c : Nat) : Prop := g.v 0 = (.slice x0b x0n x0c) ∧ g.v 1 = (.int .u8 x1) ∧ g.v 2 = (.slice x2b x2n x2c) ∧ g.v 3 = (.slice x3b x3n x3c) ∧ g.v 9 = (.slice x9b x9n x9c) ∧ g.ds = []
def D2 (K : T2) (g : Env) (h : H) : Prop := nilDs g.ds (vSlice (g.v 0) fun s21b s21n s21c => vInt .u8 (g.v 1) fun i22 => vSlice (g.v 2) fun s23b s23n s23c => vSlice (g.v 3) fun s24b s24n s24c => vSlice (g.v 9) fun s25b s25n s25c => K s21b s21n s21c i22 s23b s23n s23c s24b s24n s24c s25b s25n s25c h)
theorem D2_ok {K : T2} {g : Env} {h : H} (hq : D2 K g h) : ∃ (x0b : Option Addr) (x0n : Nat) (x0c : Nat) (x1 : Int) (x2b : Option Addr) (x2n : Nat) (x2c : Nat) (x3b : Option Addr) (x3n : Nat) (x3c : Nat) (x9b : Option Addr) (x9n : Nat) (x9c : Nat), E2 g x0b x0n x0c x1 x2b x2n x2c x3b x3n x3c x9b x9n x9c ∧ K x0b x0n x0c x1 x2b x2n x2c x3b x3n x3c x9b x9n x9c h := by
  obtain ⟨hd, hq⟩ := nilDs_ok hq
  obtain ⟨y27b, y27n, y27c, e26, q28⟩ := vSlice_ok hq
  obtain ⟨y30, e29, q31⟩ := vInt_ok q28
  obtain ⟨y33b, y33n, y33c, e32, q34⟩ := vSlice_ok q31
  obtain ⟨y36b, y36n, y36c, e35, q37⟩ := vSlice_ok q34
  obtain ⟨y39b, y39n, y39c, e38, q40⟩ := vSlice_ok q37
  exact ⟨y27b, y27n, y27c, y30, y33b, y33n, y33c, y36b, y36n, y36c, y39b, y39n, y39c, ⟨e26, e29, e32, e35, e38, hd⟩, q40⟩
noncomputable def n4_c1 : Code := cFst n3_c2
noncomputable def n4_c2 : Code := cSnd n3_c2
noncomputable def n5_c1 : Code := cFst n4_c2
noncomputable def n5_c2 : Code := cSnd n4_c2
abbrev T3 := (Option Addr) → Nat → Nat → Int → (Option Addr) → Nat → Nat → (Option Addr) → Nat → Nat → (Option Addr) → Nat → Nat → (Option Addr) → Nat → Nat → H → Prop
def E3 (g : Env) (x0b : Option Addr) (x0n : Nat) (x0c : Nat) (x1 : Int) (x2b : Option Addr) (x2n : Nat) (x2c : Nat) (x3b : Option Addr) (x3n : Nat) (x3c : Nat) (x9b : Option Addr) (x9n : Nat) (x9c : Nat) (x11b : Option Addr) (x11n : Nat) (x11c : Nat) : Prop := g.v 0 = (.slice x0b x0n x0c) ∧ g.v 1 = (.int .u8 x1) ∧ g.v 2 = (.slice x2b x2n x2c) ∧ g.v 3 = (.slice x3b x3n x3c) ∧ g.v 9 = (.slice x9b x9n x9c) ∧ g.v 11 = (.slice x11b x11n x11c) ∧ g.ds = []
def D3 (K : T3) (g : Env) (h : H) : Prop := nilDs g.ds (vSlice (g.v 0) fun s41b s41n s41c => vInt .u8 (g.v 1) fun i42 => vSlice (g.v 2) fun s43b s43n s43c => vSlice (g.v 3) fun s44b s44n s44c => vSlice (g.v 9) fun s45b s45n s45c => vSlice (g.v 11) fun s46b s46n s46c => K s41b s41n s41c i42 s43b s43n s43c s44b s44n s44c s45b s45n s45c s46b s46n s46c h)
theorem D3_ok {K : T3} {g : Env} {h : H} (hq : D3 K g h) : ∃ (x0b : Option Addr) (x0n : Nat) (x0c : Nat) (x1 : Int) (x2b : Option Addr) (x2n : Nat) (x2c : Nat) (x3b : Option Addr) (x3n : Nat) (x3c : Nat) (x9b : Option Addr) (x9n : Nat) (x9c : Nat) (x11b : Option Addr) (x11n : Nat) (x11c : Nat), E3 g x0b x0n x0c x1 x2b x2n x2c x3b x3n x3c x9b x9n x9c x11b x11n x11c ∧ K x0b x0n x0c x1 x2b x2n x2c x3b x3n x3c x9b x9n x9c x11b x11n x11c h := by
  obtain ⟨hd, hq⟩ := nilDs_ok hq
  obtain ⟨y48b, y48n, y48c, e47, q49⟩ := vSlice_ok hq
  obtain ⟨y51, e50, q52⟩ := vInt_ok q49
  obtain ⟨y54b, y54n, y54c, e53, q55⟩ := vSlice_ok q52
  obtain ⟨y57b, y57n, y57c, e56, q58⟩ := vSlice_ok q55
  obtain ⟨y60b, y60n, y60c, e59, q61⟩ := vSlice_ok q58
  obtain ⟨y63b, y63n, y63c, e62, q64⟩ := vSlice_ok q61
  exact ⟨y48b, y48n, y48c, y51, y54b, y54n, y54c, y57b, y57n, y57c, y60b, y60n, y60c, y63b, y63n, y63c, ⟨e47, e50, e53, e56, e59, e62, hd⟩, q64⟩
noncomputable def n6_c1 : Code := cFst n5_c2
noncomputable def n6_c2 : Code := cSnd n5_c2
abbrev T4 := (Option Addr) → Nat → Nat → Int → (Option Addr) → Nat → Nat → (Option Addr) → Nat → Nat → (Option Addr) → Nat → Nat → H → Prop
def E4 (g : Env) (x0b : Option Addr) (x0n : Nat) (x0c : Nat) (x1 : Int) (x2b : Option Addr) (x2n : Nat) (x2c : Nat) (x9b : Option Addr) (x9n : Nat) (x9c : Nat) (x11b : Option Addr) (x11n : Nat) (x11c : Nat) : Prop := g.v 0 = (.slice x0b x0n x0c) ∧ g.v 1 = (.int .u8 x1) ∧ g.v 2 = (.slice x2b x2n x2c) ∧ g.v 9 = (.slice x9b x9n x9c) ∧ g.v 11 = (.slice x11b x11n x11c) ∧ g.ds = []
def D4 (K : T4) (g : Env) (h : H) : Prop := nilDs g.ds (vSlice (g.v 0) fun s65b s65n s65c => vInt .u8 (g.v 1) fun i66 => vSlice (g.v 2) fun s67b s67n s67c => vSlice (g.v 9) fun s68b s68n s68c => vSlice (g.v 11) fun s69b s69n s69c => K s65b s65n s65c i66 s67b s67n s67c s68b s68n s68c s69b s69n s69c h)
theorem D4_ok {K : T4} {g : Env} {h : H} (hq : D4 K g h) : ∃ (x0b : Option Addr) (x0n : Nat) (x0c : Nat) (x1 : Int) (x2b : Option Addr) (x2n : Nat) (x2c : Nat) (x9b : Option Addr) (x9n : Nat) (x9c : Nat) (x11b : Option Addr) (x11n : Nat) (x11c : Nat), E4 g x0b x0n x0c x1 x2b x2n x2c x9b x9n x9c x11b x11n x11c ∧ K x0b x0n x0c x1 x2b x2n x2c x9b x9n x9c x11b x11n x11c h := by
  obtain ⟨hd, hq⟩ := nilDs_ok hq
  obtain ⟨y71b, y71n, y71c, e70, q72⟩ := vSlice_ok hq
  obtain ⟨y74, e73, q75⟩ := vInt_ok q72
  obtain ⟨y77b, y77n, y77c, e76, q78⟩ := vSlice_ok q75
  obtain ⟨y80b, y80n, y80c, e79, q81⟩ := vSlice_ok q78
  obtain ⟨y83b, y83n, y83c, e82, q84⟩ := vSlice_ok q81
  exact ⟨y71b, y71n, y71c, y74, y77b, y77n, y77c, y80b, y80n, y80c, y83b, y83n, y83c, ⟨e70, e73, e76, e79, e82, hd⟩, q84⟩
noncomputable def n7_c1 : Code := cFst n6_c2
noncomputable def n7_c2 : Code := cSnd n6_c2
abbrev T5 := (Option Addr) → Nat → Nat → (Option Addr) → Nat → Nat → (Option Addr) → Nat → Nat → (Option Addr) → Nat → Nat → Bool → H → Prop
def E5 (g : Env) (x0b : Option Addr) (x0n : Nat) (x0c : Nat) (x2b : Option Addr) (x2n : Nat) (x2c : Nat) (x9b : Option Addr) (x9n : Nat) (x9c : Nat) (x11b : Option Addr) (x11n : Nat) (x11c : Nat) (x14 : Bool) : Prop := g.v 0 = (.slice x0b x0n x0c) ∧ g.v 2 = (.slice x2b x2n x2c) ∧ g.v 9 = (.slice x9b x9n x9c) ∧ g.v 11 = (.slice x11b x11n x11c) ∧ g.v 14 = (.bool x14) ∧ g.ds = []
def D5 (K : T5) (g : Env) (h : H) : Prop := nilDs g.ds (vSlice (g.v 0) fun s85b s85n s85c => vSlice (g.v 2) fun s86b s86n s86c => vSlice (g.v 9) fun s87b s87n s87c => vSlice (g.v 11) fun s88b s88n s88c => vBool (g.v 14) fun b89 => K s85b s85n s85c s86b s86n s86c s87b s87n s87c s88b s88n s88c b89 h)
theorem D5_ok {K : T5} {g : Env} {h : H} (hq : D5 K g h) : ∃ (x0b : Option Addr) (x0n : Nat) (x0c : Nat) (x2b : Option Addr) (x2n : Nat) (x2c : Nat) (x9b : Option Addr) (x9n : Nat) (x9c : Nat) (x11b : Option Addr) (x11n : Nat) (x11c : Nat) (x14 : Bool), E5 g x0b x0n x0c x2b x2n x2c x9b x9n x9c x11b x11n x11c x14 ∧ K x0b x0n x0c x2b x2n x2c x9b x9n x9c x11b x11n x11c x14 h := by
  obtain ⟨hd, hq⟩ := nilDs_ok hq
  obtain ⟨y91b, y91n, y91c, e90, q92⟩ := vSlice_ok hq
  obtain ⟨y94b, y94n, y94c, e93, q95⟩ := vSlice_ok q92
  obtain ⟨y97b, y97n, y97c, e96, q98⟩ := vSlice_ok q95
  obtain ⟨y100b, y100n, y100c, e99, q101⟩ := vSlice_ok q98
  obtain ⟨y103, e102, q104⟩ := vBool_ok q101
  exact ⟨y91b, y91n, y91c, y94b, y94n, y94c, y97b, y97n, y97c, y100b, y100n, y100c, y103, ⟨e90, e93, e96, e99, e102, hd⟩, q104⟩
abbrev n8 (x0b : Option Addr) (x0n : Nat) (x0c : Nat) (x2b : Option Addr) (x2n : Nat) (x2c : Nat) (x9b : Option Addr) (x9n : Nat) (x9c : Nat) (x11b : Option Addr) (x11n : Nat) (x11c : Nat) (x14 : Bool) (Kn : T0) (Kr : T0) (h : H) : Prop :=
  cond x14 (HCalls Try.prog 20 ⟨[(.slice x0b x0n x0c), (.slice x2b x2n x2c)]⟩ h fun v105 h106 => vInt .i64 v105 fun i107 => HCalls Try.prog 20 ⟨[(.slice x11b x11n x11c), (.slice x9b x9n x9c)]⟩ h106 fun v108 h109 => vInt .i64 v108 fun i110 => Spl (i107 = i110) (HCalls Try.prog 22 ⟨[(.slice x0b x0n x0c), (.slice x2b x2n x2c)]⟩ h109 fun v111 h112 => vInt .i64 v111 fun i113 => HCalls Try.prog 22 ⟨[(.slice x11b x11n x11c), (.slice x9b x9n x9c)]⟩ h112 fun v114 h115 => vInt .i64 v114 fun i116 => Spl (i113 = i116) (HCalls Try.prog 16 ⟨[(.slice x0b x0n x0c), (S ([112] : List UInt8))]⟩ h115 fun v117 h118 => vInt .i64 v117 fun i119 => HCalls Try.prog 16 ⟨[(.slice x11b x11n x11c), (S ([112] : List UInt8))]⟩ h118 fun v120 h121 => vInt .i64 v120 fun i122 => Spl (i119 = i122) (Kr true h121) (Kr false h121)) (Kr false h115)) (Kr false h109)) (Kr false h)
theorem n8_ok (x0b : Option Addr) (x0n : Nat) (x0c : Nat) (x2b : Option Addr) (x2n : Nat) (x2c : Nat) (x9b : Option Addr) (x9n : Nat) (x9c : Nat) (x11b : Option Addr) (x11n : Nat) (x11c : Nat) (x14 : Bool) (Kn : T0) (Kr : T0) (g : Env) (hg : E5 g x0b x0n x0c x2b x2n x2c x9b x9n x9c x11b x11n x11c x14) (h : H) (hS : n8 x0b x0n x0c x2b x2n x2c x9b x9n x9c x11b x11n x11c x14 Kn Kr h) : wpC none Try.prog 115 n7_c2 (Q0 Kn Kr) g h := by
  obtain ⟨hg0, hg2, hg9, hg11, hg14, hds⟩ := hg
  refine wpC_of_wpx (by kernel_rfl) (by kernel_rfl) (g' := (((((⟨g.v, []⟩ : Env).upd (some 0) (.slice x0b x0n x0c)).upd (some 2) (.slice x2b x2n x2c)).upd (some 9) (.slice x9b x9n x9c)).upd (some 11) (.slice x11b x11n x11c)).upd (some 14) (.bool x14)) (by rw [env_ds hds, upd_self hg0, upd_self hg2, upd_self hg9, upd_self hg11, upd_self hg14]) ?_
  have e : (n8 x0b x0n x0c x2b x2n x2c x9b x9n x9c x11b x11n x11c x14 Kn Kr h) = wpx none Try.prog 115 n7_c2 (Q0 Kn Kr) ((((((⟨g.v, []⟩ : Env).upd (some 0) (.slice x0b x0n x0c)).upd (some 2) (.slice x2b x2n x2c)).upd (some 9) (.slice x9b x9n x9c)).upd (some 11) (.slice x11b x11n x11c)).upd (some 14) (.bool x14)) h := by kernel_rfl
  exact e ▸ hS
def Q1 (Kn : T5) (Kr : T0) : XPost
  | .normal, g, h => D5 Kn g h
  | .ret, g, h => D0 Kr g h
  | _, _, _ => False
abbrev n7 (x0b : Option Addr) (x0n : Nat) (x0c : Nat) (x1 : Int) (x2b : Option Addr) (x2n : Nat) (x2c : Nat) (x9b : Option Addr) (x9n : Nat) (x9c : Nat) (x11b : Option Addr) (x11n : Nat) (x11c : Nat) (Kn : T0) (Kr : T0) (h : H) : Prop :=
  HCalls Try.prog 10 ⟨[(.slice x0b x0n x0c), (.int .u8 x1), (.slice x2b x2n x2c)]⟩ h fun v123 h124 => vBool v123 fun b125 => cond b125 (HCalls Try.prog 10 ⟨[(.slice x11b x11n x11c), (.int .u8 x1), (.slice x9b x9n x9c)]⟩ h124 fun v126 h127 => vBool v126 fun b128 => cond b128 (HCalls Try.prog 18 ⟨[(.slice x0b x0n x0c), (.slice x2b x2n x2c)]⟩ h127 fun v129 h130 => vInt .i64 v129 fun i131 => HCalls Try.prog 18 ⟨[(.slice x11b x11n x11c), (.slice x9b x9n x9c)]⟩ h130 fun v132 h133 => vInt .i64 v132 fun i134 => Spl (i131 = i134) (n8 x0b x0n x0c x2b x2n x2c x9b x9n x9c x11b x11n x11c true Kn Kr h133) (n8 x0b x0n x0c x2b x2n x2c x9b x9n x9c x11b x11n x11c false Kn Kr h133)) (n8 x0b x0n x0c x2b x2n x2c x9b x9n x9c x11b x11n x11c false Kn Kr h127)) (HCalls Try.prog 10 ⟨[(.slice x11b x11n x11c), (.int .u8 x1), (.slice x9b x9n x9c)]⟩ h124 fun v135 h136 => vBool v135 fun b137 => cond b137 (n8 x0b x0n x0c x2b x2n x2c x9b x9n x9c x11b x11n x11c false Kn Kr h136) (HCalls Try.prog 18 ⟨[(.slice x0b x0n x0c), (.slice x2b x2n x2c)]⟩ h136 fun v138 h139 => vInt .i64 v138 fun i140 => HCalls Try.prog 18 ⟨[(.slice x11b x11n x11c), (.slice x9b x9n x9c)]⟩ h139 fun v141 h142 => vInt .i64 v141 fun i143 => Spl (i140 = i143) (n8 x0b x0n x0c x2b x2n x2c x9b x9n x9c x11b x11n x11c true Kn Kr h142) (n8 x0b x0n x0c x2b x2n x2c x9b x9n x9c x11b x11n x11c false Kn Kr h142)))
theorem n7_ok (x0b : Option Addr) (x0n : Nat) (x0c : Nat) (x1 : Int) (x2b : Option Addr) (x2n : Nat) (x2c : Nat) (x9b : Option Addr) (x9n : Nat) (x9c : Nat) (x11b : Option Addr) (x11n : Nat) (x11c : Nat) (Kn : T0) (Kr : T0) (g : Env) (hg : E4 g x0b x0n x0c x1 x2b x2n x2c x9b x9n x9c x11b x11n x11c) (h : H) (hS : n7 x0b x0n x0c x1 x2b x2n x2c x9b x9n x9c x11b x11n x11c Kn Kr h) : wpC none Try.prog 115 n6_c2 (Q0 Kn Kr) g h := by
  obtain ⟨hg0, hg1, hg2, hg9, hg11, hds⟩ := hg
  refine wpC_seq' (x := n7_c1) (y := n7_c2) (Q' := (Q1 (fun z0b z0n z0c z2b z2n z2c z9b z9n z9c z11b z11n z11c z14 h => n8 z0b z0n z0c z2b z2n z2c z9b z9n z9c z11b z11n z11c z14 Kn Kr h) Kr)) (by kernel_rfl) ?_ ?_
  · refine wpC_of_wpx (by kernel_rfl) (by kernel_rfl) (g' := (((((⟨g.v, []⟩ : Env).upd (some 0) (.slice x0b x0n x0c)).upd (some 1) (.int .u8 x1)).upd (some 2) (.slice x2b x2n x2c)).upd (some 9) (.slice x9b x9n x9c)).upd (some 11) (.slice x11b x11n x11c)) (by rw [env_ds hds, upd_self hg0, upd_self hg1, upd_self hg2, upd_self hg9, upd_self hg11]) ?_
    have e : (n7 x0b x0n x0c x1 x2b x2n x2c x9b x9n x9c x11b x11n x11c Kn Kr h) = wpx none Try.prog 115 n7_c1 (Q1 (fun z0b z0n z0c z2b z2n z2c z9b z9n z9c z11b z11n z11c z14 h => n8 z0b z0n z0c z2b z2n z2c z9b z9n z9c z11b z11n z11c z14 Kn Kr h) Kr) ((((((⟨g.v, []⟩ : Env).upd (some 0) (.slice x0b x0n x0c)).upd (some 1) (.int .u8 x1)).upd (some 2) (.slice x2b x2n x2c)).upd (some 9) (.slice x9b x9n x9c)).upd (some 11) (.slice x11b x11n x11c)) h := by kernel_rfl
    exact e ▸ hS
  · intro e g' h' hq
    cases e with
    | normal =>
      have hq : D5 (fun z0b z0n z0c z2b z2n z2c z9b z9n z9c z11b z11n z11c z14 h => n8 z0b z0n z0c z2b z2n z2c z9b z9n z9c z11b z11n z11c z14 Kn Kr h) g' h' := hq
      obtain ⟨y0b, y0n, y0c, y2b, y2n, y2c, y9b, y9n, y9c, y11b, y11n, y11c, y14, hg', hq⟩ := D5_ok hq
      exact n8_ok y0b y0n y0c y2b y2n y2c y9b y9n y9c y11b y11n y11c y14 Kn Kr g' hg' h' hq
    | _ => exact hq
def Q2 (Kn : T4) (Kr : T0) : XPost
  | .normal, g, h => D4 Kn g h
  | .ret, g, h => D0 Kr g h
  | _, _, _ => False
noncomputable def n9_c1 : Code := cFst n6_c1
noncomputable def n9_c2 : Code := cSnd n6_c1
abbrev T6 := (Option Addr) → Nat → Nat → Int → (Option Addr) → Nat → Nat → (Option Addr) → Nat → Nat → (Option Addr) → Nat → Nat → (Option Addr) → Nat → Nat → Int → H → Prop
def E6 (g : Env) (x0b : Option Addr) (x0n : Nat) (x0c : Nat) (x1 : Int) (x2b : Option Addr) (x2n : Nat) (x2c : Nat) (x3b : Option Addr) (x3n : Nat) (x3c : Nat) (x9b : Option Addr) (x9n : Nat) (x9c : Nat) (x11b : Option Addr) (x11n : Nat) (x11c : Nat) (x12 : Int) : Prop := g.v 0 = (.slice x0b x0n x0c) ∧ g.v 1 = (.int .u8 x1) ∧ g.v 2 = (.slice x2b x2n x2c) ∧ g.v 3 = (.slice x3b x3n x3c) ∧ g.v 9 = (.slice x9b x9n x9c) ∧ g.v 11 = (.slice x11b x11n x11c) ∧ g.v 12 = (.int .i64 x12) ∧ g.ds = []
def D6 (K : T6) (g : Env) (h : H) : Prop := nilDs g.ds (vSlice (g.v 0) fun s144b s144n s144c => vInt .u8 (g.v 1) fun i145 => vSlice (g.v 2) fun s146b s146n s146c => vSlice (g.v 3) fun s147b s147n s147c => vSlice (g.v 9) fun s148b s148n s148c => vSlice (g.v 11) fun s149b s149n s149c => vInt .i64 (g.v 12) fun i150 => K s144b s144n s144c i145 s146b s146n s146c s147b s147n s147c s148b s148n s148c s149b s149n s149c i150 h)
theorem D6_ok {K : T6} {g : Env} {h : H} (hq : D6 K g h) : ∃ (x0b : Option Addr) (x0n : Nat) (x0c : Nat) (x1 : Int) (x2b : Option Addr) (x2n : Nat) (x2c : Nat) (x3b : Option Addr) (x3n : Nat) (x3c : Nat) (x9b : Option Addr) (x9n : Nat) (x9c : Nat) (x11b : Option Addr) (x11n : Nat) (x11c : Nat) (x12 : Int), E6 g x0b x0n x0c x1 x2b x2n x2c x3b x3n x3c x9b x9n x9c x11b x11n x11c x12 ∧ K x0b x0n x0c x1 x2b x2n x2c x3b x3n x3c x9b x9n x9c x11b x11n x11c x12 h := by
  obtain ⟨hd, hq⟩ := nilDs_ok hq
  obtain ⟨y152b, y152n, y152c, e151, q153⟩ := vSlice_ok hq
  obtain ⟨y155, e154, q156⟩ := vInt_ok q153
  obtain ⟨y158b, y158n, y158c, e157, q159⟩ := vSlice_ok q156
  obtain ⟨y161b, y161n, y161c, e160, q162⟩ := vSlice_ok q159
  obtain ⟨y164b, y164n, y164c, e163, q165⟩ := vSlice_ok q162
  obtain ⟨y167b, y167n, y167c, e166, q168⟩ := vSlice_ok q165
  obtain ⟨y170, e169, q171⟩ := vInt_ok q168
  exact ⟨y152b, y152n, y152c, y155, y158b, y158n, y158c, y161b, y161n, y161c, y164b, y164n, y164c, y167b, y167n, y167c, y170, ⟨e151, e154, e157, e160, e163, e166, e169, hd⟩, q171⟩
noncomputable def n10_c1 : Code := cFst n9_c2
def Q3 (Kn : T4) (Ke2 : T4) (Kr : T0) : XPost
  | .normal, g, h => D4 Kn g h
  | .ret, g, h => D0 Kr g h
  | .exit id, g, h => cond (Nat.beq id 2) (D4 Ke2 g h) (False)
  | _, _, _ => False
noncomputable def n11_c1 : Code := cFst n10_c1
def Q4 (Kn : T6) (Ke2 : T4) (Kr : T0) : XPost
  | .normal, g, h => D6 Kn g h
  | .ret, g, h => D0 Kr g h
  | .exit id, g, h => cond (Nat.beq id 2) (D4 Ke2 g h) (False)
  | _, _, _ => False
noncomputable def n12_c1 : Code := cFst n11_c1
noncomputable def n12_c2 : Code := cSnd n11_c1
noncomputable def n13_c1 : Code := cFst n12_c2
noncomputable def n13_c2 : Code := cSnd n12_c2
abbrev n14 (x0b : Option Addr) (x0n : Nat) (x0c : Nat) (x1 : Int) (x2b : Option Addr) (x2n : Nat) (x2c : Nat) (x3b : Option Addr) (x3n : Nat) (x3c : Nat) (x9b : Option Addr) (x9n : Nat) (x9c : Nat) (x11b : Option Addr) (x11n : Nat) (x11c : Nat) (x12 : Int) (Kn : T6) (Ke2 : T4) (Kr : T0) (h : H) : Prop :=
  Rng .i64 (x12 + (1 : Int)) ∧ (Kn x0b x0n x0c x1 x2b x2n x2c x3b x3n x3c x9b x9n x9c x11b x11n x11c (x12 + (1 : Int)) h)
theorem n14_ok (x0b : Option Addr) (x0n : Nat) (x0c : Nat) (x1 : Int) (x2b : Option Addr) (x2n : Nat) (x2c : Nat) (x3b : Option Addr) (x3n : Nat) (x3c : Nat) (x9b : Option Addr) (x9n : Nat) (x9c : Nat) (x11b : Option Addr) (x11n : Nat) (x11c : Nat) (x12 : Int) (Kn : T6) (Ke2 : T4) (Kr : T0) (g : Env) (hg : E6 g x0b x0n x0c x1 x2b x2n x2c x3b x3n x3c x9b x9n x9c x11b x11n x11c x12) (h : H) (hS : n14 x0b x0n x0c x1 x2b x2n x2c x3b x3n x3c x9b x9n x9c x11b x11n x11c x12 Kn Ke2 Kr h) : wpC none Try.prog 115 n13_c2 (Q4 Kn Ke2 Kr) g h := by
  obtain ⟨hg0, hg1, hg2, hg3, hg9, hg11, hg12, hds⟩ := hg
  refine wpC_of_wpx (by kernel_rfl) (by kernel_rfl) (g' := (((((((⟨g.v, []⟩ : Env).upd (some 0) (.slice x0b x0n x0c)).upd (some 1) (.int .u8 x1)).upd (some 2) (.slice x2b x2n x2c)).upd (some 3) (.slice x3b x3n x3c)).upd (some 9) (.slice x9b x9n x9c)).upd (some 11) (.slice x11b x11n x11c)).upd (some 12) (.int .i64 x12)) (by rw [env_ds hds, upd_self hg0, upd_self hg1, upd_self hg2, upd_self hg3, upd_self hg9, upd_self hg11, upd_self hg12]) ?_
  have e : (n14 x0b x0n x0c x1 x2b x2n x2c x3b x3n x3c x9b x9n x9c x11b x11n x11c x12 Kn Ke2 Kr h) = wpx none Try.prog 115 n13_c2 (Q4 Kn Ke2 Kr) ((((((((⟨g.v, []⟩ : Env).upd (some 0) (.slice x0b x0n x0c)).upd (some 1) (.int .u8 x1)).upd (some 2) (.slice x2b x2n x2c)).upd (some 3) (.slice x3b x3n x3c)).upd (some 9) (.slice x9b x9n x9c)).upd (some 11) (.slice x11b x11n x11c)).upd (some 12) (.int .i64 x12)) h := by kernel_rfl
  exact e ▸ hS
noncomputable def n15_c1 : Code := cFst n13_c1
def Q5 (Kn : T6) (Ke3 : T6) (Ke2 : T4) (Kr : T0) : XPost
  | .normal, g, h => D6 Kn g h
  | .ret, g, h => D0 Kr g h
  | .exit id, g, h => cond (Nat.beq id 3) (D6 Ke3 g h) (cond (Nat.beq id 2) (D4 Ke2 g h) (False))
  | _, _, _ => False
noncomputable def n16_c1 : Code := cFst n15_c1
noncomputable def n16_c2 : Code := cSnd n15_c1
abbrev T7 := (Option Addr) → Nat → Nat → Int → (Option Addr) → Nat → Nat → (Option Addr) → Nat → Nat → (Option Addr) → Nat → Nat → (Option Addr) → Nat → Nat → Int → Addr → H → Prop
def E7 (g : Env) (x0b : Option Addr) (x0n : Nat) (x0c : Nat) (x1 : Int) (x2b : Option Addr) (x2n : Nat) (x2c : Nat) (x3b : Option Addr) (x3n : Nat) (x3c : Nat) (x9b : Option Addr) (x9n : Nat) (x9c : Nat) (x11b : Option Addr) (x11n : Nat) (x11c : Nat) (x12 : Int) (x13 : Addr) : Prop := g.v 0 = (.slice x0b x0n x0c) ∧ g.v 1 = (.int .u8 x1) ∧ g.v 2 = (.slice x2b x2n x2c) ∧ g.v 3 = (.slice x3b x3n x3c) ∧ g.v 9 = (.slice x9b x9n x9c) ∧ g.v 11 = (.slice x11b x11n x11c) ∧ g.v 12 = (.int .i64 x12) ∧ g.v 13 = (.pointer (some x13)) ∧ g.ds = []
def D7 (K : T7) (g : Env) (h : H) : Prop := nilDs g.ds (vSlice (g.v 0) fun s172b s172n s172c => vInt .u8 (g.v 1) fun i173 => vSlice (g.v 2) fun s174b s174n s174c => vSlice (g.v 3) fun s175b s175n s175c => vSlice (g.v 9) fun s176b s176n s176c => vSlice (g.v 11) fun s177b s177n s177c => vInt .i64 (g.v 12) fun i178 => vAddr (g.v 13) fun a179 => K s172b s172n s172c i173 s174b s174n s174c s175b s175n s175c s176b s176n s176c s177b s177n s177c i178 a179 h)
theorem D7_ok {K : T7} {g : Env} {h : H} (hq : D7 K g h) : ∃ (x0b : Option Addr) (x0n : Nat) (x0c : Nat) (x1 : Int) (x2b : Option Addr) (x2n : Nat) (x2c : Nat) (x3b : Option Addr) (x3n : Nat) (x3c : Nat) (x9b : Option Addr) (x9n : Nat) (x9c : Nat) (x11b : Option Addr) (x11n : Nat) (x11c : Nat) (x12 : Int) (x13 : Addr), E7 g x0b x0n x0c x1 x2b x2n x2c x3b x3n x3c x9b x9n x9c x11b x11n x11c x12 x13 ∧ K x0b x0n x0c x1 x2b x2n x2c x3b x3n x3c x9b x9n x9c x11b x11n x11c x12 x13 h := by
  obtain ⟨hd, hq⟩ := nilDs_ok hq
  obtain ⟨y181b, y181n, y181c, e180, q182⟩ := vSlice_ok hq
  obtain ⟨y184, e183, q185⟩ := vInt_ok q182
  obtain ⟨y187b, y187n, y187c, e186, q188⟩ := vSlice_ok q185
  obtain ⟨y190b, y190n, y190c, e189, q191⟩ := vSlice_ok q188
  obtain ⟨y193b, y193n, y193c, e192, q194⟩ := vSlice_ok q191
  obtain ⟨y196b, y196n, y196c, e195, q197⟩ := vSlice_ok q194
  obtain ⟨y199, e198, q200⟩ := vInt_ok q197
  obtain ⟨y202, e201, q203⟩ := vAddr_ok q200
  exact ⟨y181b, y181n, y181c, y184, y187b, y187n, y187c, y190b, y190n, y190c, y193b, y193n, y193c, y196b, y196n, y196c, y199, y202, ⟨e180, e183, e186, e189, e192, e195, e198, e201, hd⟩, q203⟩
noncomputable def n17_c1 : Code := cFst n16_c2
noncomputable def n17_c2 : Code := cSnd n16_c2
abbrev n18 (x0b : Option Addr) (x0n : Nat) (x0c : Nat) (x1 : Int) (x2b : Option Addr) (x2n : Nat) (x2c : Nat) (x3b : Option Addr) (x3n : Nat) (x3c : Nat) (x9b : Option Addr) (x9n : Nat) (x9c : Nat) (x11b : Option Addr) (x11n : Nat) (x11c : Nat) (x12 : Int) (x13 : Addr) (Kn : T6) (Ke3 : T6) (Ke2 : T4) (Kr : T0) (h : H) : Prop :=
  ∃ i204, cell h ((x13).add 0) = some (.int .i64 i204) ∧ (∃ i205, cell h ((x13).add 1) = some (.int .u8 i205) ∧ (∃ s206, cell h ((x13).add 2) = some (S s206) ∧ (∃ i207, cell h ((x13).add 3) = some (.int .u8 i207) ∧ (newx h #[(.int .i64 i204), (.int .u8 i205), (S s206), (.int .u8 i207)] 37 fun a208 h209 => SemH Try.prog (Builtin.append_ #[22, 22] 22 ⟨[(.slice x11b x11n x11c), (.slice (some a208) 1 1)]⟩) h209 fun v210 h211 => vSlice v210 fun s212b s212n s212c => Kn x0b x0n x0c x1 x2b x2n x2c x3b x3n x3c x9b x9n x9c s212b s212n s212c x12 h211))))
theorem n18_ok (x0b : Option Addr) (x0n : Nat) (x0c : Nat) (x1 : Int) (x2b : Option Addr) (x2n : Nat) (x2c : Nat) (x3b : Option Addr) (x3n : Nat) (x3c : Nat) (x9b : Option Addr) (x9n : Nat) (x9c : Nat) (x11b : Option Addr) (x11n : Nat) (x11c : Nat) (x12 : Int) (x13 : Addr) (Kn : T6) (Ke3 : T6) (Ke2 : T4) (Kr : T0) (g : Env) (hg : E7 g x0b x0n x0c x1 x2b x2n x2c x3b x3n x3c x9b x9n x9c x11b x11n x11c x12 x13) (h : H) (hS : n18 x0b x0n x0c x1 x2b x2n x2c x3b x3n x3c x9b x9n x9c x11b x11n x11c x12 x13 Kn Ke3 Ke2 Kr h) : wpC none Try.prog 115 n17_c2 (Q5 Kn Ke3 Ke2 Kr) g h := by
  obtain ⟨hg0, hg1, hg2, hg3, hg9, hg11, hg12, hg13, hds⟩ := hg
  refine wpC_of_wpx (by kernel_rfl) (by kernel_rfl) (g' := ((((((((⟨g.v, []⟩ : Env).upd (some 0) (.slice x0b x0n x0c)).upd (some 1) (.int .u8 x1)).upd (some 2) (.slice x2b x2n x2c)).upd (some 3) (.slice x3b x3n x3c)).upd (some 9) (.slice x9b x9n x9c)).upd (some 11) (.slice x11b x11n x11c)).upd (some 12) (.int .i64 x12)).upd (some 13) (.pointer (some x13))) (by rw [env_ds hds, upd_self hg0, upd_self hg1, upd_self hg2, upd_self hg3, upd_self hg9, upd_self hg11, upd_self hg12, upd_self hg13]) ?_
  have e : (n18 x0b x0n x0c x1 x2b x2n x2c x3b x3n x3c x9b x9n x9c x11b x11n x11c x12 x13 Kn Ke3 Ke2 Kr h) = wpx none Try.prog 115 n17_c2 (Q5 Kn Ke3 Ke2 Kr) (((((((((⟨g.v, []⟩ : Env).upd (some 0) (.slice x0b x0n x0c)).upd (some 1) (.int .u8 x1)).upd (some 2) (.slice x2b x2n x2c)).upd (some 3) (.slice x3b x3n x3c)).upd (some 9) (.slice x9b x9n x9c)).upd (some 11) (.slice x11b x11n x11c)).upd (some 12) (.int .i64 x12)).upd (some 13) (.pointer (some x13))) h := by kernel_rfl
  exact e ▸ hS
def Q6 (Kn : T7) (Ke3 : T6) (Ke2 : T4) (Kr : T0) : XPost
  | .normal, g, h => D7 Kn g h
  | .ret, g, h => D0 Kr g h
  | .exit id, g, h => cond (Nat.beq id 3) (D6 Ke3 g h) (cond (Nat.beq id 2) (D4 Ke2 g h) (False))
  | _, _, _ => False
noncomputable def n19_c1 : Code := cFst n17_c1
noncomputable def n19_c2 : Code := cSnd n17_c1
abbrev T8 := (Option Addr) → Nat → Nat → Int → (Option Addr) → Nat → Nat → (Option Addr) → Nat → Nat → (Option Addr) → Nat → Nat → (Option Addr) → Nat → Nat → Int → Addr → Bool → H → Prop
def E8 (g : Env) (x0b : Option Addr) (x0n : Nat) (x0c : Nat) (x1 : Int) (x2b : Option Addr) (x2n : Nat) (x2c : Nat) (x3b : Option Addr) (x3n : Nat) (x3c : Nat) (x9b : Option Addr) (x9n : Nat) (x9c : Nat) (x11b : Option Addr) (x11n : Nat) (x11c : Nat) (x12 : Int) (x13 : Addr) (x55 : Bool) : Prop := g.v 0 = (.slice x0b x0n x0c) ∧ g.v 1 = (.int .u8 x1) ∧ g.v 2 = (.slice x2b x2n x2c) ∧ g.v 3 = (.slice x3b x3n x3c) ∧ g.v 9 = (.slice x9b x9n x9c) ∧ g.v 11 = (.slice x11b x11n x11c) ∧ g.v 12 = (.int .i64 x12) ∧ g.v 13 = (.pointer (some x13)) ∧ g.v 55 = (.bool x55) ∧ g.ds = []
def D8 (K : T8) (g : Env) (h : H) : Prop := nilDs g.ds (vSlice (g.v 0) fun s213b s213n s213c => vInt .u8 (g.v 1) fun i214 => vSlice (g.v 2) fun s215b s215n s215c => vSlice (g.v 3) fun s216b s216n s216c => vSlice (g.v 9) fun s217b s217n s217c => vSlice (g.v 11) fun s218b s218n s218c => vInt .i64 (g.v 12) fun i219 => vAddr (g.v 13) fun a220 => vBool (g.v 55) fun b221 => K s213b s213n s213c i214 s215b s215n s215c s216b s216n s216c s217b s217n s217c s218b s218n s218c i219 a220 b221 h)
theorem D8_ok {K : T8} {g : Env} {h : H} (hq : D8 K g h) : ∃ (x0b : Option Addr) (x0n : Nat) (x0c : Nat) (x1 : Int) (x2b : Option Addr) (x2n : Nat) (x2c : Nat) (x3b : Option Addr) (x3n : Nat) (x3c : Nat) (x9b : Option Addr) (x9n : Nat) (x9c : Nat) (x11b : Option Addr) (x11n : Nat) (x11c : Nat) (x12 : Int) (x13 : Addr) (x55 : Bool), E8 g x0b x0n x0c x1 x2b x2n x2c x3b x3n x3c x9b x9n x9c x11b x11n x11c x12 x13 x55 ∧ K x0b x0n x0c x1 x2b x2n x2c x3b x3n x3c x9b x9n x9c x11b x11n x11c x12 x13 x55 h := by
  obtain ⟨hd, hq⟩ := nilDs_ok hq
  obtain ⟨y223b, y223n, y223c, e222, q224⟩ := vSlice_ok hq
  obtain ⟨y226, e225, q227⟩ := vInt_ok q224
  obtain ⟨y229b, y229n, y229c, e228, q230⟩ := vSlice_ok q227
  obtain ⟨y232b, y232n, y232c, e231, q233⟩ := vSlice_ok q230
  obtain ⟨y235b, y235n, y235c, e234, q236⟩ := vSlice_ok q233
  obtain ⟨y238b, y238n, y238c, e237, q239⟩ := vSlice_ok q236
  obtain ⟨y241, e240, q242⟩ := vInt_ok q239
  obtain ⟨y244, e243, q245⟩ := vAddr_ok q242
  obtain ⟨y247, e246, q248⟩ := vBool_ok q245
  exact ⟨y223b, y223n, y223c, y226, y229b, y229n, y229c, y232b, y232n, y232c, y235b, y235n, y235c, y238b, y238n, y238c, y241, y244, y247, ⟨e222, e225, e228, e231, e234, e237, e240, e243, e246, hd⟩, q248⟩
abbrev n20 (x0b : Option Addr) (x0n : Nat) (x0c : Nat) (x1 : Int) (x2b : Option Addr) (x2n : Nat) (x2c : Nat) (x3b : Option Addr) (x3n : Nat) (x3c : Nat) (x9b : Option Addr) (x9n : Nat) (x9c : Nat) (x11b : Option Addr) (x11n : Nat) (x11c : Nat) (x12 : Int) (x13 : Addr) (x55 : Bool) (Kn : T7) (Ke3 : T6) (Ke2 : T4) (Kr : T0) (h : H) : Prop :=
  cond x55 ((0 ≤ x12 ∧ x12 < (x3n : Int)) ∧ (vSome x3b fun a249 => ∃ i250, cell h (a249.add (Int.toNat x12 * 1)) = some (.int .i64 i250) ∧ (stL (x13.add 0) [(.int .i64 i250)] 0 h fun h251 => (0 ≤ x12 ∧ x12 < (x3n : Int)) ∧ (vSome x3b fun a252 => ∃ i253, cell h251 (a252.add (Int.toNat x12 * 1)) = some (.int .i64 i253) ∧ (stL (x13.add 3) [(.int .u8 (IntKind.wrap .u8 i253))] 0 h251 fun h254 => Kn x0b x0n x0c x1 x2b x2n x2c x3b x3n x3c x9b x9n x9c x11b x11n x11c x12 x13 h254))))) (Kn x0b x0n x0c x1 x2b x2n x2c x3b x3n x3c x9b x9n x9c x11b x11n x11c x12 x13 h)
theorem n20_ok (x0b : Option Addr) (x0n : Nat) (x0c : Nat) (x1 : Int) (x2b : Option Addr) (x2n : Nat) (x2c : Nat) (x3b : Option Addr) (x3n : Nat) (x3c : Nat) (x9b : Option Addr) (x9n : Nat) (x9c : Nat) (x11b : Option Addr) (x11n : Nat) (x11c : Nat) (x12 : Int) (x13 : Addr) (x55 : Bool) (Kn : T7) (Ke3 : T6) (Ke2 : T4) (Kr : T0) (g : Env) (hg : E8 g x0b x0n x0c x1 x2b x2n x2c x3b x3n x3c x9b x9n x9c x11b x11n x11c x12 x13 x55) (h : H) (hS : n20 x0b x0n x0c x1 x2b x2n x2c x3b x3n x3c x9b x9n x9c x11b x11n x11c x12 x13 x55 Kn Ke3 Ke2 Kr h) : wpC none Try.prog 115 n19_c2 (Q6 Kn Ke3 Ke2 Kr) g h := by
  obtain ⟨hg0, hg1, hg2, hg3, hg9, hg11, hg12, hg13, hg55, hds⟩ := hg
  refine wpC_of_wpx (by kernel_rfl) (by kernel_rfl) (g' := (((((((((⟨g.v, []⟩ : Env).upd (some 0) (.slice x0b x0n x0c)).upd (some 1) (.int .u8 x1)).upd (some 2) (.slice x2b x2n x2c)).upd (some 3) (.slice x3b x3n x3c)).upd (some 9) (.slice x9b x9n x9c)).upd (some 11) (.slice x11b x11n x11c)).upd (some 12) (.int .i64 x12)).upd (some 13) (.pointer (some x13))).upd (some 55) (.bool x55)) (by rw [env_ds hds, upd_self hg0, upd_self hg1, upd_self hg2, upd_self hg3, upd_self hg9, upd_self hg11, upd_self hg12, upd_self hg13, upd_self hg55]) ?_
  have e : (n20 x0b x0n x0c x1 x2b x2n x2c x3b x3n x3c x9b x9n x9c x11b x11n x11c x12 x13 x55 Kn Ke3 Ke2 Kr h) = wpx none Try.prog 115 n19_c2 (Q6 Kn Ke3 Ke2 Kr) ((((((((((⟨g.v, []⟩ : Env).upd (some 0) (.slice x0b x0n x0c)).upd (some 1) (.int .u8 x1)).upd (some 2) (.slice x2b x2n x2c)).upd (some 3) (.slice x3b x3n x3c)).upd (some 9) (.slice x9b x9n x9c)).upd (some 11) (.slice x11b x11n x11c)).upd (some 12) (.int .i64 x12)).upd (some 13) (.pointer (some x13))).upd (some 55) (.bool x55)) h := by kernel_rfl
  exact e ▸ hS
def Q7 (Kn : T8) (Ke3 : T6) (Ke2 : T4) (Kr : T0) : XPost
  | .normal, g, h => D8 Kn g h
  | .ret, g, h => D0 Kr g h
  | .exit id, g, h => cond (Nat.beq id 3) (D6 Ke3 g h) (cond (Nat.beq id 2) (D4 Ke2 g h) (False))
  | _, _, _ => False
abbrev n19 (x0b : Option Addr) (x0n : Nat) (x0c : Nat) (x1 : Int) (x2b : Option Addr) (x2n : Nat) (x2c : Nat) (x3b : Option Addr) (x3n : Nat) (x3c : Nat) (x9b : Option Addr) (x9n : Nat) (x9c : Nat) (x11b : Option Addr) (x11n : Nat) (x11c : Nat) (x12 : Int) (x13 : Addr) (Kn : T7) (Ke3 : T6) (Ke2 : T4) (Kr : T0) (h : H) : Prop :=
  Spl (x12 < (x3n : Int)) (n20 x0b x0n x0c x1 x2b x2n x2c x3b x3n x3c x9b x9n x9c x11b x11n x11c x12 x13 true Kn Ke3 Ke2 Kr h) (n20 x0b x0n x0c x1 x2b x2n x2c x3b x3n x3c x9b x9n x9c x11b x11n x11c x12 x13 false Kn Ke3 Ke2 Kr h)
theorem n19_ok (x0b : Option Addr) (x0n : Nat) (x0c : Nat) (x1 : Int) (x2b : Option Addr) (x2n : Nat) (x2c : Nat) (x3b : Option Addr) (x3n : Nat) (x3c : Nat) (x9b : Option Addr) (x9n : Nat) (x9c : Nat) (x11b : Option Addr) (x11n : Nat) (x11c : Nat) (x12 : Int) (x13 : Addr) (Kn : T7) (Ke3 : T6) (Ke2 : T4) (Kr : T0) (g : Env) (hg : E7 g x0b x0n x0c x1 x2b x2n x2c x3b x3n x3c x9b x9n x9c x11b x11n x11c x12 x13) (h : H) (hS : n19 x0b x0n x0c x1 x2b x2n x2c x3b x3n x3c x9b x9n x9c x11b x11n x11c x12 x13 Kn Ke3 Ke2 Kr h) : wpC none Try.prog 115 n17_c1 (Q6 Kn Ke3 Ke2 Kr) g h := by
  obtain ⟨hg0, hg1, hg2, hg3, hg9, hg11, hg12, hg13, hds⟩ := hg
  refine wpC_seq' (x := n19_c1) (y := n19_c2) (Q' := (Q7 (fun z0b z0n z0c z1 z2b z2n z2c z3b z3n z3c z9b z9n z9c z11b z11n z11c z12 z13 z55 h => n20 z0b z0n z0c z1 z2b z2n z2c z3b z3n z3c z9b z9n z9c z11b z11n z11c z12 z13 z55 Kn Ke3 Ke2 Kr h) Ke3 Ke2 Kr)) (by kernel_rfl) ?_ ?_
  · refine wpC_of_wpx (by kernel_rfl) (by kernel_rfl) (g' := ((((((((⟨g.v, []⟩ : Env).upd (some 0) (.slice x0b x0n x0c)).upd (some 1) (.int .u8 x1)).upd (some 2) (.slice x2b x2n x2c)).upd (some 3) (.slice x3b x3n x3c)).upd (some 9) (.slice x9b x9n x9c)).upd (some 11) (.slice x11b x11n x11c)).upd (some 12) (.int .i64 x12)).upd (some 13) (.pointer (some x13))) (by rw [env_ds hds, upd_self hg0, upd_self hg1, upd_self hg2, upd_self hg3, upd_self hg9, upd_self hg11, upd_self hg12, upd_self hg13]) ?_
    have e : (n19 x0b x0n x0c x1 x2b x2n x2c x3b x3n x3c x9b x9n x9c x11b x11n x11c x12 x13 Kn Ke3 Ke2 Kr h) = wpx none Try.prog 115 n19_c1 (Q7 (fun z0b z0n z0c z1 z2b z2n z2c z3b z3n z3c z9b z9n z9c z11b z11n z11c z12 z13 z55 h => n20 z0b z0n z0c z1 z2b z2n z2c z3b z3n z3c z9b z9n z9c z11b z11n z11c z12 z13 z55 Kn Ke3 Ke2 Kr h) Ke3 Ke2 Kr) (((((((((⟨g.v, []⟩ : Env).upd (some 0) (.slice x0b x0n x0c)).upd (some 1) (.int .u8 x1)).upd (some 2) (.slice x2b x2n x2c)).upd (some 3) (.slice x3b x3n x3c)).upd (some 9) (.slice x9b x9n x9c)).upd (some 11) (.slice x11b x11n x11c)).upd (some 12) (.int .i64 x12)).upd (some 13) (.pointer (some x13))) h := by kernel_rfl
    exact e ▸ hS
  · intro e g' h' hq
    cases e with
    | normal =>
      have hq : D8 (fun z0b z0n z0c z1 z2b z2n z2c z3b z3n z3c z9b z9n z9c z11b z11n z11c z12 z13 z55 h => n20 z0b z0n z0c z1 z2b z2n z2c z3b z3n z3c z9b z9n z9c z11b z11n z11c z12 z13 z55 Kn Ke3 Ke2 Kr h) g' h' := hq
      obtain ⟨y0b, y0n, y0c, y1, y2b, y2n, y2c, y3b, y3n, y3c, y9b, y9n, y9c, y11b, y11n, y11c, y12, y13, y55, hg', hq⟩ := D8_ok hq
      exact n20_ok y0b y0n y0c y1 y2b y2n y2c y3b y3n y3c y9b y9n y9c y11b y11n y11c y12 y13 y55 Kn Ke3 Ke2 Kr g' hg' h' hq
    | _ => exact hq
abbrev n17 (x0b : Option Addr) (x0n : Nat) (x0c : Nat) (x1 : Int) (x2b : Option Addr) (x2n : Nat) (x2c : Nat) (x3b : Option Addr) (x3n : Nat) (x3c : Nat) (x9b : Option Addr) (x9n : Nat) (x9c : Nat) (x11b : Option Addr) (x11n : Nat) (x11c : Nat) (x12 : Int) (x13 : Addr) (Kn : T6) (Ke3 : T6) (Ke2 : T4) (Kr : T0) (h : H) : Prop := n19 x0b x0n x0c x1 x2b x2n x2c x3b x3n x3c x9b x9n x9c x11b x11n x11c x12 x13 (fun z0b z0n z0c z1 z2b z2n z2c z3b z3n z3c z9b z9n z9c z11b z11n z11c z12 z13 h => n18 z0b z0n z0c z1 z2b z2n z2c z3b z3n z3c z9b z9n z9c z11b z11n z11c z12 z13 Kn Ke3 Ke2 Kr h) Ke3 Ke2 Kr h
theorem n17_ok (x0b : Option Addr) (x0n : Nat) (x0c : Nat) (x1 : Int) (x2b : Option Addr) (x2n : Nat) (x2c : Nat) (x3b : Option Addr) (x3n : Nat) (x3c : Nat) (x9b : Option Addr) (x9n : Nat) (x9c : Nat) (x11b : Option Addr) (x11n : Nat) (x11c : Nat) (x12 : Int) (x13 : Addr) (Kn : T6) (Ke3 : T6) (Ke2 : T4) (Kr : T0) (g : Env) (hg : E7 g x0b x0n x0c x1 x2b x2n x2c x3b x3n x3c x9b x9n x9c x11b x11n x11c x12 x13) (h : H) (hS : n17 x0b x0n x0c x1 x2b x2n x2c x3b x3n x3c x9b x9n x9c x11b x11n x11c x12 x13 Kn Ke3 Ke2 Kr h) : wpC none Try.prog 115 n16_c2 (Q5 Kn Ke3 Ke2 Kr) g h := by
  refine wpC_seq' (x := n17_c1) (y := n17_c2) (by kernel_rfl) (n19_ok x0b x0n x0c x1 x2b x2n x2c x3b x3n x3c x9b x9n x9c x11b x11n x11c x12 x13 (fun z0b z0n z0c z1 z2b z2n z2c z3b z3n z3c z9b z9n z9c z11b z11n z11c z12 z13 h => n18 z0b z0n z0c z1 z2b z2n z2c z3b z3n z3c z9b z9n z9c z11b z11n z11c z12 z13 Kn Ke3 Ke2 Kr h) Ke3 Ke2 Kr g hg h hS) ?_
  intro e g' h' hq
  cases e with
  | normal =>
    have hq : D7 (fun z0b z0n z0c z1 z2b z2n z2c z3b z3n z3c z9b z9n z9c z11b z11n z11c z12 z13 h => n18 z0b z0n z0c z1 z2b z2n z2c z3b z3n z3c z9b z9n z9c z11b z11n z11c z12 z13 Kn Ke3 Ke2 Kr h) g' h' := hq
    obtain ⟨y0b, y0n, y0c, y1, y2b, y2n, y2c, y3b, y3n, y3c, y9b, y9n, y9c, y11b, y11n, y11c, y12, y13, hg', hq⟩ := D7_ok hq
    exact n18_ok y0b y0n y0c y1 y2b y2n y2c y3b y3n y3c y9b y9n y9c y11b y11n y11c y12 y13 Kn Ke3 Ke2 Kr g' hg' h' hq
  | _ => exact hq
abbrev n16 (x0b : Option Addr) (x0n : Nat) (x0c : Nat) (x1 : Int) (x2b : Option Addr) (x2n : Nat) (x2c : Nat) (x3b : Option Addr) (x3n : Nat) (x3c : Nat) (x9b : Option Addr) (x9n : Nat) (x9c : Nat) (x11b : Option Addr) (x11n : Nat) (x11c : Nat) (x12 : Int) (Kn : T6) (Ke3 : T6) (Ke2 : T4) (Kr : T0) (h : H) : Prop :=
  (0 ≤ x12 ∧ x12 < (x0n : Int)) ∧ (vSome x0b fun a255 => ∃ i256, cell h (((a255.add (Int.toNat x12 * 4))).add 0) = some (.int .i64 i256) ∧ (∃ i257, cell h (((a255.add (Int.toNat x12 * 4))).add 1) = some (.int .u8 i257) ∧ (∃ s258, cell h (((a255.add (Int.toNat x12 * 4))).add 2) = some (S s258) ∧ (∃ i259, cell h (((a255.add (Int.toNat x12 * 4))).add 3) = some (.int .u8 i259) ∧ (newx h ⟨[(.int .i64 (0 : Int)), (.int .u8 (0 : Int)), (S ([] : List UInt8)), (.int .u8 (0 : Int))]⟩ 37 fun a260 h261 => stL a260 [(.int .i64 i256), (.int .u8 i257), (S s258), (.int .u8 i259)] 0 h261 fun h262 => n17 x0b x0n x0c x1 x2b x2n x2c x3b x3n x3c x9b x9n x9c x11b x11n x11c x12 a260 Kn Ke3 Ke2 Kr h262)))))
theorem n16_ok (x0b : Option Addr) (x0n : Nat) (x0c : Nat) (x1 : Int) (x2b : Option Addr) (x2n : Nat) (x2c : Nat) (x3b : Option Addr) (x3n : Nat) (x3c : Nat) (x9b : Option Addr) (x9n : Nat) (x9c : Nat) (x11b : Option Addr) (x11n : Nat) (x11c : Nat) (x12 : Int) (Kn : T6) (Ke3 : T6) (Ke2 : T4) (Kr : T0) (g : Env) (hg : E6 g x0b x0n x0c x1 x2b x2n x2c x3b x3n x3c x9b x9n x9c x11b x11n x11c x12) (h : H) (hS : n16 x0b x0n x0c x1 x2b x2n x2c x3b x3n x3c x9b x9n x9c x11b x11n x11c x12 Kn Ke3 Ke2 Kr h) : wpC none Try.prog 115 n15_c1 (Q5 Kn Ke3 Ke2 Kr) g h := by
  obtain ⟨hg0, hg1, hg2, hg3, hg9, hg11, hg12, hds⟩ := hg
  refine wpC_seq' (x := n16_c1) (y := n16_c2) (Q' := (Q6 (fun z0b z0n z0c z1 z2b z2n z2c z3b z3n z3c z9b z9n z9c z11b z11n z11c z12 z13 h => n17 z0b z0n z0c z1 z2b z2n z2c z3b z3n z3c z9b z9n z9c z11b z11n z11c z12 z13 Kn Ke3 Ke2 Kr h) Ke3 Ke2 Kr)) (by kernel_rfl) ?_ ?_
  · refine wpC_of_wpx (by kernel_rfl) (by kernel_rfl) (g' := (((((((⟨g.v, []⟩ : Env).upd (some 0) (.slice x0b x0n x0c)).upd (some 1) (.int .u8 x1)).upd (some 2) (.slice x2b x2n x2c)).upd (some 3) (.slice x3b x3n x3c)).upd (some 9) (.slice x9b x9n x9c)).upd (some 11) (.slice x11b x11n x11c)).upd (some 12) (.int .i64 x12)) (by rw [env_ds hds, upd_self hg0, upd_self hg1, upd_self hg2, upd_self hg3, upd_self hg9, upd_self hg11, upd_self hg12]) ?_
    have e : (n16 x0b x0n x0c x1 x2b x2n x2c x3b x3n x3c x9b x9n x9c x11b x11n x11c x12 Kn Ke3 Ke2 Kr h) = wpx none Try.prog 115 n16_c1 (Q6 (fun z0b z0n z0c z1 z2b z2n z2c z3b z3n z3c z9b z9n z9c z11b z11n z11c z12 z13 h => n17 z0b z0n z0c z1 z2b z2n z2c z3b z3n z3c z9b z9n z9c z11b z11n z11c z12 z13 Kn Ke3 Ke2 Kr h) Ke3 Ke2 Kr) ((((((((⟨g.v, []⟩ : Env).upd (some 0) (.slice x0b x0n x0c)).upd (some 1) (.int .u8 x1)).upd (some 2) (.slice x2b x2n x2c)).upd (some 3) (.slice x3b x3n x3c)).upd (some 9) (.slice x9b x9n x9c)).upd (some 11) (.slice x11b x11n x11c)).upd (some 12) (.int .i64 x12)) h := by kernel_rfl
    exact e ▸ hS
  · intro e g' h' hq
    cases e with
    | normal =>
      have hq : D7 (fun z0b z0n z0c z1 z2b z2n z2c z3b z3n z3c z9b z9n z9c z11b z11n z11c z12 z13 h => n17 z0b z0n z0c z1 z2b z2n z2c z3b z3n z3c z9b z9n z9c z11b z11n z11c z12 z13 Kn Ke3 Ke2 Kr h) g' h' := hq
      obtain ⟨y0b, y0n, y0c, y1, y2b, y2n, y2c, y3b, y3n, y3c, y9b, y9n, y9c, y11b, y11n, y11c, y12, y13, hg', hq⟩ := D7_ok hq
      exact n17_ok y0b y0n y0c y1 y2b y2n y2c y3b y3n y3c y9b y9n y9c y11b y11n y11c y12 y13 Kn Ke3 Ke2 Kr g' hg' h' hq
    | _ => exact hq
abbrev n15 (x0b : Option Addr) (x0n : Nat) (x0c : Nat) (x1 : Int) (x2b : Option Addr) (x2n : Nat) (x2c : Nat) (x3b : Option Addr) (x3n : Nat) (x3c : Nat) (x9b : Option Addr) (x9n : Nat) (x9c : Nat) (x11b : Option Addr) (x11n : Nat) (x11c : Nat) (x12 : Int) (Kn : T6) (Ke2 : T4) (Kr : T0) (h : H) : Prop := n16 x0b x0n x0c x1 x2b x2n x2c x3b x3n x3c x9b x9n x9c x11b x11n x11c x12 Kn Kn Ke2 Kr h
theorem n15_ok (x0b : Option Addr) (x0n : Nat) (x0c : Nat) (x1 : Int) (x2b : Option Addr) (x2n : Nat) (x2c : Nat) (x3b : Option Addr) (x3n : Nat) (x3c : Nat) (x9b : Option Addr) (x9n : Nat) (x9c : Nat) (x11b : Option Addr) (x11n : Nat) (x11c : Nat) (x12 : Int) (Kn : T6) (Ke2 : T4) (Kr : T0) (g : Env) (hg : E6 g x0b x0n x0c x1 x2b x2n x2c x3b x3n x3c x9b x9n x9c x11b x11n x11c x12) (h : H) (hS : n15 x0b x0n x0c x1 x2b x2n x2c x3b x3n x3c x9b x9n x9c x11b x11n x11c x12 Kn Ke2 Kr h) : wpC none Try.prog 115 n13_c1 (Q4 Kn Ke2 Kr) g h := by
  refine wpC_block' (id := 3) (x := n15_c1) (by kernel_rfl) (n16_ok x0b x0n x0c x1 x2b x2n x2c x3b x3n x3c x9b x9n x9c x11b x11n x11c x12 Kn Kn Ke2 Kr g hg h hS) ?_
  intro e g' h' hq
  cases e <;> exact hq
abbrev n13 (x0b : Option Addr) (x0n : Nat) (x0c : Nat) (x1 : Int) (x2b : Option Addr) (x2n : Nat) (x2c : Nat) (x3b : Option Addr) (x3n : Nat) (x3c : Nat) (x9b : Option Addr) (x9n : Nat) (x9c : Nat) (x11b : Option Addr) (x11n : Nat) (x11c : Nat) (x12 : Int) (Kn : T6) (Ke2 : T4) (Kr : T0) (h : H) : Prop := n15 x0b x0n x0c x1 x2b x2n x2c x3b x3n x3c x9b x9n x9c x11b x11n x11c x12 (fun z0b z0n z0c z1 z2b z2n z2c z3b z3n z3c z9b z9n z9c z11b z11n z11c z12 h => n14 z0b z0n z0c z1 z2b z2n z2c z3b z3n z3c z9b z9n z9c z11b z11n z11c z12 Kn Ke2 Kr h) Ke2 Kr h
theorem n13_ok (x0b : Option Addr) (x0n : Nat) (x0c : Nat) (x1 : Int) (x2b : Option Addr) (x2n : Nat) (x2c : Nat) (x3b : Option Addr) (x3n : Nat) (x3c : Nat) (x9b : Option Addr) (x9n : Nat) (x9c : Nat) (x11b : Option Addr) (x11n : Nat) (x11c : Nat) (x12 : Int) (Kn : T6) (Ke2 : T4) (Kr : T0) (g : Env) (hg : E6 g x0b x0n x0c x1 x2b x2n x2c x3b x3n x3c x9b x9n x9c x11b x11n x11c x12) (h : H) (hS : n13 x0b x0n x0c x1 x2b x2n x2c x3b x3n x3c x9b x9n x9c x11b x11n x11c x12 Kn Ke2 Kr h) : wpC none Try.prog 115 n12_c2 (Q4 Kn Ke2 Kr) g h := by
  refine wpC_seq' (x := n13_c1) (y := n13_c2) (by kernel_rfl) (n15_ok x0b x0n x0c x1 x2b x2n x2c x3b x3n x3c x9b x9n x9c x11b x11n x11c x12 (fun z0b z0n z0c z1 z2b z2n z2c z3b z3n z3c z9b z9n z9c z11b z11n z11c z12 h => n14 z0b z0n z0c z1 z2b z2n z2c z3b z3n z3c z9b z9n z9c z11b z11n z11c z12 Kn Ke2 Kr h) Ke2 Kr g hg h hS) ?_
  intro e g' h' hq
  cases e with
  | normal =>
    have hq : D6 (fun z0b z0n z0c z1 z2b z2n z2c z3b z3n z3c z9b z9n z9c z11b z11n z11c z12 h => n14 z0b z0n z0c z1 z2b z2n z2c z3b z3n z3c z9b z9n z9c z11b z11n z11c z12 Kn Ke2 Kr h) g' h' := hq
    obtain ⟨y0b, y0n, y0c, y1, y2b, y2n, y2c, y3b, y3n, y3c, y9b, y9n, y9c, y11b, y11n, y11c, y12, hg', hq⟩ := D6_ok hq
    exact n14_ok y0b y0n y0c y1 y2b y2n y2c y3b y3n y3c y9b y9n y9c y11b y11n y11c y12 Kn Ke2 Kr g' hg' h' hq
  | _ => exact hq
abbrev n12 (x0b : Option Addr) (x0n : Nat) (x0c : Nat) (x1 : Int) (x2b : Option Addr) (x2n : Nat) (x2c : Nat) (x3b : Option Addr) (x3n : Nat) (x3c : Nat) (x9b : Option Addr) (x9n : Nat) (x9c : Nat) (x11b : Option Addr) (x11n : Nat) (x11c : Nat) (x12 : Int) (Kn : T6) (Ke2 : T4) (Kr : T0) (h : H) : Prop :=
  Spl (x12 < (x0n : Int)) (n13 x0b x0n x0c x1 x2b x2n x2c x3b x3n x3c x9b x9n x9c x11b x11n x11c x12 Kn Ke2 Kr h) (Ke2 x0b x0n x0c x1 x2b x2n x2c x9b x9n x9c x11b x11n x11c h)
theorem n12_ok (x0b : Option Addr) (x0n : Nat) (x0c : Nat) (x1 : Int) (x2b : Option Addr) (x2n : Nat) (x2c : Nat) (x3b : Option Addr) (x3n : Nat) (x3c : Nat) (x9b : Option Addr) (x9n : Nat) (x9c : Nat) (x11b : Option Addr) (x11n : Nat) (x11c : Nat) (x12 : Int) (Kn : T6) (Ke2 : T4) (Kr : T0) (g : Env) (hg : E6 g x0b x0n x0c x1 x2b x2n x2c x3b x3n x3c x9b x9n x9c x11b x11n x11c x12) (h : H) (hS : n12 x0b x0n x0c x1 x2b x2n x2c x3b x3n x3c x9b x9n x9c x11b x11n x11c x12 Kn Ke2 Kr h) : wpC none Try.prog 115 n11_c1 (Q4 Kn Ke2 Kr) g h := by
  obtain ⟨hg0, hg1, hg2, hg3, hg9, hg11, hg12, hds⟩ := hg
  refine wpC_seq' (x := n12_c1) (y := n12_c2) (Q' := (Q4 (fun z0b z0n z0c z1 z2b z2n z2c z3b z3n z3c z9b z9n z9c z11b z11n z11c z12 h => n13 z0b z0n z0c z1 z2b z2n z2c z3b z3n z3c z9b z9n z9c z11b z11n z11c z12 Kn Ke2 Kr h) Ke2 Kr)) (by kernel_rfl) ?_ ?_
  · refine wpC_of_wpx (by kernel_rfl) (by kernel_rfl) (g' := (((((((⟨g.v, []⟩ : Env).upd (some 0) (.slice x0b x0n x0c)).upd (some 1) (.int .u8 x1)).upd (some 2) (.slice x2b x2n x2c)).upd (some 3) (.slice x3b x3n x3c)).upd (some 9) (.slice x9b x9n x9c)).upd (some 11) (.slice x11b x11n x11c)).upd (some 12) (.int .i64 x12)) (by rw [env_ds hds, upd_self hg0, upd_self hg1, upd_self hg2, upd_self hg3, upd_self hg9, upd_self hg11, upd_self hg12]) ?_
    have e : (n12 x0b x0n x0c x1 x2b x2n x2c x3b x3n x3c x9b x9n x9c x11b x11n x11c x12 Kn Ke2 Kr h) = wpx none Try.prog 115 n12_c1 (Q4 (fun z0b z0n z0c z1 z2b z2n z2c z3b z3n z3c z9b z9n z9c z11b z11n z11c z12 h => n13 z0b z0n z0c z1 z2b z2n z2c z3b z3n z3c z9b z9n z9c z11b z11n z11c z12 Kn Ke2 Kr h) Ke2 Kr) ((((((((⟨g.v, []⟩ : Env).upd (some 0) (.slice x0b x0n x0c)).upd (some 1) (.int .u8 x1)).upd (some 2) (.slice x2b x2n x2c)).upd (some 3) (.slice x3b x3n x3c)).upd (some 9) (.slice x9b x9n x9c)).upd (some 11) (.slice x11b x11n x11c)).upd (some 12) (.int .i64 x12)) h := by kernel_rfl
    exact e ▸ hS
  · intro e g' h' hq
    cases e with
    | normal =>
      have hq : D6 (fun z0b z0n z0c z1 z2b z2n z2c z3b z3n z3c z9b z9n z9c z11b z11n z11c z12 h => n13 z0b z0n z0c z1 z2b z2n z2c z3b z3n z3c z9b z9n z9c z11b z11n z11c z12 Kn Ke2 Kr h) g' h' := hq
      obtain ⟨y0b, y0n, y0c, y1, y2b, y2n, y2c, y3b, y3n, y3c, y9b, y9n, y9c, y11b, y11n, y11c, y12, hg', hq⟩ := D6_ok hq
      exact n13_ok y0b y0n y0c y1 y2b y2n y2c y3b y3n y3c y9b y9n y9c y11b y11n y11c y12 Kn Ke2 Kr g' hg' h' hq
    | _ => exact hq
def n11_L (Kn : T4) (Ke2 : T4) (Kr : T0) : Nat → (Option Addr) → Nat → Nat → Int → (Option Addr) → Nat → Nat → (Option Addr) → Nat → Nat → (Option Addr) → Nat → Nat → (Option Addr) → Nat → Nat → Int → H → Prop
  | 0 => fun _ _ _ _ _ _ _ _ _ _ _ _ _ _ _ _ _ _ => False
  | N + 1 => fun x0b x0n x0c x1 x2b x2n x2c x3b x3n x3c x9b x9n x9c x11b x11n x11c x12 h => n12 x0b x0n x0c x1 x2b x2n x2c x3b x3n x3c x9b x9n x9c x11b x11n x11c x12 (fun z0b z0n z0c z1 z2b z2n z2c z3b z3n z3c z9b z9n z9c z11b z11n z11c z12 h => n11_L Kn Ke2 Kr N z0b z0n z0c z1 z2b z2n z2c z3b z3n z3c z9b z9n z9c z11b z11n z11c z12 h) Ke2 Kr h
abbrev n11 (x0b : Option Addr) (x0n : Nat) (x0c : Nat) (x1 : Int) (x2b : Option Addr) (x2n : Nat) (x2c : Nat) (x3b : Option Addr) (x3n : Nat) (x3c : Nat) (x9b : Option Addr) (x9n : Nat) (x9c : Nat) (x11b : Option Addr) (x11n : Nat) (x11c : Nat) (x12 : Int) (Kn : T4) (Ke2 : T4) (Kr : T0) (h : H) : Prop := ∃ N, n11_L Kn Ke2 Kr N x0b x0n x0c x1 x2b x2n x2c x3b x3n x3c x9b x9n x9c x11b x11n x11c x12 h
theorem n11_ok (x0b : Option Addr) (x0n : Nat) (x0c : Nat) (x1 : Int) (x2b : Option Addr) (x2n : Nat) (x2c : Nat) (x3b : Option Addr) (x3n : Nat) (x3c : Nat) (x9b : Option Addr) (x9n : Nat) (x9c : Nat) (x11b : Option Addr) (x11n : Nat) (x11c : Nat) (x12 : Int) (Kn : T4) (Ke2 : T4) (Kr : T0) (g : Env) (hg : E6 g x0b x0n x0c x1 x2b x2n x2c x3b x3n x3c x9b x9n x9c x11b x11n x11c x12) (h : H) (hS : n11 x0b x0n x0c x1 x2b x2n x2c x3b x3n x3c x9b x9n x9c x11b x11n x11c x12 Kn Ke2 Kr h) : wpC none Try.prog 115 n10_c1 (Q3 Kn Ke2 Kr) g h := by
  obtain ⟨N0, hS⟩ := hS
  refine wpC_loop' (x := n11_c1) (by kernel_rfl) (fun k g h => ∃ (x0b : Option Addr) (x0n : Nat) (x0c : Nat) (x1 : Int) (x2b : Option Addr) (x2n : Nat) (x2c : Nat) (x3b : Option Addr) (x3n : Nat) (x3c : Nat) (x9b : Option Addr) (x9n : Nat) (x9c : Nat) (x11b : Option Addr) (x11n : Nat) (x11c : Nat) (x12 : Int), E6 g x0b x0n x0c x1 x2b x2n x2c x3b x3n x3c x9b x9n x9c x11b x11n x11c x12 ∧ n11_L Kn Ke2 Kr k x0b x0n x0c x1 x2b x2n x2c x3b x3n x3c x9b x9n x9c x11b x11n x11c x12 h) (fun g h hr => ?_) (fun N g h hr => ?_) N0 ⟨x0b, x0n, x0c, x1, x2b, x2n, x2c, x3b, x3n, x3c, x9b, x9n, x9c, x11b, x11n, x11c, x12, hg, hS⟩
  · obtain ⟨x0b, x0n, x0c, x1, x2b, x2n, x2c, x3b, x3n, x3c, x9b, x9n, x9c, x11b, x11n, x11c, x12, hg, hS⟩ := hr
    exact hS.elim
  · obtain ⟨x0b, x0n, x0c, x1, x2b, x2n, x2c, x3b, x3n, x3c, x9b, x9n, x9c, x11b, x11n, x11c, x12, hg, hS⟩ := hr
    refine (n12_ok x0b x0n x0c x1 x2b x2n x2c x3b x3n x3c x9b x9n x9c x11b x11n x11c x12 (fun z0b z0n z0c z1 z2b z2n z2c z3b z3n z3c z9b z9n z9c z11b z11n z11c z12 h => n11_L Kn Ke2 Kr N z0b z0n z0c z1 z2b z2n z2c z3b z3n z3c z9b z9n z9c z11b z11n z11c z12 h) Ke2 Kr g hg h hS).mono ?_
    intro e g' h' hq
    cases e with
    | normal => exact D6_ok (K := (fun z0b z0n z0c z1 z2b z2n z2c z3b z3n z3c z9b z9n z9c z11b z11n z11c z12 h => n11_L Kn Ke2 Kr N z0b z0n z0c z1 z2b z2n z2c z3b z3n z3c z9b z9n z9c z11b z11n z11c z12 h)) hq
    | _ => exact hq
abbrev n10 (x0b : Option Addr) (x0n : Nat) (x0c : Nat) (x1 : Int) (x2b : Option Addr) (x2n : Nat) (x2c : Nat) (x3b : Option Addr) (x3n : Nat) (x3c : Nat) (x9b : Option Addr) (x9n : Nat) (x9c : Nat) (x11b : Option Addr) (x11n : Nat) (x11c : Nat) (x12 : Int) (Kn : T4) (Kr : T0) (h : H) : Prop := n11 x0b x0n x0c x1 x2b x2n x2c x3b x3n x3c x9b x9n x9c x11b x11n x11c x12 Kn Kn Kr h
theorem n10_ok (x0b : Option Addr) (x0n : Nat) (x0c : Nat) (x1 : Int) (x2b : Option Addr) (x2n : Nat) (x2c : Nat) (x3b : Option Addr) (x3n : Nat) (x3c : Nat) (x9b : Option Addr) (x9n : Nat) (x9c : Nat) (x11b : Option Addr) (x11n : Nat) (x11c : Nat) (x12 : Int) (Kn : T4) (Kr : T0) (g : Env) (hg : E6 g x0b x0n x0c x1 x2b x2n x2c x3b x3n x3c x9b x9n x9c x11b x11n x11c x12) (h : H) (hS : n10 x0b x0n x0c x1 x2b x2n x2c x3b x3n x3c x9b x9n x9c x11b x11n x11c x12 Kn Kr h) : wpC none Try.prog 115 n9_c2 (Q2 Kn Kr) g h := by
  refine wpC_block' (id := 2) (x := n10_c1) (by kernel_rfl) (n11_ok x0b x0n x0c x1 x2b x2n x2c x3b x3n x3c x9b x9n x9c x11b x11n x11c x12 Kn Kn Kr g hg h hS) ?_
  intro e g' h' hq
  cases e <;> exact hq
def Q8 (Kn : T6) (Kr : T0) : XPost
  | .normal, g, h => D6 Kn g h
  | .ret, g, h => D0 Kr g h
  | _, _, _ => False
abbrev n9 (x0b : Option Addr) (x0n : Nat) (x0c : Nat) (x1 : Int) (x2b : Option Addr) (x2n : Nat) (x2c : Nat) (x3b : Option Addr) (x3n : Nat) (x3c : Nat) (x9b : Option Addr) (x9n : Nat) (x9c : Nat) (x11b : Option Addr) (x11n : Nat) (x11c : Nat) (Kn : T4) (Kr : T0) (h : H) : Prop :=
  n10 x0b x0n x0c x1 x2b x2n x2c x3b x3n x3c x9b x9n x9c x11b x11n x11c (0 : Int) Kn Kr h
theorem n9_ok (x0b : Option Addr) (x0n : Nat) (x0c : Nat) (x1 : Int) (x2b : Option Addr) (x2n : Nat) (x2c : Nat) (x3b : Option Addr) (x3n : Nat) (x3c : Nat) (x9b : Option Addr) (x9n : Nat) (x9c : Nat) (x11b : Option Addr) (x11n : Nat) (x11c : Nat) (Kn : T4) (Kr : T0) (g : Env) (hg : E3 g x0b x0n x0c x1 x2b x2n x2c x3b x3n x3c x9b x9n x9c x11b x11n x11c) (h : H) (hS : n9 x0b x0n x0c x1 x2b x2n x2c x3b x3n x3c x9b x9n x9c x11b x11n x11c Kn Kr h) : wpC none Try.prog 115 n6_c1 (Q2 Kn Kr) g h := by
  obtain ⟨hg0, hg1, hg2, hg3, hg9, hg11, hds⟩ := hg
  refine wpC_seq' (x := n9_c1) (y := n9_c2) (Q' := (Q8 (fun z0b z0n z0c z1 z2b z2n z2c z3b z3n z3c z9b z9n z9c z11b z11n z11c z12 h => n10 z0b z0n z0c z1 z2b z2n z2c z3b z3n z3c z9b z9n z9c z11b z11n z11c z12 Kn Kr h) Kr)) (by kernel_rfl) ?_ ?_
  · refine wpC_of_wpx (by kernel_rfl) (by kernel_rfl) (g' := ((((((⟨g.v, []⟩ : Env).upd (some 0) (.slice x0b x0n x0c)).upd (some 1) (.int .u8 x1)).upd (some 2) (.slice x2b x2n x2c)).upd (some 3) (.slice x3b x3n x3c)).upd (some 9) (.slice x9b x9n x9c)).upd (some 11) (.slice x11b x11n x11c)) (by rw [env_ds hds, upd_self hg0, upd_self hg1, upd_self hg2, upd_self hg3, upd_self hg9, upd_self hg11]) ?_
    have e : (n9 x0b x0n x0c x1 x2b x2n x2c x3b x3n x3c x9b x9n x9c x11b x11n x11c Kn Kr h) = wpx none Try.prog 115 n9_c1 (Q8 (fun z0b z0n z0c z1 z2b z2n z2c z3b z3n z3c z9b z9n z9c z11b z11n z11c z12 h => n10 z0b z0n z0c z1 z2b z2n z2c z3b z3n z3c z9b z9n z9c z11b z11n z11c z12 Kn Kr h) Kr) (((((((⟨g.v, []⟩ : Env).upd (some 0) (.slice x0b x0n x0c)).upd (some 1) (.int .u8 x1)).upd (some 2) (.slice x2b x2n x2c)).upd (some 3) (.slice x3b x3n x3c)).upd (some 9) (.slice x9b x9n x9c)).upd (some 11) (.slice x11b x11n x11c)) h := by kernel_rfl
    exact e ▸ hS
  · intro e g' h' hq
    cases e with
    | normal =>
      have hq : D6 (fun z0b z0n z0c z1 z2b z2n z2c z3b z3n z3c z9b z9n z9c z11b z11n z11c z12 h => n10 z0b z0n z0c z1 z2b z2n z2c z3b z3n z3c z9b z9n z9c z11b z11n z11c z12 Kn Kr h) g' h' := hq
      obtain ⟨y0b, y0n, y0c, y1, y2b, y2n, y2c, y3b, y3n, y3c, y9b, y9n, y9c, y11b, y11n, y11c, y12, hg', hq⟩ := D6_ok hq
      exact n10_ok y0b y0n y0c y1 y2b y2n y2c y3b y3n y3c y9b y9n y9c y11b y11n y11c y12 Kn Kr g' hg' h' hq
    | _ => exact hq
abbrev n6 (x0b : Option Addr) (x0n : Nat) (x0c : Nat) (x1 : Int) (x2b : Option Addr) (x2n : Nat) (x2c : Nat) (x3b : Option Addr) (x3n : Nat) (x3c : Nat) (x9b : Option Addr) (x9n : Nat) (x9c : Nat) (x11b : Option Addr) (x11n : Nat) (x11c : Nat) (Kn : T0) (Kr : T0) (h : H) : Prop := n9 x0b x0n x0c x1 x2b x2n x2c x3b x3n x3c x9b x9n x9c x11b x11n x11c (fun z0b z0n z0c z1 z2b z2n z2c z9b z9n z9c z11b z11n z11c h => n7 z0b z0n z0c z1 z2b z2n z2c z9b z9n z9c z11b z11n z11c Kn Kr h) Kr h
theorem n6_ok (x0b : Option Addr) (x0n : Nat) (x0c : Nat) (x1 : Int) (x2b : Option Addr) (x2n : Nat) (x2c : Nat) (x3b : Option Addr) (x3n : Nat) (x3c : Nat) (x9b : Option Addr) (x9n : Nat) (x9c : Nat) (x11b : Option Addr) (x11n : Nat) (x11c : Nat) (Kn : T0) (Kr : T0) (g : Env) (hg : E3 g x0b x0n x0c x1 x2b x2n x2c x3b x3n x3c x9b x9n x9c x11b x11n x11c) (h : H) (hS : n6 x0b x0n x0c x1 x2b x2n x2c x3b x3n x3c x9b x9n x9c x11b x11n x11c Kn Kr h) : wpC none Try.prog 115 n5_c2 (Q0 Kn Kr) g h := by
  refine wpC_seq' (x := n6_c1) (y := n6_c2) (by kernel_rfl) (n9_ok x0b x0n x0c x1 x2b x2n x2c x3b x3n x3c x9b x9n x9c x11b x11n x11c (fun z0b z0n z0c z1 z2b z2n z2c z9b z9n z9c z11b z11n z11c h => n7 z0b z0n z0c z1 z2b z2n z2c z9b z9n z9c z11b z11n z11c Kn Kr h) Kr g hg h hS) ?_
  intro e g' h' hq
  cases e with
  | normal =>
    have hq : D4 (fun z0b z0n z0c z1 z2b z2n z2c z9b z9n z9c z11b z11n z11c h => n7 z0b z0n z0c z1 z2b z2n z2c z9b z9n z9c z11b z11n z11c Kn Kr h) g' h' := hq
    obtain ⟨y0b, y0n, y0c, y1, y2b, y2n, y2c, y9b, y9n, y9c, y11b, y11n, y11c, hg', hq⟩ := D4_ok hq
    exact n7_ok y0b y0n y0c y1 y2b y2n y2c y9b y9n y9c y11b y11n y11c Kn Kr g' hg' h' hq
  | _ => exact hq
def Q9 (Kn : T3) (Kr : T0) : XPost
  | .normal, g, h => D3 Kn g h
  | .ret, g, h => D0 Kr g h
  | _, _, _ => False
abbrev n5 (x0b : Option Addr) (x0n : Nat) (x0c : Nat) (x1 : Int) (x2b : Option Addr) (x2n : Nat) (x2c : Nat) (x3b : Option Addr) (x3n : Nat) (x3c : Nat) (x9b : Option Addr) (x9n : Nat) (x9c : Nat) (Kn : T0) (Kr : T0) (h : H) : Prop :=
  n6 x0b x0n x0c x1 x2b x2n x2c x3b x3n x3c x9b x9n x9c none 0 0 Kn Kr h
theorem n5_ok (x0b : Option Addr) (x0n : Nat) (x0c : Nat) (x1 : Int) (x2b : Option Addr) (x2n : Nat) (x2c : Nat) (x3b : Option Addr) (x3n : Nat) (x3c : Nat) (x9b : Option Addr) (x9n : Nat) (x9c : Nat) (Kn : T0) (Kr : T0) (g : Env) (hg : E2 g x0b x0n x0c x1 x2b x2n x2c x3b x3n x3c x9b x9n x9c) (h : H) (hS : n5 x0b x0n x0c x1 x2b x2n x2c x3b x3n x3c x9b x9n x9c Kn Kr h) : wpC none Try.prog 115 n4_c2 (Q0 Kn Kr) g h := by
  obtain ⟨hg0, hg1, hg2, hg3, hg9, hds⟩ := hg
  refine wpC_seq' (x := n5_c1) (y := n5_c2) (Q' := (Q9 (fun z0b z0n z0c z1 z2b z2n z2c z3b z3n z3c z9b z9n z9c z11b z11n z11c h => n6 z0b z0n z0c z1 z2b z2n z2c z3b z3n z3c z9b z9n z9c z11b z11n z11c Kn Kr h) Kr)) (by kernel_rfl) ?_ ?_
  · refine wpC_of_wpx (by kernel_rfl) (by kernel_rfl) (g' := (((((⟨g.v, []⟩ : Env).upd (some 0) (.slice x0b x0n x0c)).upd (some 1) (.int .u8 x1)).upd (some 2) (.slice x2b x2n x2c)).upd (some 3) (.slice x3b x3n x3c)).upd (some 9) (.slice x9b x9n x9c)) (by rw [env_ds hds, upd_self hg0, upd_self hg1, upd_self hg2, upd_self hg3, upd_self hg9]) ?_
    have e : (n5 x0b x0n x0c x1 x2b x2n x2c x3b x3n x3c x9b x9n x9c Kn Kr h) = wpx none Try.prog 115 n5_c1 (Q9 (fun z0b z0n z0c z1 z2b z2n z2c z3b z3n z3c z9b z9n z9c z11b z11n z11c h => n6 z0b z0n z0c z1 z2b z2n z2c z3b z3n z3c z9b z9n z9c z11b z11n z11c Kn Kr h) Kr) ((((((⟨g.v, []⟩ : Env).upd (some 0) (.slice x0b x0n x0c)).upd (some 1) (.int .u8 x1)).upd (some 2) (.slice x2b x2n x2c)).upd (some 3) (.slice x3b x3n x3c)).upd (some 9) (.slice x9b x9n x9c)) h := by kernel_rfl
    exact e ▸ hS
  · intro e g' h' hq
    cases e with
    | normal =>
      have hq : D3 (fun z0b z0n z0c z1 z2b z2n z2c z3b z3n z3c z9b z9n z9c z11b z11n z11c h => n6 z0b z0n z0c z1 z2b z2n z2c z3b z3n z3c z9b z9n z9c z11b z11n z11c Kn Kr h) g' h' := hq
      obtain ⟨y0b, y0n, y0c, y1, y2b, y2n, y2c, y3b, y3n, y3c, y9b, y9n, y9c, y11b, y11n, y11c, hg', hq⟩ := D3_ok hq
      exact n6_ok y0b y0n y0c y1 y2b y2n y2c y3b y3n y3c y9b y9n y9c y11b y11n y11c Kn Kr g' hg' h' hq
    | _ => exact hq
def Q10 (Kn : T2) (Kr : T0) : XPost
  | .normal, g, h => D2 Kn g h
  | .ret, g, h => D0 Kr g h
  | _, _, _ => False
noncomputable def n21_c1 : Code := cFst n4_c1
noncomputable def n21_c2 : Code := cSnd n4_c1
abbrev T9 := (Option Addr) → Nat → Nat → Int → (Option Addr) → Nat → Nat → (Option Addr) → Nat → Nat → (Option Addr) → Nat → Nat → Int → H → Prop
def E9 (g : Env) (x0b : Option Addr) (x0n : Nat) (x0c : Nat) (x1 : Int) (x2b : Option Addr) (x2n : Nat) (x2c : Nat) (x3b : Option Addr) (x3n : Nat) (x3c : Nat) (x9b : Option Addr) (x9n : Nat) (x9c : Nat) (x10 : Int) : Prop := g.v 0 = (.slice x0b x0n x0c) ∧ g.v 1 = (.int .u8 x1) ∧ g.v 2 = (.slice x2b x2n x2c) ∧ g.v 3 = (.slice x3b x3n x3c) ∧ g.v 9 = (.slice x9b x9n x9c) ∧ g.v 10 = (.int .i64 x10) ∧ g.ds = []
def D9 (K : T9) (g : Env) (h : H) : Prop := nilDs g.ds (vSlice (g.v 0) fun s263b s263n s263c => vInt .u8 (g.v 1) fun i264 => vSlice (g.v 2) fun s265b s265n s265c => vSlice (g.v 3) fun s266b s266n s266c => vSlice (g.v 9) fun s267b s267n s267c => vInt .i64 (g.v 10) fun i268 => K s263b s263n s263c i264 s265b s265n s265c s266b s266n s266c s267b s267n s267c i268 h)
theorem D9_ok {K : T9} {g : Env} {h : H} (hq : D9 K g h) : ∃ (x0b : Option Addr) (x0n : Nat) (x0c : Nat) (x1 : Int) (x2b : Option Addr) (x2n : Nat) (x2c : Nat) (x3b : Option Addr) (x3n : Nat) (x3c : Nat) (x9b : Option Addr) (x9n : Nat) (x9c : Nat) (x10 : Int), E9 g x0b x0n x0c x1 x2b x2n x2c x3b x3n x3c x9b x9n x9c x10 ∧ K x0b x0n x0c x1 x2b x2n x2c x3b x3n x3c x9b x9n x9c x10 h := by
  obtain ⟨hd, hq⟩ := nilDs_ok hq
  obtain ⟨y270b, y270n, y270c, e269, q271⟩ := vSlice_ok hq
  obtain ⟨y273, e272, q274⟩ := vInt_ok q271
  obtain ⟨y276b, y276n, y276c, e275, q277⟩ := vSlice_ok q274
  obtain ⟨y279b, y279n, y279c, e278, q280⟩ := vSlice_ok q277
  obtain ⟨y282b, y282n, y282c, e281, q283⟩ := vSlice_ok q280
  obtain ⟨y285, e284, q286⟩ := vInt_ok q283
  exact ⟨y270b, y270n, y270c, y273, y276b, y276n, y276c, y279b, y279n, y279c, y282b, y282n, y282c, y285, ⟨e269, e272, e275, e278, e281, e284, hd⟩, q286⟩
noncomputable def n22_c1 : Code := cFst n21_c2
def Q11 (Kn : T2) (Ke0 : T2) (Kr : T0) : XPost
  | .normal, g, h => D2 Kn g h
  | .ret, g, h => D0 Kr g h
  | .exit id, g, h => cond (Nat.beq id 0) (D2 Ke0 g h) (False)
  | _, _, _ => False
noncomputable def n23_c1 : Code := cFst n22_c1
def Q12 (Kn : T9) (Ke0 : T2) (Kr : T0) : XPost
  | .normal, g, h => D9 Kn g h
  | .ret, g, h => D0 Kr g h
  | .exit id, g, h => cond (Nat.beq id 0) (D2 Ke0 g h) (False)
  | _, _, _ => False
def n23_L (Kn : T2) (Ke0 : T2) (Kr : T0) : Nat → (Option Addr) → Nat → Nat → Int → (Option Addr) → Nat → Nat → (Option Addr) → Nat → Nat → (Option Addr) → Nat → Nat → Int → H → Prop
  | 0 => fun _ _ _ _ _ _ _ _ _ _ _ _ _ _ _ => False
  | N + 1 => fun x0b x0n x0c x1 x2b x2n x2c x3b x3n x3c x9b x9n x9c x10 h => Spl (x10 ≥ (0 : Int)) ((0 ≤ x10 ∧ x10 < (x2n : Int)) ∧ (vSome x2b fun a287 => ∃ s288, cell h (a287.add (Int.toNat x10 * 1)) = some (S s288) ∧ (newx h #[(S s288)] 9 fun a289 h290 => SemH Try.prog (Builtin.append_ #[23, 23] 23 ⟨[(.slice x9b x9n x9c), (.slice (some a289) 1 1)]⟩) h290 fun v291 h292 => vSlice v291 fun s293b s293n s293c => Rng .i64 (x10 - (1 : Int)) ∧ (n23_L Kn Ke0 Kr N x0b x0n x0c x1 x2b x2n x2c x3b x3n x3c s293b s293n s293c (x10 - (1 : Int)) h292)))) (Ke0 x0b x0n x0c x1 x2b x2n x2c x3b x3n x3c x9b x9n x9c h)
abbrev n23 (x0b : Option Addr) (x0n : Nat) (x0c : Nat) (x1 : Int) (x2b : Option Addr) (x2n : Nat) (x2c : Nat) (x3b : Option Addr) (x3n : Nat) (x3c : Nat) (x9b : Option Addr) (x9n : Nat) (x9c : Nat) (x10 : Int) (Kn : T2) (Ke0 : T2) (Kr : T0) (h : H) : Prop := ∃ N, n23_L Kn Ke0 Kr N x0b x0n x0c x1 x2b x2n x2c x3b x3n x3c x9b x9n x9c x10 h
theorem n23_ok (x0b : Option Addr) (x0n : Nat) (x0c : Nat) (x1 : Int) (x2b : Option Addr) (x2n : Nat) (x2c : Nat) (x3b : Option Addr) (x3n : Nat) (x3c : Nat) (x9b : Option Addr) (x9n : Nat) (x9c : Nat) (x10 : Int) (Kn : T2) (Ke0 : T2) (Kr : T0) (g : Env) (hg : E9 g x0b x0n x0c x1 x2b x2n x2c x3b x3n x3c x9b x9n x9c x10) (h : H) (hS : n23 x0b x0n x0c x1 x2b x2n x2c x3b x3n x3c x9b x9n x9c x10 Kn Ke0 Kr h) : wpC none Try.prog 115 n22_c1 (Q11 Kn Ke0 Kr) g h := by
  obtain ⟨N0, hS⟩ := hS
  refine wpC_loop' (x := n23_c1) (by kernel_rfl) (fun k g h => ∃ (x0b : Option Addr) (x0n : Nat) (x0c : Nat) (x1 : Int) (x2b : Option Addr) (x2n : Nat) (x2c : Nat) (x3b : Option Addr) (x3n : Nat) (x3c : Nat) (x9b : Option Addr) (x9n : Nat) (x9c : Nat) (x10 : Int), E9 g x0b x0n x0c x1 x2b x2n x2c x3b x3n x3c x9b x9n x9c x10 ∧ n23_L Kn Ke0 Kr k x0b x0n x0c x1 x2b x2n x2c x3b x3n x3c x9b x9n x9c x10 h) (fun g h hr => ?_) (fun N g h hr => ?_) N0 ⟨x0b, x0n, x0c, x1, x2b, x2n, x2c, x3b, x3n, x3c, x9b, x9n, x9c, x10, hg, hS⟩
  · obtain ⟨x0b, x0n, x0c, x1, x2b, x2n, x2c, x3b, x3n, x3c, x9b, x9n, x9c, x10, hg, hS⟩ := hr
    exact hS.elim
  · obtain ⟨x0b, x0n, x0c, x1, x2b, x2n, x2c, x3b, x3n, x3c, x9b, x9n, x9c, x10, hg, hS⟩ := hr
    have hw : wpC none Try.prog 115 n23_c1 (Q12 (fun z0b z0n z0c z1 z2b z2n z2c z3b z3n z3c z9b z9n z9c z10 h => n23_L Kn Ke0 Kr N z0b z0n z0c z1 z2b z2n z2c z3b z3n z3c z9b z9n z9c z10 h) Ke0 Kr) g h := by
      obtain ⟨hg0, hg1, hg2, hg3, hg9, hg10, hds⟩ := hg
      refine wpC_of_wpx (by kernel_rfl) (by kernel_rfl) (g' := ((((((⟨g.v, []⟩ : Env).upd (some 0) (.slice x0b x0n x0c)).upd (some 1) (.int .u8 x1)).upd (some 2) (.slice x2b x2n x2c)).upd (some 3) (.slice x3b x3n x3c)).upd (some 9) (.slice x9b x9n x9c)).upd (some 10) (.int .i64 x10)) (by rw [env_ds hds, upd_self hg0, upd_self hg1, upd_self hg2, upd_self hg3, upd_self hg9, upd_self hg10]) ?_
      have e : (n23_L Kn Ke0 Kr (N + 1) x0b x0n x0c x1 x2b x2n x2c x3b x3n x3c x9b x9n x9c x10 h) = wpx none Try.prog 115 n23_c1 (Q12 (fun z0b z0n z0c z1 z2b z2n z2c z3b z3n z3c z9b z9n z9c z10 h => n23_L Kn Ke0 Kr N z0b z0n z0c z1 z2b z2n z2c z3b z3n z3c z9b z9n z9c z10 h) Ke0 Kr) (((((((⟨g.v, []⟩ : Env).upd (some 0) (.slice x0b x0n x0c)).upd (some 1) (.int .u8 x1)).upd (some 2) (.slice x2b x2n x2c)).upd (some 3) (.slice x3b x3n x3c)).upd (some 9) (.slice x9b x9n x9c)).upd (some 10) (.int .i64 x10)) h := by kernel_rfl
      exact e ▸ hS
    refine hw.mono ?_
    intro e g' h' hq
    cases e with
    | normal => exact D9_ok (K := (fun z0b z0n z0c z1 z2b z2n z2c z3b z3n z3c z9b z9n z9c z10 h => n23_L Kn Ke0 Kr N z0b z0n z0c z1 z2b z2n z2c z3b z3n z3c z9b z9n z9c z10 h)) hq
    | _ => exact hq
abbrev n22 (x0b : Option Addr) (x0n : Nat) (x0c : Nat) (x1 : Int) (x2b : Option Addr) (x2n : Nat) (x2c : Nat) (x3b : Option Addr) (x3n : Nat) (x3c : Nat) (x9b : Option Addr) (x9n : Nat) (x9c : Nat) (x10 : Int) (Kn : T2) (Kr : T0) (h : H) : Prop := n23 x0b x0n x0c x1 x2b x2n x2c x3b x3n x3c x9b x9n x9c x10 Kn Kn Kr h
theorem n22_ok (x0b : Option Addr) (x0n : Nat) (x0c : Nat) (x1 : Int) (x2b : Option Addr) (x2n : Nat) (x2c : Nat) (x3b : Option Addr) (x3n : Nat) (x3c : Nat) (x9b : Option Addr) (x9n : Nat) (x9c : Nat) (x10 : Int) (Kn : T2) (Kr : T0) (g : Env) (hg : E9 g x0b x0n x0c x1 x2b x2n x2c x3b x3n x3c x9b x9n x9c x10) (h : H) (hS : n22 x0b x0n x0c x1 x2b x2n x2c x3b x3n x3c x9b x9n x9c x10 Kn Kr h) : wpC none Try.prog 115 n21_c2 (Q10 Kn Kr) g h := by
  refine wpC_block' (id := 0) (x := n22_c1) (by kernel_rfl) (n23_ok x0b x0n x0c x1 x2b x2n x2c x3b x3n x3c x9b x9n x9c x10 Kn Kn Kr g hg h hS) ?_
  intro e g' h' hq
  cases e <;> exact hq
def Q13 (Kn : T9) (Kr : T0) : XPost
  | .normal, g, h => D9 Kn g h
  | .ret, g, h => D0 Kr g h
  | _, _, _ => False
abbrev n21 (x0b : Option Addr) (x0n : Nat) (x0c : Nat) (x1 : Int) (x2b : Option Addr) (x2n : Nat) (x2c : Nat) (x3b : Option Addr) (x3n : Nat) (x3c : Nat) (x9b : Option Addr) (x9n : Nat) (x9c : Nat) (Kn : T2) (Kr : T0) (h : H) : Prop :=
  Rng .i64 ((x2n : Int) - (1 : Int)) ∧ (n22 x0b x0n x0c x1 x2b x2n x2c x3b x3n x3c x9b x9n x9c ((x2n : Int) - (1 : Int)) Kn Kr h)
theorem n21_ok (x0b : Option Addr) (x0n : Nat) (x0c : Nat) (x1 : Int) (x2b : Option Addr) (x2n : Nat) (x2c : Nat) (x3b : Option Addr) (x3n : Nat) (x3c : Nat) (x9b : Option Addr) (x9n : Nat) (x9c : Nat) (Kn : T2) (Kr : T0) (g : Env) (hg : E2 g x0b x0n x0c x1 x2b x2n x2c x3b x3n x3c x9b x9n x9c) (h : H) (hS : n21 x0b x0n x0c x1 x2b x2n x2c x3b x3n x3c x9b x9n x9c Kn Kr h) : wpC none Try.prog 115 n4_c1 (Q10 Kn Kr) g h := by
  obtain ⟨hg0, hg1, hg2, hg3, hg9, hds⟩ := hg
  refine wpC_seq' (x := n21_c1) (y := n21_c2) (Q' := (Q13 (fun z0b z0n z0c z1 z2b z2n z2c z3b z3n z3c z9b z9n z9c z10 h => n22 z0b z0n z0c z1 z2b z2n z2c z3b z3n z3c z9b z9n z9c z10 Kn Kr h) Kr)) (by kernel_rfl) ?_ ?_
  · refine wpC_of_wpx (by kernel_rfl) (by kernel_rfl) (g' := (((((⟨g.v, []⟩ : Env).upd (some 0) (.slice x0b x0n x0c)).upd (some 1) (.int .u8 x1)).upd (some 2) (.slice x2b x2n x2c)).upd (some 3) (.slice x3b x3n x3c)).upd (some 9) (.slice x9b x9n x9c)) (by rw [env_ds hds, upd_self hg0, upd_self hg1, upd_self hg2, upd_self hg3, upd_self hg9]) ?_
    have e : (n21 x0b x0n x0c x1 x2b x2n x2c x3b x3n x3c x9b x9n x9c Kn Kr h) = wpx none Try.prog 115 n21_c1 (Q13 (fun z0b z0n z0c z1 z2b z2n z2c z3b z3n z3c z9b z9n z9c z10 h => n22 z0b z0n z0c z1 z2b z2n z2c z3b z3n z3c z9b z9n z9c z10 Kn Kr h) Kr) ((((((⟨g.v, []⟩ : Env).upd (some 0) (.slice x0b x0n x0c)).upd (some 1) (.int .u8 x1)).upd (some 2) (.slice x2b x2n x2c)).upd (some 3) (.slice x3b x3n x3c)).upd (some 9) (.slice x9b x9n x9c)) h := by kernel_rfl
    exact e ▸ hS
  · intro e g' h' hq
    cases e with
    | normal =>
      have hq : D9 (fun z0b z0n z0c z1 z2b z2n z2c z3b z3n z3c z9b z9n z9c z10 h => n22 z0b z0n z0c z1 z2b z2n z2c z3b z3n z3c z9b z9n z9c z10 Kn Kr h) g' h' := hq
      obtain ⟨y0b, y0n, y0c, y1, y2b, y2n, y2c, y3b, y3n, y3c, y9b, y9n, y9c, y10, hg', hq⟩ := D9_ok hq
      exact n22_ok y0b y0n y0c y1 y2b y2n y2c y3b y3n y3c y9b y9n y9c y10 Kn Kr g' hg' h' hq
    | _ => exact hq
abbrev n4 (x0b : Option Addr) (x0n : Nat) (x0c : Nat) (x1 : Int) (x2b : Option Addr) (x2n : Nat) (x2c : Nat) (x3b : Option Addr) (x3n : Nat) (x3c : Nat) (x9b : Option Addr) (x9n : Nat) (x9c : Nat) (Kn : T0) (Kr : T0) (h : H) : Prop := n21 x0b x0n x0c x1 x2b x2n x2c x3b x3n x3c x9b x9n x9c (fun z0b z0n z0c z1 z2b z2n z2c z3b z3n z3c z9b z9n z9c h => n5 z0b z0n z0c z1 z2b z2n z2c z3b z3n z3c z9b z9n z9c Kn Kr h) Kr h
theorem n4_ok (x0b : Option Addr) (x0n : Nat) (x0c : Nat) (x1 : Int) (x2b : Option Addr) (x2n : Nat) (x2c : Nat) (x3b : Option Addr) (x3n : Nat) (x3c : Nat) (x9b : Option Addr) (x9n : Nat) (x9c : Nat) (Kn : T0) (Kr : T0) (g : Env) (hg : E2 g x0b x0n x0c x1 x2b x2n x2c x3b x3n x3c x9b x9n x9c) (h : H) (hS : n4 x0b x0n x0c x1 x2b x2n x2c x3b x3n x3c x9b x9n x9c Kn Kr h) : wpC none Try.prog 115 n3_c2 (Q0 Kn Kr) g h := by
  refine wpC_seq' (x := n4_c1) (y := n4_c2) (by kernel_rfl) (n21_ok x0b x0n x0c x1 x2b x2n x2c x3b x3n x3c x9b x9n x9c (fun z0b z0n z0c z1 z2b z2n z2c z3b z3n z3c z9b z9n z9c h => n5 z0b z0n z0c z1 z2b z2n z2c z3b z3n z3c z9b z9n z9c Kn Kr h) Kr g hg h hS) ?_
  intro e g' h' hq
  cases e with
  | normal =>
    have hq : D2 (fun z0b z0n z0c z1 z2b z2n z2c z3b z3n z3c z9b z9n z9c h => n5 z0b z0n z0c z1 z2b z2n z2c z3b z3n z3c z9b z9n z9c Kn Kr h) g' h' := hq
    obtain ⟨y0b, y0n, y0c, y1, y2b, y2n, y2c, y3b, y3n, y3c, y9b, y9n, y9c, hg', hq⟩ := D2_ok hq
    exact n5_ok y0b y0n y0c y1 y2b y2n y2c y3b y3n y3c y9b y9n y9c Kn Kr g' hg' h' hq
  | _ => exact hq
abbrev n3 (x0b : Option Addr) (x0n : Nat) (x0c : Nat) (x1 : Int) (x2b : Option Addr) (x2n : Nat) (x2c : Nat) (x3b : Option Addr) (x3n : Nat) (x3c : Nat) (Kn : T0) (Kr : T0) (h : H) : Prop :=
  n4 x0b x0n x0c x1 x2b x2n x2c x3b x3n x3c none 0 0 Kn Kr h
theorem n3_ok (x0b : Option Addr) (x0n : Nat) (x0c : Nat) (x1 : Int) (x2b : Option Addr) (x2n : Nat) (x2c : Nat) (x3b : Option Addr) (x3n : Nat) (x3c : Nat) (Kn : T0) (Kr : T0) (g : Env) (hg : E1 g x0b x0n x0c x1 x2b x2n x2c x3b x3n x3c) (h : H) (hS : n3 x0b x0n x0c x1 x2b x2n x2c x3b x3n x3c Kn Kr h) : wpC none Try.prog 115 n2_c2 (Q0 Kn Kr) g h := by
  obtain ⟨hg0, hg1, hg2, hg3, hds⟩ := hg
  refine wpC_seq' (x := n3_c1) (y := n3_c2) (Q' := (Q10 (fun z0b z0n z0c z1 z2b z2n z2c z3b z3n z3c z9b z9n z9c h => n4 z0b z0n z0c z1 z2b z2n z2c z3b z3n z3c z9b z9n z9c Kn Kr h) Kr)) (by kernel_rfl) ?_ ?_
  · refine wpC_of_wpx (by kernel_rfl) (by kernel_rfl) (g' := ((((⟨g.v, []⟩ : Env).upd (some 0) (.slice x0b x0n x0c)).upd (some 1) (.int .u8 x1)).upd (some 2) (.slice x2b x2n x2c)).upd (some 3) (.slice x3b x3n x3c)) (by rw [env_ds hds, upd_self hg0, upd_self hg1, upd_self hg2, upd_self hg3]) ?_
    have e : (n3 x0b x0n x0c x1 x2b x2n x2c x3b x3n x3c Kn Kr h) = wpx none Try.prog 115 n3_c1 (Q10 (fun z0b z0n z0c z1 z2b z2n z2c z3b z3n z3c z9b z9n z9c h => n4 z0b z0n z0c z1 z2b z2n z2c z3b z3n z3c z9b z9n z9c Kn Kr h) Kr) (((((⟨g.v, []⟩ : Env).upd (some 0) (.slice x0b x0n x0c)).upd (some 1) (.int .u8 x1)).upd (some 2) (.slice x2b x2n x2c)).upd (some 3) (.slice x3b x3n x3c)) h := by kernel_rfl
    exact e ▸ hS
  · intro e g' h' hq
    cases e with
    | normal =>
      have hq : D2 (fun z0b z0n z0c z1 z2b z2n z2c z3b z3n z3c z9b z9n z9c h => n4 z0b z0n z0c z1 z2b z2n z2c z3b z3n z3c z9b z9n z9c Kn Kr h) g' h' := hq
      obtain ⟨y0b, y0n, y0c, y1, y2b, y2n, y2c, y3b, y3n, y3c, y9b, y9n, y9c, hg', hq⟩ := D2_ok hq
      exact n4_ok y0b y0n y0c y1 y2b y2n y2c y3b y3n y3c y9b y9n y9c Kn Kr g' hg' h' hq
    | _ => exact hq
def Q14 (Kn : T1) (Kr : T0) : XPost
  | .normal, g, h => D1 Kn g h
  | .ret, g, h => D0 Kr g h
  | _, _, _ => False
abbrev n2 (x0b : Option Addr) (x0n : Nat) (x0c : Nat) (x1 : Int) (x2b : Option Addr) (x2n : Nat) (x2c : Nat) (x3b : Option Addr) (x3n : Nat) (x3c : Nat) (Kn : T0) (Kr : T0) (h : H) : Prop :=
  HCalls Try.prog 8 ⟨[(.slice x0b x0n x0c), (.slice x2b x2n x2c)]⟩ h fun v294 h295 => vBool v294 fun b296 => cond b296 (HCalls Try.prog 9 ⟨[]⟩ h295 fun v297 h298 => vBool v297 fun b299 => cond b299 (Kr true h298) (Kr false h298)) (Spl ((x3n : Int) > (3000 : Int)) (HCalls Try.prog 9 ⟨[]⟩ h295 fun v300 h301 => vBool v300 fun b302 => cond b302 (Kr true h301) (Kr false h301)) (HCalls Try.prog 9 ⟨[]⟩ h295 fun v303 h304 => vBool v303 fun b305 => cond b305 (n3 x0b x0n x0c x1 x2b x2n x2c x3b x3n x3c Kn Kr h304) (HCalls Try.prog 9 ⟨[]⟩ h304 fun v306 h307 => vBool v306 fun b308 => cond b308 (Kr true h307) (Kr false h307))))
theorem n2_ok (x0b : Option Addr) (x0n : Nat) (x0c : Nat) (x1 : Int) (x2b : Option Addr) (x2n : Nat) (x2c : Nat) (x3b : Option Addr) (x3n : Nat) (x3c : Nat) (Kn : T0) (Kr : T0) (g : Env) (hg : E1 g x0b x0n x0c x1 x2b x2n x2c x3b x3n x3c) (h : H) (hS : n2 x0b x0n x0c x1 x2b x2n x2c x3b x3n x3c Kn Kr h) : wpC none Try.prog 115 n1_c2 (Q0 Kn Kr) g h := by
  obtain ⟨hg0, hg1, hg2, hg3, hds⟩ := hg
  refine wpC_seq' (x := n2_c1) (y := n2_c2) (Q' := (Q14 (fun z0b z0n z0c z1 z2b z2n z2c z3b z3n z3c h => n3 z0b z0n z0c z1 z2b z2n z2c z3b z3n z3c Kn Kr h) Kr)) (by kernel_rfl) ?_ ?_
  · refine wpC_of_wpx (by kernel_rfl) (by kernel_rfl) (g' := ((((⟨g.v, []⟩ : Env).upd (some 0) (.slice x0b x0n x0c)).upd (some 1) (.int .u8 x1)).upd (some 2) (.slice x2b x2n x2c)).upd (some 3) (.slice x3b x3n x3c)) (by rw [env_ds hds, upd_self hg0, upd_self hg1, upd_self hg2, upd_self hg3]) ?_
    have e : (n2 x0b x0n x0c x1 x2b x2n x2c x3b x3n x3c Kn Kr h) = wpx none Try.prog 115 n2_c1 (Q14 (fun z0b z0n z0c z1 z2b z2n z2c z3b z3n z3c h => n3 z0b z0n z0c z1 z2b z2n z2c z3b z3n z3c Kn Kr h) Kr) (((((⟨g.v, []⟩ : Env).upd (some 0) (.slice x0b x0n x0c)).upd (some 1) (.int .u8 x1)).upd (some 2) (.slice x2b x2n x2c)).upd (some 3) (.slice x3b x3n x3c)) h := by kernel_rfl
    exact e ▸ hS
  · intro e g' h' hq
    cases e with
    | normal =>
      have hq : D1 (fun z0b z0n z0c z1 z2b z2n z2c z3b z3n z3c h => n3 z0b z0n z0c z1 z2b z2n z2c z3b z3n z3c Kn Kr h) g' h' := hq
      obtain ⟨y0b, y0n, y0c, y1, y2b, y2n, y2c, y3b, y3n, y3c, hg', hq⟩ := D1_ok hq
      exact n3_ok y0b y0n y0c y1 y2b y2n y2c y3b y3n y3c Kn Kr g' hg' h' hq
    | _ => exact hq
abbrev n1 (x0b : Option Addr) (x0n : Nat) (x0c : Nat) (x1 : Int) (x2b : Option Addr) (x2n : Nat) (x2c : Nat) (x3b : Option Addr) (x3n : Nat) (x3c : Nat) (Kn : T0) (Kr : T0) (h : H) : Prop :=
  n2 x0b x0n x0c x1 x2b x2n x2c x3b x3n x3c Kn Kr h
theorem n1_ok (x0b : Option Addr) (x0n : Nat) (x0c : Nat) (x1 : Int) (x2b : Option Addr) (x2n : Nat) (x2c : Nat) (x3b : Option Addr) (x3n : Nat) (x3c : Nat) (Kn : T0) (Kr : T0) (g : Env) (hg : E1 g x0b x0n x0c x1 x2b x2n x2c x3b x3n x3c) (h : H) (hS : n1 x0b x0n x0c x1 x2b x2n x2c x3b x3n x3c Kn Kr h) : wpC none Try.prog 115 code (Q0 Kn Kr) g h := by
  obtain ⟨hg0, hg1, hg2, hg3, hds⟩ := hg
  refine wpC_seq' (x := n1_c1) (y := n1_c2) (Q' := (Q14 (fun z0b z0n z0c z1 z2b z2n z2c z3b z3n z3c h => n2 z0b z0n z0c z1 z2b z2n z2c z3b z3n z3c Kn Kr h) Kr)) (by kernel_rfl) ?_ ?_
  · refine wpC_of_wpx (by kernel_rfl) (by kernel_rfl) (g' := ((((⟨g.v, []⟩ : Env).upd (some 0) (.slice x0b x0n x0c)).upd (some 1) (.int .u8 x1)).upd (some 2) (.slice x2b x2n x2c)).upd (some 3) (.slice x3b x3n x3c)) (by rw [env_ds hds, upd_self hg0, upd_self hg1, upd_self hg2, upd_self hg3]) ?_
    have e : (n1 x0b x0n x0c x1 x2b x2n x2c x3b x3n x3c Kn Kr h) = wpx none Try.prog 115 n1_c1 (Q14 (fun z0b z0n z0c z1 z2b z2n z2c z3b z3n z3c h => n2 z0b z0n z0c z1 z2b z2n z2c z3b z3n z3c Kn Kr h) Kr) (((((⟨g.v, []⟩ : Env).upd (some 0) (.slice x0b x0n x0c)).upd (some 1) (.int .u8 x1)).upd (some 2) (.slice x2b x2n x2c)).upd (some 3) (.slice x3b x3n x3c)) h := by kernel_rfl
    exact e ▸ hS
  · intro e g' h' hq
    cases e with
    | normal =>
      have hq : D1 (fun z0b z0n z0c z1 z2b z2n z2c z3b z3n z3c h => n2 z0b z0n z0c z1 z2b z2n z2c z3b z3n z3c Kn Kr h) g' h' := hq
      obtain ⟨y0b, y0n, y0c, y1, y2b, y2n, y2c, y3b, y3n, y3c, hg', hq⟩ := D1_ok hq
      exact n2_ok y0b y0n y0c y1 y2b y2n y2c y3b y3n y3c Kn Kr g' hg' h' hq
    | _ => exact hq
/-- WHAT tympan/tympanlaw11.OpenOrder ASKS -/
abbrev asks (x0b : Option Addr) (x0n : Nat) (x0c : Nat) (x1 : Int) (x2b : Option Addr) (x2n : Nat) (x2c : Nat) (x3b : Option Addr) (x3n : Nat) (x3c : Nat) (K : Value → H → Prop) (h : H) : Prop := n1 x0b x0n x0c x1 x2b x2n x2c x3b x3n x3c (fun y8 h => K (.bool y8) h) (fun y8 h => K (.bool y8) h) h
theorem ok (x0b : Option Addr) (x0n : Nat) (x0c : Nat) (x1 : Int) (x2b : Option Addr) (x2n : Nat) (x2c : Nat) (x3b : Option Addr) (x3n : Nat) (x3c : Nat) (K : Value → H → Prop) (h : H) (hS : asks x0b x0n x0c x1 x2b x2n x2c x3b x3n x3c K h) : HCalls Try.prog 7 ⟨[(.slice x0b x0n x0c), (.int .u8 x1), (.slice x2b x2n x2c), (.slice x3b x3n x3c)]⟩ h K := by
  refine calls_of_wpC (c := code) Try.func7 (by kernel_rfl) (Nat.le_of_ble_eq_true (by kernel_rfl)) ?_
  refine (n1_ok x0b x0n x0c x1 x2b x2n x2c x3b x3n x3c (fun y8 h => K (.bool y8) h) (fun y8 h => K (.bool y8) h) (env0 [(.slice x0b x0n x0c), (.int .u8 x1), (.slice x2b x2n x2c), (.slice x3b x3n x3c)]) ⟨rfl, rfl, rfl, rfl, rfl⟩ h hS).mono ?_
  intro e g' h' hq
  cases e with
  | normal =>
    have hq : D0 (fun y8 h => K (.bool y8) h) g' h' := hq
    obtain ⟨y8, ⟨hg8, hd⟩, hq⟩ := D0_ok hq
    show leaveX g'.ds h' _
    rw [hd]
    show K (g'.v 8) h'
    rw [hg8]
    exact hq
  | ret =>
    have hq : D0 (fun y8 h => K (.bool y8) h) g' h' := hq
    obtain ⟨y8, ⟨hg8, hd⟩, hq⟩ := D0_ok hq
    show leaveX g'.ds h' _
    rw [hd]
    show K (g'.v 8) h'
    rw [hg8]
    exact hq
  | _ => exact hq
end Sx.l11_OpenOrder

/-! ### tympan/tympanlaw11.much -/
namespace Sx.l11_much
noncomputable def code : Code := bodyOf Try.f8
abbrev T0 := Bool → H → Prop
def E0 (g : Env) (x4 : Bool) : Prop := g.v 4 = (.bool x4) ∧ g.ds = []
def D0 (K : T0) (g : Env) (h : H) : Prop := nilDs g.ds (vBool (g.v 4) fun b1 => K b1 h)
theorem D0_ok {K : T0} {g : Env} {h : H} (hq : D0 K g h) : ∃ (x4 : Bool), E0 g x4 ∧ K x4 h := by
  obtain ⟨hd, hq⟩ := nilDs_ok hq
  obtain ⟨y3, e2, q4⟩ := vBool_ok hq
  exact ⟨y3, ⟨e2, hd⟩, q4⟩
def Q0 (Kn : T0) (Kr : T0) : XPost
  | .normal, g, h => D0 Kn g h
  | .ret, g, h => D0 Kr g h
  | _, _, _ => False
abbrev T1 := (Option Addr) → Nat → Nat → (Option Addr) → Nat → Nat → H → Prop
def E1 (g : Env) (x0b : Option Addr) (x0n : Nat) (x0c : Nat) (x1b : Option Addr) (x1n : Nat) (x1c : Nat) : Prop := g.v 0 = (.slice x0b x0n x0c) ∧ g.v 1 = (.slice x1b x1n x1c) ∧ g.ds = []
def D1 (K : T1) (g : Env) (h : H) : Prop := nilDs g.ds (vSlice (g.v 0) fun s5b s5n s5c => vSlice (g.v 1) fun s6b s6n s6c => K s5b s5n s5c s6b s6n s6c h)
theorem D1_ok {K : T1} {g : Env} {h : H} (hq : D1 K g h) : ∃ (x0b : Option Addr) (x0n : Nat) (x0c : Nat) (x1b : Option Addr) (x1n : Nat) (x1c : Nat), E1 g x0b x0n x0c x1b x1n x1c ∧ K x0b x0n x0c x1b x1n x1c h := by
  obtain ⟨hd, hq⟩ := nilDs_ok hq
  obtain ⟨y8b, y8n, y8c, e7, q9⟩ := vSlice_ok hq
  obtain ⟨y11b, y11n, y11c, e10, q12⟩ := vSlice_ok q9
  exact ⟨y8b, y8n, y8c, y11b, y11n, y11c, ⟨e7, e10, hd⟩, q12⟩
noncomputable def n1_c1 : Code := cFst code
noncomputable def n1_c2 : Code := cSnd code
noncomputable def n2_c1 : Code := cFst n1_c2
noncomputable def n2_c2 : Code := cSnd n1_c2
abbrev T2 := (Option Addr) → Nat → Nat → (Option Addr) → Nat → Nat → Int → H → Prop
def E2 (g : Env) (x0b : Option Addr) (x0n : Nat) (x0c : Nat) (x1b : Option Addr) (x1n : Nat) (x1c : Nat) (x5 : Int) : Prop := g.v 0 = (.slice x0b x0n x0c) ∧ g.v 1 = (.slice x1b x1n x1c) ∧ g.v 5 = (.int .i64 x5) ∧ g.ds = []
def D2 (K : T2) (g : Env) (h : H) : Prop := nilDs g.ds (vSlice (g.v 0) fun s13b s13n s13c => vSlice (g.v 1) fun s14b s14n s14c => vInt .i64 (g.v 5) fun i15 => K s13b s13n s13c s14b s14n s14c i15 h)
theorem D2_ok {K : T2} {g : Env} {h : H} (hq : D2 K g h) : ∃ (x0b : Option Addr) (x0n : Nat) (x0c : Nat) (x1b : Option Addr) (x1n : Nat) (x1c : Nat) (x5 : Int), E2 g x0b x0n x0c x1b x1n x1c x5 ∧ K x0b x0n x0c x1b x1n x1c x5 h := by
  obtain ⟨hd, hq⟩ := nilDs_ok hq
  obtain ⟨y17b, y17n, y17c, e16, q18⟩ := vSlice_ok hq
  obtain ⟨y20b, y20n, y20c, e19, q21⟩ := vSlice_ok q18
  obtain ⟨y23, e22, q24⟩ := vInt_ok q21
  exact ⟨y17b, y17n, y17c, y20b, y20n, y20c, y23, ⟨e16, e19, e22, hd⟩, q24⟩
noncomputable def n3_c1 : Code := cFst n2_c2
noncomputable def n3_c2 : Code := cSnd n2_c2
abbrev T3 := (Option Addr) → Nat → Nat → Int → H → Prop
def E3 (g : Env) (x1b : Option Addr) (x1n : Nat) (x1c : Nat) (x5 : Int) : Prop := g.v 1 = (.slice x1b x1n x1c) ∧ g.v 5 = (.int .i64 x5) ∧ g.ds = []
def D3 (K : T3) (g : Env) (h : H) : Prop := nilDs g.ds (vSlice (g.v 1) fun s25b s25n s25c => vInt .i64 (g.v 5) fun i26 => K s25b s25n s25c i26 h)
theorem D3_ok {K : T3} {g : Env} {h : H} (hq : D3 K g h) : ∃ (x1b : Option Addr) (x1n : Nat) (x1c : Nat) (x5 : Int), E3 g x1b x1n x1c x5 ∧ K x1b x1n x1c x5 h := by
  obtain ⟨hd, hq⟩ := nilDs_ok hq
  obtain ⟨y28b, y28n, y28c, e27, q29⟩ := vSlice_ok hq
  obtain ⟨y31, e30, q32⟩ := vInt_ok q29
  exact ⟨y28b, y28n, y28c, y31, ⟨e27, e30, hd⟩, q32⟩
noncomputable def n4_c1 : Code := cFst n3_c2
noncomputable def n4_c2 : Code := cSnd n3_c2
abbrev n5 (x1b : Option Addr) (x1n : Nat) (x1c : Nat) (x5 : Int) (Kn : T0) (Kr : T0) (h : H) : Prop :=
  Spl (x5 > (3000 : Int)) (Kr true h) (Spl ((x1n : Int) > (100 : Int)) (Kr true h) (Kr false h))
theorem n5_ok (x1b : Option Addr) (x1n : Nat) (x1c : Nat) (x5 : Int) (Kn : T0) (Kr : T0) (g : Env) (hg : E3 g x1b x1n x1c x5) (h : H) (hS : n5 x1b x1n x1c x5 Kn Kr h) : wpC none Try.prog 59 n4_c2 (Q0 Kn Kr) g h := by
  obtain ⟨hg1, hg5, hds⟩ := hg
  refine wpC_of_wpx (by kernel_rfl) (by kernel_rfl) (g' := ((⟨g.v, []⟩ : Env).upd (some 1) (.slice x1b x1n x1c)).upd (some 5) (.int .i64 x5)) (by rw [env_ds hds, upd_self hg1, upd_self hg5]) ?_
  have e : (n5 x1b x1n x1c x5 Kn Kr h) = wpx none Try.prog 59 n4_c2 (Q0 Kn Kr) (((⟨g.v, []⟩ : Env).upd (some 1) (.slice x1b x1n x1c)).upd (some 5) (.int .i64 x5)) h := by kernel_rfl
  exact e ▸ hS
def Q1 (Kn : T3) (Kr : T0) : XPost
  | .normal, g, h => D3 Kn g h
  | .ret, g, h => D0 Kr g h
  | _, _, _ => False
noncomputable def n6_c1 : Code := cFst n4_c1
noncomputable def n6_c2 : Code := cSnd n4_c1
abbrev T4 := (Option Addr) → Nat → Nat → Int → Int → H → Prop
def E4 (g : Env) (x1b : Option Addr) (x1n : Nat) (x1c : Nat) (x5 : Int) (x7 : Int) : Prop := g.v 1 = (.slice x1b x1n x1c) ∧ g.v 5 = (.int .i64 x5) ∧ g.v 7 = (.int .i64 x7) ∧ g.ds = []
def D4 (K : T4) (g : Env) (h : H) : Prop := nilDs g.ds (vSlice (g.v 1) fun s33b s33n s33c => vInt .i64 (g.v 5) fun i34 => vInt .i64 (g.v 7) fun i35 => K s33b s33n s33c i34 i35 h)
theorem D4_ok {K : T4} {g : Env} {h : H} (hq : D4 K g h) : ∃ (x1b : Option Addr) (x1n : Nat) (x1c : Nat) (x5 : Int) (x7 : Int), E4 g x1b x1n x1c x5 x7 ∧ K x1b x1n x1c x5 x7 h := by
  obtain ⟨hd, hq⟩ := nilDs_ok hq
  obtain ⟨y37b, y37n, y37c, e36, q38⟩ := vSlice_ok hq
  obtain ⟨y40, e39, q41⟩ := vInt_ok q38
  obtain ⟨y43, e42, q44⟩ := vInt_ok q41
  exact ⟨y37b, y37n, y37c, y40, y43, ⟨e36, e39, e42, hd⟩, q44⟩
noncomputable def n7_c1 : Code := cFst n6_c2
def Q2 (Kn : T3) (Ke2 : T3) (Kr : T0) : XPost
  | .normal, g, h => D3 Kn g h
  | .ret, g, h => D0 Kr g h
  | .exit id, g, h => cond (Nat.beq id 2) (D3 Ke2 g h) (False)
  | _, _, _ => False
noncomputable def n8_c1 : Code := cFst n7_c1
def Q3 (Kn : T4) (Ke2 : T3) (Kr : T0) : XPost
  | .normal, g, h => D4 Kn g h
  | .ret, g, h => D0 Kr g h
  | .exit id, g, h => cond (Nat.beq id 2) (D3 Ke2 g h) (False)
  | _, _, _ => False
def n8_L (Kn : T3) (Ke2 : T3) (Kr : T0) : Nat → (Option Addr) → Nat → Nat → Int → Int → H → Prop
  | 0 => fun _ _ _ _ _ _ => False
  | N + 1 => fun x1b x1n x1c x5 x7 h => Spl (x7 < (x1n : Int)) (Spl (x5 ≤ (3000 : Int)) ((0 ≤ x7 ∧ x7 < (x1n : Int)) ∧ (vSome x1b fun a45 => ∃ s46, cell h (a45.add (Int.toNat x7 * 1)) = some (S s46) ∧ ((16 : Int) ≠ 0 ∧ (Rng .i64 (Int.tdiv (s46.length : Int) (16 : Int)) ∧ (Rng .i64 (x5 + (Int.tdiv (s46.length : Int) (16 : Int))) ∧ (Rng .i64 (x7 + (1 : Int)) ∧ (n8_L Kn Ke2 Kr N x1b x1n x1c (x5 + (Int.tdiv (s46.length : Int) (16 : Int))) (x7 + (1 : Int)) h))))))) (Ke2 x1b x1n x1c x5 h)) (Ke2 x1b x1n x1c x5 h)
abbrev n8 (x1b : Option Addr) (x1n : Nat) (x1c : Nat) (x5 : Int) (x7 : Int) (Kn : T3) (Ke2 : T3) (Kr : T0) (h : H) : Prop := ∃ N, n8_L Kn Ke2 Kr N x1b x1n x1c x5 x7 h
theorem n8_ok (x1b : Option Addr) (x1n : Nat) (x1c : Nat) (x5 : Int) (x7 : Int) (Kn : T3) (Ke2 : T3) (Kr : T0) (g : Env) (hg : E4 g x1b x1n x1c x5 x7) (h : H) (hS : n8 x1b x1n x1c x5 x7 Kn Ke2 Kr h) : wpC none Try.prog 59 n7_c1 (Q2 Kn Ke2 Kr) g h := by
  obtain ⟨N0, hS⟩ := hS
  refine wpC_loop' (x := n8_c1) (by kernel_rfl) (fun k g h => ∃ (x1b : Option Addr) (x1n : Nat) (x1c : Nat) (x5 : Int) (x7 : Int), E4 g x1b x1n x1c x5 x7 ∧ n8_L Kn Ke2 Kr k x1b x1n x1c x5 x7 h) (fun g h hr => ?_) (fun N g h hr => ?_) N0 ⟨x1b, x1n, x1c, x5, x7, hg, hS⟩
  · obtain ⟨x1b, x1n, x1c, x5, x7, hg, hS⟩ := hr
    exact hS.elim
  · obtain ⟨x1b, x1n, x1c, x5, x7, hg, hS⟩ := hr
    have hw : wpC none Try.prog 59 n8_c1 (Q3 (fun z1b z1n z1c z5 z7 h => n8_L Kn Ke2 Kr N z1b z1n z1c z5 z7 h) Ke2 Kr) g h := by
      obtain ⟨hg1, hg5, hg7, hds⟩ := hg
      refine wpC_of_wpx (by kernel_rfl) (by kernel_rfl) (g' := (((⟨g.v, []⟩ : Env).upd (some 1) (.slice x1b x1n x1c)).upd (some 5) (.int .i64 x5)).upd (some 7) (.int .i64 x7)) (by rw [env_ds hds, upd_self hg1, upd_self hg5, upd_self hg7]) ?_
      have e : (n8_L Kn Ke2 Kr (N + 1) x1b x1n x1c x5 x7 h) = wpx none Try.prog 59 n8_c1 (Q3 (fun z1b z1n z1c z5 z7 h => n8_L Kn Ke2 Kr N z1b z1n z1c z5 z7 h) Ke2 Kr) ((((⟨g.v, []⟩ : Env).upd (some 1) (.slice x1b x1n x1c)).upd (some 5) (.int .i64 x5)).upd (some 7) (.int .i64 x7)) h := by kernel_rfl
      exact e ▸ hS
    refine hw.mono ?_
    intro e g' h' hq
    cases e with
    | normal => exact D4_ok (K := (fun z1b z1n z1c z5 z7 h => n8_L Kn Ke2 Kr N z1b z1n z1c z5 z7 h)) hq
    | _ => exact hq
abbrev n7 (x1b : Option Addr) (x1n : Nat) (x1c : Nat) (x5 : Int) (x7 : Int) (Kn : T3) (Kr : T0) (h : H) : Prop := n8 x1b x1n x1c x5 x7 Kn Kn Kr h
theorem n7_ok (x1b : Option Addr) (x1n : Nat) (x1c : Nat) (x5 : Int) (x7 : Int) (Kn : T3) (Kr : T0) (g : Env) (hg : E4 g x1b x1n x1c x5 x7) (h : H) (hS : n7 x1b x1n x1c x5 x7 Kn Kr h) : wpC none Try.prog 59 n6_c2 (Q1 Kn Kr) g h := by
  refine wpC_block' (id := 2) (x := n7_c1) (by kernel_rfl) (n8_ok x1b x1n x1c x5 x7 Kn Kn Kr g hg h hS) ?_
  intro e g' h' hq
  cases e <;> exact hq
def Q4 (Kn : T4) (Kr : T0) : XPost
  | .normal, g, h => D4 Kn g h
  | .ret, g, h => D0 Kr g h
  | _, _, _ => False
abbrev n6 (x1b : Option Addr) (x1n : Nat) (x1c : Nat) (x5 : Int) (Kn : T3) (Kr : T0) (h : H) : Prop :=
  n7 x1b x1n x1c x5 (0 : Int) Kn Kr h
theorem n6_ok (x1b : Option Addr) (x1n : Nat) (x1c : Nat) (x5 : Int) (Kn : T3) (Kr : T0) (g : Env) (hg : E3 g x1b x1n x1c x5) (h : H) (hS : n6 x1b x1n x1c x5 Kn Kr h) : wpC none Try.prog 59 n4_c1 (Q1 Kn Kr) g h := by
  obtain ⟨hg1, hg5, hds⟩ := hg
  refine wpC_seq' (x := n6_c1) (y := n6_c2) (Q' := (Q4 (fun z1b z1n z1c z5 z7 h => n7 z1b z1n z1c z5 z7 Kn Kr h) Kr)) (by kernel_rfl) ?_ ?_
  · refine wpC_of_wpx (by kernel_rfl) (by kernel_rfl) (g' := ((⟨g.v, []⟩ : Env).upd (some 1) (.slice x1b x1n x1c)).upd (some 5) (.int .i64 x5)) (by rw [env_ds hds, upd_self hg1, upd_self hg5]) ?_
    have e : (n6 x1b x1n x1c x5 Kn Kr h) = wpx none Try.prog 59 n6_c1 (Q4 (fun z1b z1n z1c z5 z7 h => n7 z1b z1n z1c z5 z7 Kn Kr h) Kr) (((⟨g.v, []⟩ : Env).upd (some 1) (.slice x1b x1n x1c)).upd (some 5) (.int .i64 x5)) h := by kernel_rfl
    exact e ▸ hS
  · intro e g' h' hq
    cases e with
    | normal =>
      have hq : D4 (fun z1b z1n z1c z5 z7 h => n7 z1b z1n z1c z5 z7 Kn Kr h) g' h' := hq
      obtain ⟨y1b, y1n, y1c, y5, y7, hg', hq⟩ := D4_ok hq
      exact n7_ok y1b y1n y1c y5 y7 Kn Kr g' hg' h' hq
    | _ => exact hq
abbrev n4 (x1b : Option Addr) (x1n : Nat) (x1c : Nat) (x5 : Int) (Kn : T0) (Kr : T0) (h : H) : Prop := n6 x1b x1n x1c x5 (fun z1b z1n z1c z5 h => n5 z1b z1n z1c z5 Kn Kr h) Kr h
theorem n4_ok (x1b : Option Addr) (x1n : Nat) (x1c : Nat) (x5 : Int) (Kn : T0) (Kr : T0) (g : Env) (hg : E3 g x1b x1n x1c x5) (h : H) (hS : n4 x1b x1n x1c x5 Kn Kr h) : wpC none Try.prog 59 n3_c2 (Q0 Kn Kr) g h := by
  refine wpC_seq' (x := n4_c1) (y := n4_c2) (by kernel_rfl) (n6_ok x1b x1n x1c x5 (fun z1b z1n z1c z5 h => n5 z1b z1n z1c z5 Kn Kr h) Kr g hg h hS) ?_
  intro e g' h' hq
  cases e with
  | normal =>
    have hq : D3 (fun z1b z1n z1c z5 h => n5 z1b z1n z1c z5 Kn Kr h) g' h' := hq
    obtain ⟨y1b, y1n, y1c, y5, hg', hq⟩ := D3_ok hq
    exact n5_ok y1b y1n y1c y5 Kn Kr g' hg' h' hq
  | _ => exact hq
noncomputable def n9_c1 : Code := cFst n3_c1
noncomputable def n9_c2 : Code := cSnd n3_c1
abbrev T5 := (Option Addr) → Nat → Nat → (Option Addr) → Nat → Nat → Int → Int → H → Prop
def E5 (g : Env) (x0b : Option Addr) (x0n : Nat) (x0c : Nat) (x1b : Option Addr) (x1n : Nat) (x1c : Nat) (x5 : Int) (x6 : Int) : Prop := g.v 0 = (.slice x0b x0n x0c) ∧ g.v 1 = (.slice x1b x1n x1c) ∧ g.v 5 = (.int .i64 x5) ∧ g.v 6 = (.int .i64 x6) ∧ g.ds = []
def D5 (K : T5) (g : Env) (h : H) : Prop := nilDs g.ds (vSlice (g.v 0) fun s47b s47n s47c => vSlice (g.v 1) fun s48b s48n s48c => vInt .i64 (g.v 5) fun i49 => vInt .i64 (g.v 6) fun i50 => K s47b s47n s47c s48b s48n s48c i49 i50 h)
theorem D5_ok {K : T5} {g : Env} {h : H} (hq : D5 K g h) : ∃ (x0b : Option Addr) (x0n : Nat) (x0c : Nat) (x1b : Option Addr) (x1n : Nat) (x1c : Nat) (x5 : Int) (x6 : Int), E5 g x0b x0n x0c x1b x1n x1c x5 x6 ∧ K x0b x0n x0c x1b x1n x1c x5 x6 h := by
  obtain ⟨hd, hq⟩ := nilDs_ok hq
  obtain ⟨y52b, y52n, y52c, e51, q53⟩ := vSlice_ok hq
  obtain ⟨y55b, y55n, y55c, e54, q56⟩ := vSlice_ok q53
  obtain ⟨y58, e57, q59⟩ := vInt_ok q56
  obtain ⟨y61, e60, q62⟩ := vInt_ok q59
  exact ⟨y52b, y52n, y52c, y55b, y55n, y55c, y58, y61, ⟨e51, e54, e57, e60, hd⟩, q62⟩
noncomputable def n10_c1 : Code := cFst n9_c2
def Q5 (Kn : T3) (Ke0 : T3) (Kr : T0) : XPost
  | .normal, g, h => D3 Kn g h
  | .ret, g, h => D0 Kr g h
  | .exit id, g, h => cond (Nat.beq id 0) (D3 Ke0 g h) (False)
  | _, _, _ => False
noncomputable def n11_c1 : Code := cFst n10_c1
def Q6 (Kn : T5) (Ke0 : T3) (Kr : T0) : XPost
  | .normal, g, h => D5 Kn g h
  | .ret, g, h => D0 Kr g h
  | .exit id, g, h => cond (Nat.beq id 0) (D3 Ke0 g h) (False)
  | _, _, _ => False
def n11_L (Kn : T3) (Ke0 : T3) (Kr : T0) : Nat → (Option Addr) → Nat → Nat → (Option Addr) → Nat → Nat → Int → Int → H → Prop
  | 0 => fun _ _ _ _ _ _ _ _ _ => False
  | N + 1 => fun x0b x0n x0c x1b x1n x1c x5 x6 h => Spl (x6 < (x0n : Int)) (Spl (x5 ≤ (3000 : Int)) ((0 ≤ x6 ∧ x6 < (x0n : Int)) ∧ (vSome x0b fun a63 => ∃ s64, cell h ((a63.add (Int.toNat x6 * 4)).add 2) = some (S s64) ∧ ((16 : Int) ≠ 0 ∧ (Rng .i64 (Int.tdiv (s64.length : Int) (16 : Int)) ∧ (Rng .i64 (x5 + (Int.tdiv (s64.length : Int) (16 : Int))) ∧ (Rng .i64 (x6 + (1 : Int)) ∧ (n11_L Kn Ke0 Kr N x0b x0n x0c x1b x1n x1c (x5 + (Int.tdiv (s64.length : Int) (16 : Int))) (x6 + (1 : Int)) h))))))) (Ke0 x1b x1n x1c x5 h)) (Ke0 x1b x1n x1c x5 h)
abbrev n11 (x0b : Option Addr) (x0n : Nat) (x0c : Nat) (x1b : Option Addr) (x1n : Nat) (x1c : Nat) (x5 : Int) (x6 : Int) (Kn : T3) (Ke0 : T3) (Kr : T0) (h : H) : Prop := ∃ N, n11_L Kn Ke0 Kr N x0b x0n x0c x1b x1n x1c x5 x6 h
theorem n11_ok (x0b : Option Addr) (x0n : Nat) (x0c : Nat) (x1b : Option Addr) (x1n : Nat) (x1c : Nat) (x5 : Int) (x6 : Int) (Kn : T3) (Ke0 : T3) (Kr : T0) (g : Env) (hg : E5 g x0b x0n x0c x1b x1n x1c x5 x6) (h : H) (hS : n11 x0b x0n x0c x1b x1n x1c x5 x6 Kn Ke0 Kr h) : wpC none Try.prog 59 n10_c1 (Q5 Kn Ke0 Kr) g h := by
  obtain ⟨N0, hS⟩ := hS
  refine wpC_loop' (x := n11_c1) (by kernel_rfl) (fun k g h => ∃ (x0b : Option Addr) (x0n : Nat) (x0c : Nat) (x1b : Option Addr) (x1n : Nat) (x1c : Nat) (x5 : Int) (x6 : Int), E5 g x0b x0n x0c x1b x1n x1c x5 x6 ∧ n11_L Kn Ke0 Kr k x0b x0n x0c x1b x1n x1c x5 x6 h) (fun g h hr => ?_) (fun N g h hr => ?_) N0 ⟨x0b, x0n, x0c, x1b, x1n, x1c, x5, x6, hg, hS⟩
  · obtain ⟨x0b, x0n, x0c, x1b, x1n, x1c, x5, x6, hg, hS⟩ := hr
    exact hS.elim
  · obtain ⟨x0b, x0n, x0c, x1b, x1n, x1c, x5, x6, hg, hS⟩ := hr
    have hw : wpC none Try.prog 59 n11_c1 (Q6 (fun z0b z0n z0c z1b z1n z1c z5 z6 h => n11_L Kn Ke0 Kr N z0b z0n z0c z1b z1n z1c z5 z6 h) Ke0 Kr) g h := by
      obtain ⟨hg0, hg1, hg5, hg6, hds⟩ := hg
      refine wpC_of_wpx (by kernel_rfl) (by kernel_rfl) (g' := ((((⟨g.v, []⟩ : Env).upd (some 0) (.slice x0b x0n x0c)).upd (some 1) (.slice x1b x1n x1c)).upd (some 5) (.int .i64 x5)).upd (some 6) (.int .i64 x6)) (by rw [env_ds hds, upd_self hg0, upd_self hg1, upd_self hg5, upd_self hg6]) ?_
      have e : (n11_L Kn Ke0 Kr (N + 1) x0b x0n x0c x1b x1n x1c x5 x6 h) = wpx none Try.prog 59 n11_c1 (Q6 (fun z0b z0n z0c z1b z1n z1c z5 z6 h => n11_L Kn Ke0 Kr N z0b z0n z0c z1b z1n z1c z5 z6 h) Ke0 Kr) (((((⟨g.v, []⟩ : Env).upd (some 0) (.slice x0b x0n x0c)).upd (some 1) (.slice x1b x1n x1c)).upd (some 5) (.int .i64 x5)).upd (some 6) (.int .i64 x6)) h := by kernel_rfl
      exact e ▸ hS
    refine hw.mono ?_
    intro e g' h' hq
    cases e with
    | normal => exact D5_ok (K := (fun z0b z0n z0c z1b z1n z1c z5 z6 h => n11_L Kn Ke0 Kr N z0b z0n z0c z1b z1n z1c z5 z6 h)) hq
    | _ => exact hq
abbrev n10 (x0b : Option Addr) (x0n : Nat) (x0c : Nat) (x1b : Option Addr) (x1n : Nat) (x1c : Nat) (x5 : Int) (x6 : Int) (Kn : T3) (Kr : T0) (h : H) : Prop := n11 x0b x0n x0c x1b x1n x1c x5 x6 Kn Kn Kr h
theorem n10_ok (x0b : Option Addr) (x0n : Nat) (x0c : Nat) (x1b : Option Addr) (x1n : Nat) (x1c : Nat) (x5 : Int) (x6 : Int) (Kn : T3) (Kr : T0) (g : Env) (hg : E5 g x0b x0n x0c x1b x1n x1c x5 x6) (h : H) (hS : n10 x0b x0n x0c x1b x1n x1c x5 x6 Kn Kr h) : wpC none Try.prog 59 n9_c2 (Q1 Kn Kr) g h := by
  refine wpC_block' (id := 0) (x := n10_c1) (by kernel_rfl) (n11_ok x0b x0n x0c x1b x1n x1c x5 x6 Kn Kn Kr g hg h hS) ?_
  intro e g' h' hq
  cases e <;> exact hq
def Q7 (Kn : T5) (Kr : T0) : XPost
  | .normal, g, h => D5 Kn g h
  | .ret, g, h => D0 Kr g h
  | _, _, _ => False
abbrev n9 (x0b : Option Addr) (x0n : Nat) (x0c : Nat) (x1b : Option Addr) (x1n : Nat) (x1c : Nat) (x5 : Int) (Kn : T3) (Kr : T0) (h : H) : Prop :=
  n10 x0b x0n x0c x1b x1n x1c x5 (0 : Int) Kn Kr h
theorem n9_ok (x0b : Option Addr) (x0n : Nat) (x0c : Nat) (x1b : Option Addr) (x1n : Nat) (x1c : Nat) (x5 : Int) (Kn : T3) (Kr : T0) (g : Env) (hg : E2 g x0b x0n x0c x1b x1n x1c x5) (h : H) (hS : n9 x0b x0n x0c x1b x1n x1c x5 Kn Kr h) : wpC none Try.prog 59 n3_c1 (Q1 Kn Kr) g h := by
  obtain ⟨hg0, hg1, hg5, hds⟩ := hg
  refine wpC_seq' (x := n9_c1) (y := n9_c2) (Q' := (Q7 (fun z0b z0n z0c z1b z1n z1c z5 z6 h => n10 z0b z0n z0c z1b z1n z1c z5 z6 Kn Kr h) Kr)) (by kernel_rfl) ?_ ?_
  · refine wpC_of_wpx (by kernel_rfl) (by kernel_rfl) (g' := (((⟨g.v, []⟩ : Env).upd (some 0) (.slice x0b x0n x0c)).upd (some 1) (.slice x1b x1n x1c)).upd (some 5) (.int .i64 x5)) (by rw [env_ds hds, upd_self hg0, upd_self hg1, upd_self hg5]) ?_
    have e : (n9 x0b x0n x0c x1b x1n x1c x5 Kn Kr h) = wpx none Try.prog 59 n9_c1 (Q7 (fun z0b z0n z0c z1b z1n z1c z5 z6 h => n10 z0b z0n z0c z1b z1n z1c z5 z6 Kn Kr h) Kr) ((((⟨g.v, []⟩ : Env).upd (some 0) (.slice x0b x0n x0c)).upd (some 1) (.slice x1b x1n x1c)).upd (some 5) (.int .i64 x5)) h := by kernel_rfl
    exact e ▸ hS
  · intro e g' h' hq
    cases e with
    | normal =>
      have hq : D5 (fun z0b z0n z0c z1b z1n z1c z5 z6 h => n10 z0b z0n z0c z1b z1n z1c z5 z6 Kn Kr h) g' h' := hq
      obtain ⟨y0b, y0n, y0c, y1b, y1n, y1c, y5, y6, hg', hq⟩ := D5_ok hq
      exact n10_ok y0b y0n y0c y1b y1n y1c y5 y6 Kn Kr g' hg' h' hq
    | _ => exact hq
abbrev n3 (x0b : Option Addr) (x0n : Nat) (x0c : Nat) (x1b : Option Addr) (x1n : Nat) (x1c : Nat) (x5 : Int) (Kn : T0) (Kr : T0) (h : H) : Prop := n9 x0b x0n x0c x1b x1n x1c x5 (fun z1b z1n z1c z5 h => n4 z1b z1n z1c z5 Kn Kr h) Kr h
theorem n3_ok (x0b : Option Addr) (x0n : Nat) (x0c : Nat) (x1b : Option Addr) (x1n : Nat) (x1c : Nat) (x5 : Int) (Kn : T0) (Kr : T0) (g : Env) (hg : E2 g x0b x0n x0c x1b x1n x1c x5) (h : H) (hS : n3 x0b x0n x0c x1b x1n x1c x5 Kn Kr h) : wpC none Try.prog 59 n2_c2 (Q0 Kn Kr) g h := by
  refine wpC_seq' (x := n3_c1) (y := n3_c2) (by kernel_rfl) (n9_ok x0b x0n x0c x1b x1n x1c x5 (fun z1b z1n z1c z5 h => n4 z1b z1n z1c z5 Kn Kr h) Kr g hg h hS) ?_
  intro e g' h' hq
  cases e with
  | normal =>
    have hq : D3 (fun z1b z1n z1c z5 h => n4 z1b z1n z1c z5 Kn Kr h) g' h' := hq
    obtain ⟨y1b, y1n, y1c, y5, hg', hq⟩ := D3_ok hq
    exact n4_ok y1b y1n y1c y5 Kn Kr g' hg' h' hq
  | _ => exact hq
def Q8 (Kn : T2) (Kr : T0) : XPost
  | .normal, g, h => D2 Kn g h
  | .ret, g, h => D0 Kr g h
  | _, _, _ => False
abbrev n2 (x0b : Option Addr) (x0n : Nat) (x0c : Nat) (x1b : Option Addr) (x1n : Nat) (x1c : Nat) (Kn : T0) (Kr : T0) (h : H) : Prop :=
  Rng .i64 ((if (3001 : Int) < (x0n : Int) then (3001 : Int) else (x0n : Int)) + (if (3001 : Int) < (x1n : Int) then (3001 : Int) else (x1n : Int))) ∧ (n3 x0b x0n x0c x1b x1n x1c ((if (3001 : Int) < (x0n : Int) then (3001 : Int) else (x0n : Int)) + (if (3001 : Int) < (x1n : Int) then (3001 : Int) else (x1n : Int))) Kn Kr h)
theorem n2_ok (x0b : Option Addr) (x0n : Nat) (x0c : Nat) (x1b : Option Addr) (x1n : Nat) (x1c : Nat) (Kn : T0) (Kr : T0) (g : Env) (hg : E1 g x0b x0n x0c x1b x1n x1c) (h : H) (hS : n2 x0b x0n x0c x1b x1n x1c Kn Kr h) : wpC none Try.prog 59 n1_c2 (Q0 Kn Kr) g h := by
  obtain ⟨hg0, hg1, hds⟩ := hg
  refine wpC_seq' (x := n2_c1) (y := n2_c2) (Q' := (Q8 (fun z0b z0n z0c z1b z1n z1c z5 h => n3 z0b z0n z0c z1b z1n z1c z5 Kn Kr h) Kr)) (by kernel_rfl) ?_ ?_
  · refine wpC_of_wpx (by kernel_rfl) (by kernel_rfl) (g' := ((⟨g.v, []⟩ : Env).upd (some 0) (.slice x0b x0n x0c)).upd (some 1) (.slice x1b x1n x1c)) (by rw [env_ds hds, upd_self hg0, upd_self hg1]) ?_
    have e : (n2 x0b x0n x0c x1b x1n x1c Kn Kr h) = wpx none Try.prog 59 n2_c1 (Q8 (fun z0b z0n z0c z1b z1n z1c z5 h => n3 z0b z0n z0c z1b z1n z1c z5 Kn Kr h) Kr) (((⟨g.v, []⟩ : Env).upd (some 0) (.slice x0b x0n x0c)).upd (some 1) (.slice x1b x1n x1c)) h := by kernel_rfl
    exact e ▸ hS
  · intro e g' h' hq
    cases e with
    | normal =>
      have hq : D2 (fun z0b z0n z0c z1b z1n z1c z5 h => n3 z0b z0n z0c z1b z1n z1c z5 Kn Kr h) g' h' := hq
      obtain ⟨y0b, y0n, y0c, y1b, y1n, y1c, y5, hg', hq⟩ := D2_ok hq
      exact n3_ok y0b y0n y0c y1b y1n y1c y5 Kn Kr g' hg' h' hq
    | _ => exact hq
def Q9 (Kn : T1) (Kr : T0) : XPost
  | .normal, g, h => D1 Kn g h
  | .ret, g, h => D0 Kr g h
  | _, _, _ => False
abbrev n1 (x0b : Option Addr) (x0n : Nat) (x0c : Nat) (x1b : Option Addr) (x1n : Nat) (x1c : Nat) (Kn : T0) (Kr : T0) (h : H) : Prop :=
  n2 x0b x0n x0c x1b x1n x1c Kn Kr h
theorem n1_ok (x0b : Option Addr) (x0n : Nat) (x0c : Nat) (x1b : Option Addr) (x1n : Nat) (x1c : Nat) (Kn : T0) (Kr : T0) (g : Env) (hg : E1 g x0b x0n x0c x1b x1n x1c) (h : H) (hS : n1 x0b x0n x0c x1b x1n x1c Kn Kr h) : wpC none Try.prog 59 code (Q0 Kn Kr) g h := by
  obtain ⟨hg0, hg1, hds⟩ := hg
  refine wpC_seq' (x := n1_c1) (y := n1_c2) (Q' := (Q9 (fun z0b z0n z0c z1b z1n z1c h => n2 z0b z0n z0c z1b z1n z1c Kn Kr h) Kr)) (by kernel_rfl) ?_ ?_
  · refine wpC_of_wpx (by kernel_rfl) (by kernel_rfl) (g' := ((⟨g.v, []⟩ : Env).upd (some 0) (.slice x0b x0n x0c)).upd (some 1) (.slice x1b x1n x1c)) (by rw [env_ds hds, upd_self hg0, upd_self hg1]) ?_
    have e : (n1 x0b x0n x0c x1b x1n x1c Kn Kr h) = wpx none Try.prog 59 n1_c1 (Q9 (fun z0b z0n z0c z1b z1n z1c h => n2 z0b z0n z0c z1b z1n z1c Kn Kr h) Kr) (((⟨g.v, []⟩ : Env).upd (some 0) (.slice x0b x0n x0c)).upd (some 1) (.slice x1b x1n x1c)) h := by kernel_rfl
    exact e ▸ hS
  · intro e g' h' hq
    cases e with
    | normal =>
      have hq : D1 (fun z0b z0n z0c z1b z1n z1c h => n2 z0b z0n z0c z1b z1n z1c Kn Kr h) g' h' := hq
      obtain ⟨y0b, y0n, y0c, y1b, y1n, y1c, hg', hq⟩ := D1_ok hq
      exact n2_ok y0b y0n y0c y1b y1n y1c Kn Kr g' hg' h' hq
    | _ => exact hq
/-- WHAT tympan/tympanlaw11.much ASKS -/
abbrev asks (x0b : Option Addr) (x0n : Nat) (x0c : Nat) (x1b : Option Addr) (x1n : Nat) (x1c : Nat) (K : Value → H → Prop) (h : H) : Prop := n1 x0b x0n x0c x1b x1n x1c (fun y4 h => K (.bool y4) h) (fun y4 h => K (.bool y4) h) h
theorem ok (x0b : Option Addr) (x0n : Nat) (x0c : Nat) (x1b : Option Addr) (x1n : Nat) (x1c : Nat) (K : Value → H → Prop) (h : H) (hS : asks x0b x0n x0c x1b x1n x1c K h) : HCalls Try.prog 8 ⟨[(.slice x0b x0n x0c), (.slice x1b x1n x1c)]⟩ h K := by
  refine calls_of_wpC (c := code) Try.func8 (by kernel_rfl) (Nat.le_of_ble_eq_true (by kernel_rfl)) ?_
  refine (n1_ok x0b x0n x0c x1b x1n x1c (fun y4 h => K (.bool y4) h) (fun y4 h => K (.bool y4) h) (env0 [(.slice x0b x0n x0c), (.slice x1b x1n x1c)]) ⟨rfl, rfl, rfl⟩ h hS).mono ?_
  intro e g' h' hq
  cases e with
  | normal =>
    have hq : D0 (fun y4 h => K (.bool y4) h) g' h' := hq
    obtain ⟨y4, ⟨hg4, hd⟩, hq⟩ := D0_ok hq
    show leaveX g'.ds h' _
    rw [hd]
    show K (g'.v 4) h'
    rw [hg4]
    exact hq
  | ret =>
    have hq : D0 (fun y4 h => K (.bool y4) h) g' h' := hq
    obtain ⟨y4, ⟨hg4, hd⟩, hq⟩ := D0_ok hq
    show leaveX g'.ds h' _
    rw [hd]
    show K (g'.v 4) h'
    rw [hg4]
    exact hq
  | _ => exact hq
end Sx.l11_much

/-! ### tympan/tympanlaw11.known -/
namespace Sx.l11_known
noncomputable def code : Code := bodyOf Try.f9
abbrev T0 := Bool → H → Prop
def E0 (g : Env) (x0 : Bool) : Prop := g.v 0 = (.bool x0) ∧ g.ds = []
def D0 (K : T0) (g : Env) (h : H) : Prop := nilDs g.ds (vBool (g.v 0) fun b1 => K b1 h)
theorem D0_ok {K : T0} {g : Env} {h : H} (hq : D0 K g h) : ∃ (x0 : Bool), E0 g x0 ∧ K x0 h := by
  obtain ⟨hd, hq⟩ := nilDs_ok hq
  obtain ⟨y3, e2, q4⟩ := vBool_ok hq
  exact ⟨y3, ⟨e2, hd⟩, q4⟩
def Q0 (Kn : T0) (Kr : T0) : XPost
  | .normal, g, h => D0 Kn g h
  | .ret, g, h => D0 Kr g h
  | _, _, _ => False
abbrev T1 := H → Prop
def E1 (g : Env)  : Prop := g.ds = []
def D1 (K : T1) (g : Env) (h : H) : Prop := nilDs g.ds (K h)
theorem D1_ok {K : T1} {g : Env} {h : H} (hq : D1 K g h) : E1 g  ∧ K  h := by
  obtain ⟨hd, hq⟩ := nilDs_ok hq
  skip
  exact ⟨hd, hq⟩
noncomputable def n1_c1 : Code := cFst code
noncomputable def n1_c2 : Code := cSnd code
noncomputable def n2_c1 : Code := cFst n1_c2
noncomputable def n2_c2 : Code := cSnd n1_c2
abbrev T2 := (Option Addr) → Nat → Nat → H → Prop
def E2 (g : Env) (x1b : Option Addr) (x1n : Nat) (x1c : Nat) : Prop := g.v 1 = (.slice x1b x1n x1c) ∧ g.ds = []
def D2 (K : T2) (g : Env) (h : H) : Prop := nilDs g.ds (vSlice (g.v 1) fun s5b s5n s5c => K s5b s5n s5c h)
theorem D2_ok {K : T2} {g : Env} {h : H} (hq : D2 K g h) : ∃ (x1b : Option Addr) (x1n : Nat) (x1c : Nat), E2 g x1b x1n x1c ∧ K x1b x1n x1c h := by
  obtain ⟨hd, hq⟩ := nilDs_ok hq
  obtain ⟨y7b, y7n, y7c, e6, q8⟩ := vSlice_ok hq
  exact ⟨y7b, y7n, y7c, ⟨e6, hd⟩, q8⟩
noncomputable def n3_c1 : Code := cFst n2_c2
noncomputable def n3_c2 : Code := cSnd n2_c2
abbrev T3 := (Option Addr) → Nat → Nat → (Option Addr) → Nat → Nat → H → Prop
def E3 (g : Env) (x1b : Option Addr) (x1n : Nat) (x1c : Nat) (x2b : Option Addr) (x2n : Nat) (x2c : Nat) : Prop := g.v 1 = (.slice x1b x1n x1c) ∧ g.v 2 = (.slice x2b x2n x2c) ∧ g.ds = []
def D3 (K : T3) (g : Env) (h : H) : Prop := nilDs g.ds (vSlice (g.v 1) fun s9b s9n s9c => vSlice (g.v 2) fun s10b s10n s10c => K s9b s9n s9c s10b s10n s10c h)
theorem D3_ok {K : T3} {g : Env} {h : H} (hq : D3 K g h) : ∃ (x1b : Option Addr) (x1n : Nat) (x1c : Nat) (x2b : Option Addr) (x2n : Nat) (x2c : Nat), E3 g x1b x1n x1c x2b x2n x2c ∧ K x1b x1n x1c x2b x2n x2c h := by
  obtain ⟨hd, hq⟩ := nilDs_ok hq
  obtain ⟨y12b, y12n, y12c, e11, q13⟩ := vSlice_ok hq
  obtain ⟨y15b, y15n, y15c, e14, q16⟩ := vSlice_ok q13
  exact ⟨y12b, y12n, y12c, y15b, y15n, y15c, ⟨e11, e14, hd⟩, q16⟩
noncomputable def n4_c1 : Code := cFst n3_c2
noncomputable def n4_c2 : Code := cSnd n3_c2
abbrev T4 := (Option Addr) → Nat → Nat → (Option Addr) → Nat → Nat → (Option Addr) → Nat → Nat → H → Prop
def E4 (g : Env) (x1b : Option Addr) (x1n : Nat) (x1c : Nat) (x2b : Option Addr) (x2n : Nat) (x2c : Nat) (x3b : Option Addr) (x3n : Nat) (x3c : Nat) : Prop := g.v 1 = (.slice x1b x1n x1c) ∧ g.v 2 = (.slice x2b x2n x2c) ∧ g.v 3 = (.slice x3b x3n x3c) ∧ g.ds = []
def D4 (K : T4) (g : Env) (h : H) : Prop := nilDs g.ds (vSlice (g.v 1) fun s17b s17n s17c => vSlice (g.v 2) fun s18b s18n s18c => vSlice (g.v 3) fun s19b s19n s19c => K s17b s17n s17c s18b s18n s18c s19b s19n s19c h)
theorem D4_ok {K : T4} {g : Env} {h : H} (hq : D4 K g h) : ∃ (x1b : Option Addr) (x1n : Nat) (x1c : Nat) (x2b : Option Addr) (x2n : Nat) (x2c : Nat) (x3b : Option Addr) (x3n : Nat) (x3c : Nat), E4 g x1b x1n x1c x2b x2n x2c x3b x3n x3c ∧ K x1b x1n x1c x2b x2n x2c x3b x3n x3c h := by
  obtain ⟨hd, hq⟩ := nilDs_ok hq
  obtain ⟨y21b, y21n, y21c, e20, q22⟩ := vSlice_ok hq
  obtain ⟨y24b, y24n, y24c, e23, q25⟩ := vSlice_ok q22
  obtain ⟨y27b, y27n, y27c, e26, q28⟩ := vSlice_ok q25
  exact ⟨y21b, y21n, y21c, y24b, y24n, y24c, y27b, y27n, y27c, ⟨e20, e23, e26, hd⟩, q28⟩
noncomputable def n5_c1 : Code := cFst n4_c2
noncomputable def n5_c2 : Code := cSnd n4_c2
abbrev T5 := (Option Addr) → Nat → Nat → (Option Addr) → Nat → Nat → (Option Addr) → Nat → Nat → (Option Addr) → Nat → Nat → H → Prop
def E5 (g : Env) (x1b : Option Addr) (x1n : Nat) (x1c : Nat) (x2b : Option Addr) (x2n : Nat) (x2c : Nat) (x3b : Option Addr) (x3n : Nat) (x3c : Nat) (x4b : Option Addr) (x4n : Nat) (x4c : Nat) : Prop := g.v 1 = (.slice x1b x1n x1c) ∧ g.v 2 = (.slice x2b x2n x2c) ∧ g.v 3 = (.slice x3b x3n x3c) ∧ g.v 4 = (.slice x4b x4n x4c) ∧ g.ds = []
def D5 (K : T5) (g : Env) (h : H) : Prop := nilDs g.ds (vSlice (g.v 1) fun s29b s29n s29c => vSlice (g.v 2) fun s30b s30n s30c => vSlice (g.v 3) fun s31b s31n s31c => vSlice (g.v 4) fun s32b s32n s32c => K s29b s29n s29c s30b s30n s30c s31b s31n s31c s32b s32n s32c h)
theorem D5_ok {K : T5} {g : Env} {h : H} (hq : D5 K g h) : ∃ (x1b : Option Addr) (x1n : Nat) (x1c : Nat) (x2b : Option Addr) (x2n : Nat) (x2c : Nat) (x3b : Option Addr) (x3n : Nat) (x3c : Nat) (x4b : Option Addr) (x4n : Nat) (x4c : Nat), E5 g x1b x1n x1c x2b x2n x2c x3b x3n x3c x4b x4n x4c ∧ K x1b x1n x1c x2b x2n x2c x3b x3n x3c x4b x4n x4c h := by
  obtain ⟨hd, hq⟩ := nilDs_ok hq
  obtain ⟨y34b, y34n, y34c, e33, q35⟩ := vSlice_ok hq
  obtain ⟨y37b, y37n, y37c, e36, q38⟩ := vSlice_ok q35
  obtain ⟨y40b, y40n, y40c, e39, q41⟩ := vSlice_ok q38
  obtain ⟨y43b, y43n, y43c, e42, q44⟩ := vSlice_ok q41
  exact ⟨y34b, y34n, y34c, y37b, y37n, y37c, y40b, y40n, y40c, y43b, y43n, y43c, ⟨e33, e36, e39, e42, hd⟩, q44⟩
noncomputable def n6_c1 : Code := cFst n5_c2
noncomputable def n6_c2 : Code := cSnd n5_c2
abbrev T6 := (Option Addr) → Nat → Nat → (Option Addr) → Nat → Nat → (Option Addr) → Nat → Nat → Bool → H → Prop
def E6 (g : Env) (x1b : Option Addr) (x1n : Nat) (x1c : Nat) (x3b : Option Addr) (x3n : Nat) (x3c : Nat) (x4b : Option Addr) (x4n : Nat) (x4c : Nat) (x5 : Bool) : Prop := g.v 1 = (.slice x1b x1n x1c) ∧ g.v 3 = (.slice x3b x3n x3c) ∧ g.v 4 = (.slice x4b x4n x4c) ∧ g.v 5 = (.bool x5) ∧ g.ds = []
def D6 (K : T6) (g : Env) (h : H) : Prop := nilDs g.ds (vSlice (g.v 1) fun s45b s45n s45c => vSlice (g.v 3) fun s46b s46n s46c => vSlice (g.v 4) fun s47b s47n s47c => vBool (g.v 5) fun b48 => K s45b s45n s45c s46b s46n s46c s47b s47n s47c b48 h)
theorem D6_ok {K : T6} {g : Env} {h : H} (hq : D6 K g h) : ∃ (x1b : Option Addr) (x1n : Nat) (x1c : Nat) (x3b : Option Addr) (x3n : Nat) (x3c : Nat) (x4b : Option Addr) (x4n : Nat) (x4c : Nat) (x5 : Bool), E6 g x1b x1n x1c x3b x3n x3c x4b x4n x4c x5 ∧ K x1b x1n x1c x3b x3n x3c x4b x4n x4c x5 h := by
  obtain ⟨hd, hq⟩ := nilDs_ok hq
  obtain ⟨y50b, y50n, y50c, e49, q51⟩ := vSlice_ok hq
  obtain ⟨y53b, y53n, y53c, e52, q54⟩ := vSlice_ok q51
  obtain ⟨y56b, y56n, y56c, e55, q57⟩ := vSlice_ok q54
  obtain ⟨y59, e58, q60⟩ := vBool_ok q57
  exact ⟨y50b, y50n, y50c, y53b, y53n, y53c, y56b, y56n, y56c, y59, ⟨e49, e52, e55, e58, hd⟩, q60⟩
abbrev n7 (x1b : Option Addr) (x1n : Nat) (x1c : Nat) (x3b : Option Addr) (x3n : Nat) (x3c : Nat) (x4b : Option Addr) (x4n : Nat) (x4c : Nat) (x5 : Bool) (Kn : T0) (Kr : T0) (h : H) : Prop :=
  cond x5 (HCalls Try.prog 16 ⟨[(.slice x3b x3n x3c), (S ([] : List UInt8))]⟩ h fun v61 h62 => vInt .i64 v61 fun i63 => Spl (i63 = (2 : Int)) (HCalls Try.prog 16 ⟨[(.slice x3b x3n x3c), (S ([112] : List UInt8))]⟩ h62 fun v64 h65 => vInt .i64 v64 fun i66 => Spl (i66 = (4 : Int)) (newx h65 #[(S ([100, 105, 118] : List UInt8))] 9 fun a67 h68 => HCalls Try.prog 18 ⟨[(.slice x1b x1n x1c), (.slice (some a67) 1 1)]⟩ h68 fun v69 h70 => vInt .i64 v69 fun i71 => Spl (i71 = (1 : Int)) (newx h70 #[(S ([108, 105] : List UInt8))] 9 fun a72 h73 => HCalls Try.prog 22 ⟨[(.slice x4b x4n x4c), (.slice (some a72) 1 1)]⟩ h73 fun v74 h75 => vInt .i64 v74 fun i76 => Spl (i76 = (2 : Int)) (newx h75 #[(S ([117, 108] : List UInt8))] 9 fun a77 h78 => HCalls Try.prog 20 ⟨[(.slice x3b x3n x3c), (.slice (some a77) 1 1)]⟩ h78 fun v79 h80 => vInt .i64 v79 fun i81 => Spl (i81 = (2 : Int)) (HCalls Try.prog 12 ⟨[(.int .u8 (0 : Int)), (S ([112] : List UInt8))]⟩ h80 fun v82 h83 => vBool v82 fun b84 => cond b84 (HCalls Try.prog 14 ⟨[(S ([98] : List UInt8))]⟩ h83 fun v85 h86 => vBool v85 fun b87 => cond b87 (Kr true h86) (Kr false h86)) (Kr false h83)) (Kr false h80)) (Kr false h75)) (Kr false h70)) (Kr false h65)) (Kr false h62)) (Kr false h)
theorem n7_ok (x1b : Option Addr) (x1n : Nat) (x1c : Nat) (x3b : Option Addr) (x3n : Nat) (x3c : Nat) (x4b : Option Addr) (x4n : Nat) (x4c : Nat) (x5 : Bool) (Kn : T0) (Kr : T0) (g : Env) (hg : E6 g x1b x1n x1c x3b x3n x3c x4b x4n x4c x5) (h : H) (hS : n7 x1b x1n x1c x3b x3n x3c x4b x4n x4c x5 Kn Kr h) : wpC none Try.prog 63 n6_c2 (Q0 Kn Kr) g h := by
  obtain ⟨hg1, hg3, hg4, hg5, hds⟩ := hg
  refine wpC_of_wpx (by kernel_rfl) (by kernel_rfl) (g' := ((((⟨g.v, []⟩ : Env).upd (some 1) (.slice x1b x1n x1c)).upd (some 3) (.slice x3b x3n x3c)).upd (some 4) (.slice x4b x4n x4c)).upd (some 5) (.bool x5)) (by rw [env_ds hds, upd_self hg1, upd_self hg3, upd_self hg4, upd_self hg5]) ?_
  have e : (n7 x1b x1n x1c x3b x3n x3c x4b x4n x4c x5 Kn Kr h) = wpx none Try.prog 63 n6_c2 (Q0 Kn Kr) (((((⟨g.v, []⟩ : Env).upd (some 1) (.slice x1b x1n x1c)).upd (some 3) (.slice x3b x3n x3c)).upd (some 4) (.slice x4b x4n x4c)).upd (some 5) (.bool x5)) h := by kernel_rfl
  exact e ▸ hS
def Q1 (Kn : T6) (Kr : T0) : XPost
  | .normal, g, h => D6 Kn g h
  | .ret, g, h => D0 Kr g h
  | _, _, _ => False
abbrev n6 (x1b : Option Addr) (x1n : Nat) (x1c : Nat) (x2b : Option Addr) (x2n : Nat) (x2c : Nat) (x3b : Option Addr) (x3n : Nat) (x3c : Nat) (x4b : Option Addr) (x4n : Nat) (x4c : Nat) (Kn : T0) (Kr : T0) (h : H) : Prop :=
  newx h #[(S ([112] : List UInt8))] 9 fun a88 h89 => HCalls Try.prog 10 ⟨[(.slice x1b x1n x1c), (.int .u8 (2 : Int)), (.slice (some a88) 1 1)]⟩ h89 fun v90 h91 => vBool v90 fun b92 => cond b92 (newx h91 #[(S ([112] : List UInt8))] 9 fun a93 h94 => HCalls Try.prog 10 ⟨[(.slice x2b x2n x2c), (.int .u8 (2 : Int)), (.slice (some a93) 1 1)]⟩ h94 fun v95 h96 => vBool v95 fun b97 => cond b97 (n7 x1b x1n x1c x3b x3n x3c x4b x4n x4c false Kn Kr h96) (newx h96 #[(S ([120] : List UInt8)), (S ([112] : List UInt8))] 9 fun a98 h99 => HCalls Try.prog 10 ⟨[(.slice x2b x2n x2c), (.int .u8 (0 : Int)), (.slice (some a98) 2 2)]⟩ h99 fun v100 h101 => vBool v100 fun b102 => cond b102 (n7 x1b x1n x1c x3b x3n x3c x4b x4n x4c true Kn Kr h101) (n7 x1b x1n x1c x3b x3n x3c x4b x4n x4c false Kn Kr h101))) (n7 x1b x1n x1c x3b x3n x3c x4b x4n x4c false Kn Kr h91)
theorem n6_ok (x1b : Option Addr) (x1n : Nat) (x1c : Nat) (x2b : Option Addr) (x2n : Nat) (x2c : Nat) (x3b : Option Addr) (x3n : Nat) (x3c : Nat) (x4b : Option Addr) (x4n : Nat) (x4c : Nat) (Kn : T0) (Kr : T0) (g : Env) (hg : E5 g x1b x1n x1c x2b x2n x2c x3b x3n x3c x4b x4n x4c) (h : H) (hS : n6 x1b x1n x1c x2b x2n x2c x3b x3n x3c x4b x4n x4c Kn Kr h) : wpC none Try.prog 63 n5_c2 (Q0 Kn Kr) g h := by
  obtain ⟨hg1, hg2, hg3, hg4, hds⟩ := hg
  refine wpC_seq' (x := n6_c1) (y := n6_c2) (Q' := (Q1 (fun z1b z1n z1c z3b z3n z3c z4b z4n z4c z5 h => n7 z1b z1n z1c z3b z3n z3c z4b z4n z4c z5 Kn Kr h) Kr)) (by kernel_rfl) ?_ ?_
  · refine wpC_of_wpx (by kernel_rfl) (by kernel_rfl) (g' := ((((⟨g.v, []⟩ : Env).upd (some 1) (.slice x1b x1n x1c)).upd (some 2) (.slice x2b x2n x2c)).upd (some 3) (.slice x3b x3n x3c)).upd (some 4) (.slice x4b x4n x4c)) (by rw [env_ds hds, upd_self hg1, upd_self hg2, upd_self hg3, upd_self hg4]) ?_
    have e : (n6 x1b x1n x1c x2b x2n x2c x3b x3n x3c x4b x4n x4c Kn Kr h) = wpx none Try.prog 63 n6_c1 (Q1 (fun z1b z1n z1c z3b z3n z3c z4b z4n z4c z5 h => n7 z1b z1n z1c z3b z3n z3c z4b z4n z4c z5 Kn Kr h) Kr) (((((⟨g.v, []⟩ : Env).upd (some 1) (.slice x1b x1n x1c)).upd (some 2) (.slice x2b x2n x2c)).upd (some 3) (.slice x3b x3n x3c)).upd (some 4) (.slice x4b x4n x4c)) h := by kernel_rfl
    exact e ▸ hS
  · intro e g' h' hq
    cases e with
    | normal =>
      have hq : D6 (fun z1b z1n z1c z3b z3n z3c z4b z4n z4c z5 h => n7 z1b z1n z1c z3b z3n z3c z4b z4n z4c z5 Kn Kr h) g' h' := hq
      obtain ⟨y1b, y1n, y1c, y3b, y3n, y3c, y4b, y4n, y4c, y5, hg', hq⟩ := D6_ok hq
      exact n7_ok y1b y1n y1c y3b y3n y3c y4b y4n y4c y5 Kn Kr g' hg' h' hq
    | _ => exact hq
def Q2 (Kn : T5) (Kr : T0) : XPost
  | .normal, g, h => D5 Kn g h
  | .ret, g, h => D0 Kr g h
  | _, _, _ => False
abbrev n5 (x1b : Option Addr) (x1n : Nat) (x1c : Nat) (x2b : Option Addr) (x2n : Nat) (x2c : Nat) (x3b : Option Addr) (x3n : Nat) (x3c : Nat) (Kn : T0) (Kr : T0) (h : H) : Prop :=
  newx h #[(S ([104, 116, 109, 108] : List UInt8)), (S ([117, 108] : List UInt8)), (S ([108, 105] : List UInt8)), (S ([100, 105, 118] : List UInt8)), (S ([98] : List UInt8))] 9 fun a103 h104 => HCalls Try.prog 24 ⟨[(.slice (some a103) 5 5)]⟩ h104 fun v105 h106 => vSlice v105 fun s107b s107n s107c => n6 x1b x1n x1c x2b x2n x2c x3b x3n x3c s107b s107n s107c Kn Kr h106
theorem n5_ok (x1b : Option Addr) (x1n : Nat) (x1c : Nat) (x2b : Option Addr) (x2n : Nat) (x2c : Nat) (x3b : Option Addr) (x3n : Nat) (x3c : Nat) (Kn : T0) (Kr : T0) (g : Env) (hg : E4 g x1b x1n x1c x2b x2n x2c x3b x3n x3c) (h : H) (hS : n5 x1b x1n x1c x2b x2n x2c x3b x3n x3c Kn Kr h) : wpC none Try.prog 63 n4_c2 (Q0 Kn Kr) g h := by
  obtain ⟨hg1, hg2, hg3, hds⟩ := hg
  refine wpC_seq' (x := n5_c1) (y := n5_c2) (Q' := (Q2 (fun z1b z1n z1c z2b z2n z2c z3b z3n z3c z4b z4n z4c h => n6 z1b z1n z1c z2b z2n z2c z3b z3n z3c z4b z4n z4c Kn Kr h) Kr)) (by kernel_rfl) ?_ ?_
  · refine wpC_of_wpx (by kernel_rfl) (by kernel_rfl) (g' := (((⟨g.v, []⟩ : Env).upd (some 1) (.slice x1b x1n x1c)).upd (some 2) (.slice x2b x2n x2c)).upd (some 3) (.slice x3b x3n x3c)) (by rw [env_ds hds, upd_self hg1, upd_self hg2, upd_self hg3]) ?_
    have e : (n5 x1b x1n x1c x2b x2n x2c x3b x3n x3c Kn Kr h) = wpx none Try.prog 63 n5_c1 (Q2 (fun z1b z1n z1c z2b z2n z2c z3b z3n z3c z4b z4n z4c h => n6 z1b z1n z1c z2b z2n z2c z3b z3n z3c z4b z4n z4c Kn Kr h) Kr) ((((⟨g.v, []⟩ : Env).upd (some 1) (.slice x1b x1n x1c)).upd (some 2) (.slice x2b x2n x2c)).upd (some 3) (.slice x3b x3n x3c)) h := by kernel_rfl
    exact e ▸ hS
  · intro e g' h' hq
    cases e with
    | normal =>
      have hq : D5 (fun z1b z1n z1c z2b z2n z2c z3b z3n z3c z4b z4n z4c h => n6 z1b z1n z1c z2b z2n z2c z3b z3n z3c z4b z4n z4c Kn Kr h) g' h' := hq
      obtain ⟨y1b, y1n, y1c, y2b, y2n, y2c, y3b, y3n, y3c, y4b, y4n, y4c, hg', hq⟩ := D5_ok hq
      exact n6_ok y1b y1n y1c y2b y2n y2c y3b y3n y3c y4b y4n y4c Kn Kr g' hg' h' hq
    | _ => exact hq
def Q3 (Kn : T4) (Kr : T0) : XPost
  | .normal, g, h => D4 Kn g h
  | .ret, g, h => D0 Kr g h
  | _, _, _ => False
abbrev n4 (x1b : Option Addr) (x1n : Nat) (x1c : Nat) (x2b : Option Addr) (x2n : Nat) (x2c : Nat) (Kn : T0) (Kr : T0) (h : H) : Prop :=
  newx h #[(S ([104, 116, 109, 108] : List UInt8)), (S ([117, 108] : List UInt8)), (S ([108, 105] : List UInt8)), (S ([112] : List UInt8))] 9 fun a108 h109 => HCalls Try.prog 24 ⟨[(.slice (some a108) 4 4)]⟩ h109 fun v110 h111 => vSlice v110 fun s112b s112n s112c => n5 x1b x1n x1c x2b x2n x2c s112b s112n s112c Kn Kr h111
theorem n4_ok (x1b : Option Addr) (x1n : Nat) (x1c : Nat) (x2b : Option Addr) (x2n : Nat) (x2c : Nat) (Kn : T0) (Kr : T0) (g : Env) (hg : E3 g x1b x1n x1c x2b x2n x2c) (h : H) (hS : n4 x1b x1n x1c x2b x2n x2c Kn Kr h) : wpC none Try.prog 63 n3_c2 (Q0 Kn Kr) g h := by
  obtain ⟨hg1, hg2, hds⟩ := hg
  refine wpC_seq' (x := n4_c1) (y := n4_c2) (Q' := (Q3 (fun z1b z1n z1c z2b z2n z2c z3b z3n z3c h => n5 z1b z1n z1c z2b z2n z2c z3b z3n z3c Kn Kr h) Kr)) (by kernel_rfl) ?_ ?_
  · refine wpC_of_wpx (by kernel_rfl) (by kernel_rfl) (g' := ((⟨g.v, []⟩ : Env).upd (some 1) (.slice x1b x1n x1c)).upd (some 2) (.slice x2b x2n x2c)) (by rw [env_ds hds, upd_self hg1, upd_self hg2]) ?_
    have e : (n4 x1b x1n x1c x2b x2n x2c Kn Kr h) = wpx none Try.prog 63 n4_c1 (Q3 (fun z1b z1n z1c z2b z2n z2c z3b z3n z3c h => n5 z1b z1n z1c z2b z2n z2c z3b z3n z3c Kn Kr h) Kr) (((⟨g.v, []⟩ : Env).upd (some 1) (.slice x1b x1n x1c)).upd (some 2) (.slice x2b x2n x2c)) h := by kernel_rfl
    exact e ▸ hS
  · intro e g' h' hq
    cases e with
    | normal =>
      have hq : D4 (fun z1b z1n z1c z2b z2n z2c z3b z3n z3c h => n5 z1b z1n z1c z2b z2n z2c z3b z3n z3c Kn Kr h) g' h' := hq
      obtain ⟨y1b, y1n, y1c, y2b, y2n, y2c, y3b, y3n, y3c, hg', hq⟩ := D4_ok hq
      exact n5_ok y1b y1n y1c y2b y2n y2c y3b y3n y3c Kn Kr g' hg' h' hq
    | _ => exact hq
def Q4 (Kn : T3) (Kr : T0) : XPost
  | .normal, g, h => D3 Kn g h
  | .ret, g, h => D0 Kr g h
  | _, _, _ => False
abbrev n3 (x1b : Option Addr) (x1n : Nat) (x1c : Nat) (Kn : T0) (Kr : T0) (h : H) : Prop :=
  newx h #[(S ([104, 116, 109, 108] : List UInt8)), (S ([112] : List UInt8)), (S ([98, 117, 116, 116, 111, 110] : List UInt8)), (S ([98] : List UInt8))] 9 fun a113 h114 => HCalls Try.prog 24 ⟨[(.slice (some a113) 4 4)]⟩ h114 fun v115 h116 => vSlice v115 fun s117b s117n s117c => n4 x1b x1n x1c s117b s117n s117c Kn Kr h116
theorem n3_ok (x1b : Option Addr) (x1n : Nat) (x1c : Nat) (Kn : T0) (Kr : T0) (g : Env) (hg : E2 g x1b x1n x1c) (h : H) (hS : n3 x1b x1n x1c Kn Kr h) : wpC none Try.prog 63 n2_c2 (Q0 Kn Kr) g h := by
  obtain ⟨hg1, hds⟩ := hg
  refine wpC_seq' (x := n3_c1) (y := n3_c2) (Q' := (Q4 (fun z1b z1n z1c z2b z2n z2c h => n4 z1b z1n z1c z2b z2n z2c Kn Kr h) Kr)) (by kernel_rfl) ?_ ?_
  · refine wpC_of_wpx (by kernel_rfl) (by kernel_rfl) (g' := (⟨g.v, []⟩ : Env).upd (some 1) (.slice x1b x1n x1c)) (by rw [env_ds hds, upd_self hg1]) ?_
    have e : (n3 x1b x1n x1c Kn Kr h) = wpx none Try.prog 63 n3_c1 (Q4 (fun z1b z1n z1c z2b z2n z2c h => n4 z1b z1n z1c z2b z2n z2c Kn Kr h) Kr) ((⟨g.v, []⟩ : Env).upd (some 1) (.slice x1b x1n x1c)) h := by kernel_rfl
    exact e ▸ hS
  · intro e g' h' hq
    cases e with
    | normal =>
      have hq : D3 (fun z1b z1n z1c z2b z2n z2c h => n4 z1b z1n z1c z2b z2n z2c Kn Kr h) g' h' := hq
      obtain ⟨y1b, y1n, y1c, y2b, y2n, y2c, hg', hq⟩ := D3_ok hq
      exact n4_ok y1b y1n y1c y2b y2n y2c Kn Kr g' hg' h' hq
    | _ => exact hq
def Q5 (Kn : T2) (Kr : T0) : XPost
  | .normal, g, h => D2 Kn g h
  | .ret, g, h => D0 Kr g h
  | _, _, _ => False
abbrev n2  (Kn : T0) (Kr : T0) (h : H) : Prop :=
  newx h #[(S ([104, 116, 109, 108] : List UInt8)), (S ([100, 105, 118] : List UInt8)), (S ([112] : List UInt8)), (S ([98] : List UInt8))] 9 fun a118 h119 => HCalls Try.prog 24 ⟨[(.slice (some a118) 4 4)]⟩ h119 fun v120 h121 => vSlice v120 fun s122b s122n s122c => n3 s122b s122n s122c Kn Kr h121
theorem n2_ok  (Kn : T0) (Kr : T0) (g : Env) (hg : E1 g ) (h : H) (hS : n2  Kn Kr h) : wpC none Try.prog 63 n1_c2 (Q0 Kn Kr) g h := by
  have hds : g.ds = [] := hg
  refine wpC_seq' (x := n2_c1) (y := n2_c2) (Q' := (Q5 (fun z1b z1n z1c h => n3 z1b z1n z1c Kn Kr h) Kr)) (by kernel_rfl) ?_ ?_
  · refine wpC_of_wpx (by kernel_rfl) (by kernel_rfl) (g' := ⟨g.v, []⟩) (by rw [env_ds hds]) ?_
    have e : (n2  Kn Kr h) = wpx none Try.prog 63 n2_c1 (Q5 (fun z1b z1n z1c h => n3 z1b z1n z1c Kn Kr h) Kr) (⟨g.v, []⟩) h := by kernel_rfl
    exact e ▸ hS
  · intro e g' h' hq
    cases e with
    | normal =>
      have hq : D2 (fun z1b z1n z1c h => n3 z1b z1n z1c Kn Kr h) g' h' := hq
      obtain ⟨y1b, y1n, y1c, hg', hq⟩ := D2_ok hq
      exact n3_ok y1b y1n y1c Kn Kr g' hg' h' hq
    | _ => exact hq
def Q6 (Kn : T1) (Kr : T0) : XPost
  | .normal, g, h => D1 Kn g h
  | .ret, g, h => D0 Kr g h
  | _, _, _ => False
abbrev n1  (Kn : T0) (Kr : T0) (h : H) : Prop :=
  n2 Kn Kr h
theorem n1_ok  (Kn : T0) (Kr : T0) (g : Env) (hg : E1 g ) (h : H) (hS : n1  Kn Kr h) : wpC none Try.prog 63 code (Q0 Kn Kr) g h := by
  have hds : g.ds = [] := hg
  refine wpC_seq' (x := n1_c1) (y := n1_c2) (Q' := (Q6 (fun  h => n2 Kn Kr h) Kr)) (by kernel_rfl) ?_ ?_
  · refine wpC_of_wpx (by kernel_rfl) (by kernel_rfl) (g' := ⟨g.v, []⟩) (by rw [env_ds hds]) ?_
    have e : (n1  Kn Kr h) = wpx none Try.prog 63 n1_c1 (Q6 (fun  h => n2 Kn Kr h) Kr) (⟨g.v, []⟩) h := by kernel_rfl
    exact e ▸ hS
  · intro e g' h' hq
    cases e with
    | normal =>
      have hq : D1 (fun  h => n2 Kn Kr h) g' h' := hq
      obtain ⟨hg', hq⟩ := D1_ok hq
      exact n2_ok  Kn Kr g' hg' h' hq
    | _ => exact hq
/-- WHAT tympan/tympanlaw11.known ASKS -/
abbrev asks  (K : Value → H → Prop) (h : H) : Prop := n1  (fun y0 h => K (.bool y0) h) (fun y0 h => K (.bool y0) h) h
theorem ok  (K : Value → H → Prop) (h : H) (hS : asks  K h) : HCalls Try.prog 9 ⟨[]⟩ h K := by
  refine calls_of_wpC (c := code) Try.func9 (by kernel_rfl) (Nat.le_of_ble_eq_true (by kernel_rfl)) ?_
  refine (n1_ok  (fun y0 h => K (.bool y0) h) (fun y0 h => K (.bool y0) h) (env0 []) rfl h hS).mono ?_
  intro e g' h' hq
  cases e with
  | normal =>
    have hq : D0 (fun y0 h => K (.bool y0) h) g' h' := hq
    obtain ⟨y0, ⟨hg0, hd⟩, hq⟩ := D0_ok hq
    show leaveX g'.ds h' _
    rw [hd]
    show K (g'.v 0) h'
    rw [hg0]
    exact hq
  | ret =>
    have hq : D0 (fun y0 h => K (.bool y0) h) g' h' := hq
    obtain ⟨y0, ⟨hg0, hd⟩, hq⟩ := D0_ok hq
    show leaveX g'.ds h' _
    rw [hd]
    show K (g'.v 0) h'
    rw [hg0]
    exact hq
  | _ => exact hq
end Sx.l11_known

/-! ### tympan/tympanlaw11.row -/
namespace Sx.l11_row
noncomputable def code : Code := bodyOf Try.f24
abbrev T0 := (Option Addr) → Nat → Nat → H → Prop
def E0 (g : Env) (x2b : Option Addr) (x2n : Nat) (x2c : Nat) : Prop := g.v 2 = (.slice x2b x2n x2c) ∧ g.ds = []
def D0 (K : T0) (g : Env) (h : H) : Prop := nilDs g.ds (vSlice (g.v 2) fun s1b s1n s1c => K s1b s1n s1c h)
theorem D0_ok {K : T0} {g : Env} {h : H} (hq : D0 K g h) : ∃ (x2b : Option Addr) (x2n : Nat) (x2c : Nat), E0 g x2b x2n x2c ∧ K x2b x2n x2c h := by
  obtain ⟨hd, hq⟩ := nilDs_ok hq
  obtain ⟨y3b, y3n, y3c, e2, q4⟩ := vSlice_ok hq
  exact ⟨y3b, y3n, y3c, ⟨e2, hd⟩, q4⟩
def Q0 (Kn : T0) (Kr : T0) : XPost
  | .normal, g, h => D0 Kn g h
  | .ret, g, h => D0 Kr g h
  | _, _, _ => False
abbrev T1 := (Option Addr) → Nat → Nat → H → Prop
def E1 (g : Env) (x0b : Option Addr) (x0n : Nat) (x0c : Nat) : Prop := g.v 0 = (.slice x0b x0n x0c) ∧ g.ds = []
def D1 (K : T1) (g : Env) (h : H) : Prop := nilDs g.ds (vSlice (g.v 0) fun s5b s5n s5c => K s5b s5n s5c h)
theorem D1_ok {K : T1} {g : Env} {h : H} (hq : D1 K g h) : ∃ (x0b : Option Addr) (x0n : Nat) (x0c : Nat), E1 g x0b x0n x0c ∧ K x0b x0n x0c h := by
  obtain ⟨hd, hq⟩ := nilDs_ok hq
  obtain ⟨y7b, y7n, y7c, e6, q8⟩ := vSlice_ok hq
  exact ⟨y7b, y7n, y7c, ⟨e6, hd⟩, q8⟩
noncomputable def n1_c1 : Code := cFst code
noncomputable def n1_c2 : Code := cSnd code
noncomputable def n2_c1 : Code := cFst n1_c2
noncomputable def n2_c2 : Code := cSnd n1_c2
abbrev T2 := (Option Addr) → Nat → Nat → (Option Addr) → Nat → Nat → H → Prop
def E2 (g : Env) (x0b : Option Addr) (x0n : Nat) (x0c : Nat) (x3b : Option Addr) (x3n : Nat) (x3c : Nat) : Prop := g.v 0 = (.slice x0b x0n x0c) ∧ g.v 3 = (.slice x3b x3n x3c) ∧ g.ds = []
def D2 (K : T2) (g : Env) (h : H) : Prop := nilDs g.ds (vSlice (g.v 0) fun s9b s9n s9c => vSlice (g.v 3) fun s10b s10n s10c => K s9b s9n s9c s10b s10n s10c h)
theorem D2_ok {K : T2} {g : Env} {h : H} (hq : D2 K g h) : ∃ (x0b : Option Addr) (x0n : Nat) (x0c : Nat) (x3b : Option Addr) (x3n : Nat) (x3c : Nat), E2 g x0b x0n x0c x3b x3n x3c ∧ K x0b x0n x0c x3b x3n x3c h := by
  obtain ⟨hd, hq⟩ := nilDs_ok hq
  obtain ⟨y12b, y12n, y12c, e11, q13⟩ := vSlice_ok hq
  obtain ⟨y15b, y15n, y15c, e14, q16⟩ := vSlice_ok q13
  exact ⟨y12b, y12n, y12c, y15b, y15n, y15c, ⟨e11, e14, hd⟩, q16⟩
noncomputable def n3_c1 : Code := cFst n2_c2
noncomputable def n3_c2 : Code := cSnd n2_c2
abbrev T3 := (Option Addr) → Nat → Nat → H → Prop
def E3 (g : Env) (x3b : Option Addr) (x3n : Nat) (x3c : Nat) : Prop := g.v 3 = (.slice x3b x3n x3c) ∧ g.ds = []
def D3 (K : T3) (g : Env) (h : H) : Prop := nilDs g.ds (vSlice (g.v 3) fun s17b s17n s17c => K s17b s17n s17c h)
theorem D3_ok {K : T3} {g : Env} {h : H} (hq : D3 K g h) : ∃ (x3b : Option Addr) (x3n : Nat) (x3c : Nat), E3 g x3b x3n x3c ∧ K x3b x3n x3c h := by
  obtain ⟨hd, hq⟩ := nilDs_ok hq
  obtain ⟨y19b, y19n, y19c, e18, q20⟩ := vSlice_ok hq
  exact ⟨y19b, y19n, y19c, ⟨e18, hd⟩, q20⟩
abbrev n4 (x3b : Option Addr) (x3n : Nat) (x3c : Nat) (Kn : T0) (Kr : T0) (h : H) : Prop :=
  Kr x3b x3n x3c h
theorem n4_ok (x3b : Option Addr) (x3n : Nat) (x3c : Nat) (Kn : T0) (Kr : T0) (g : Env) (hg : E3 g x3b x3n x3c) (h : H) (hS : n4 x3b x3n x3c Kn Kr h) : wpC none Try.prog 21 n3_c2 (Q0 Kn Kr) g h := by
  obtain ⟨hg3, hds⟩ := hg
  refine wpC_of_wpx (by kernel_rfl) (by kernel_rfl) (g' := (⟨g.v, []⟩ : Env).upd (some 3) (.slice x3b x3n x3c)) (by rw [env_ds hds, upd_self hg3]) ?_
  have e : (n4 x3b x3n x3c Kn Kr h) = wpx none Try.prog 21 n3_c2 (Q0 Kn Kr) ((⟨g.v, []⟩ : Env).upd (some 3) (.slice x3b x3n x3c)) h := by kernel_rfl
  exact e ▸ hS
def Q1 (Kn : T3) (Kr : T0) : XPost
  | .normal, g, h => D3 Kn g h
  | .ret, g, h => D0 Kr g h
  | _, _, _ => False
noncomputable def n5_c1 : Code := cFst n3_c1
noncomputable def n5_c2 : Code := cSnd n3_c1
abbrev T4 := (Option Addr) → Nat → Nat → (Option Addr) → Nat → Nat → Int → H → Prop
def E4 (g : Env) (x0b : Option Addr) (x0n : Nat) (x0c : Nat) (x3b : Option Addr) (x3n : Nat) (x3c : Nat) (x4 : Int) : Prop := g.v 0 = (.slice x0b x0n x0c) ∧ g.v 3 = (.slice x3b x3n x3c) ∧ g.v 4 = (.int .i64 x4) ∧ g.ds = []
def D4 (K : T4) (g : Env) (h : H) : Prop := nilDs g.ds (vSlice (g.v 0) fun s21b s21n s21c => vSlice (g.v 3) fun s22b s22n s22c => vInt .i64 (g.v 4) fun i23 => K s21b s21n s21c s22b s22n s22c i23 h)
theorem D4_ok {K : T4} {g : Env} {h : H} (hq : D4 K g h) : ∃ (x0b : Option Addr) (x0n : Nat) (x0c : Nat) (x3b : Option Addr) (x3n : Nat) (x3c : Nat) (x4 : Int), E4 g x0b x0n x0c x3b x3n x3c x4 ∧ K x0b x0n x0c x3b x3n x3c x4 h := by
  obtain ⟨hd, hq⟩ := nilDs_ok hq
  obtain ⟨y25b, y25n, y25c, e24, q26⟩ := vSlice_ok hq
  obtain ⟨y28b, y28n, y28c, e27, q29⟩ := vSlice_ok q26
  obtain ⟨y31, e30, q32⟩ := vInt_ok q29
  exact ⟨y25b, y25n, y25c, y28b, y28n, y28c, y31, ⟨e24, e27, e30, hd⟩, q32⟩
noncomputable def n6_c1 : Code := cFst n5_c2
def Q2 (Kn : T3) (Ke0 : T3) (Kr : T0) : XPost
  | .normal, g, h => D3 Kn g h
  | .ret, g, h => D0 Kr g h
  | .exit id, g, h => cond (Nat.beq id 0) (D3 Ke0 g h) (False)
  | _, _, _ => False
noncomputable def n7_c1 : Code := cFst n6_c1
def Q3 (Kn : T4) (Ke0 : T3) (Kr : T0) : XPost
  | .normal, g, h => D4 Kn g h
  | .ret, g, h => D0 Kr g h
  | .exit id, g, h => cond (Nat.beq id 0) (D3 Ke0 g h) (False)
  | _, _, _ => False
def n7_L (Kn : T3) (Ke0 : T3) (Kr : T0) : Nat → (Option Addr) → Nat → Nat → (Option Addr) → Nat → Nat → Int → H → Prop
  | 0 => fun _ _ _ _ _ _ _ _ => False
  | N + 1 => fun x0b x0n x0c x3b x3n x3c x4 h => Spl (x4 < (x0n : Int)) ((0 ≤ x4 ∧ x4 < (x0n : Int)) ∧ (vSome x0b fun a33 => ∃ s34, cell h (a33.add (Int.toNat x4 * 1)) = some (S s34) ∧ (newx h #[(.int .i64 x4), (.int .u8 (0 : Int)), (S s34), (.int .u8 (0 : Int))] 37 fun a35 h36 => SemH Try.prog (Builtin.append_ #[22, 22] 22 ⟨[(.slice x3b x3n x3c), (.slice (some a35) 1 1)]⟩) h36 fun v37 h38 => vSlice v37 fun s39b s39n s39c => Rng .i64 (x4 + (1 : Int)) ∧ (n7_L Kn Ke0 Kr N x0b x0n x0c s39b s39n s39c (x4 + (1 : Int)) h38)))) (Ke0 x3b x3n x3c h)
abbrev n7 (x0b : Option Addr) (x0n : Nat) (x0c : Nat) (x3b : Option Addr) (x3n : Nat) (x3c : Nat) (x4 : Int) (Kn : T3) (Ke0 : T3) (Kr : T0) (h : H) : Prop := ∃ N, n7_L Kn Ke0 Kr N x0b x0n x0c x3b x3n x3c x4 h
theorem n7_ok (x0b : Option Addr) (x0n : Nat) (x0c : Nat) (x3b : Option Addr) (x3n : Nat) (x3c : Nat) (x4 : Int) (Kn : T3) (Ke0 : T3) (Kr : T0) (g : Env) (hg : E4 g x0b x0n x0c x3b x3n x3c x4) (h : H) (hS : n7 x0b x0n x0c x3b x3n x3c x4 Kn Ke0 Kr h) : wpC none Try.prog 21 n6_c1 (Q2 Kn Ke0 Kr) g h := by
  obtain ⟨N0, hS⟩ := hS
  refine wpC_loop' (x := n7_c1) (by kernel_rfl) (fun k g h => ∃ (x0b : Option Addr) (x0n : Nat) (x0c : Nat) (x3b : Option Addr) (x3n : Nat) (x3c : Nat) (x4 : Int), E4 g x0b x0n x0c x3b x3n x3c x4 ∧ n7_L Kn Ke0 Kr k x0b x0n x0c x3b x3n x3c x4 h) (fun g h hr => ?_) (fun N g h hr => ?_) N0 ⟨x0b, x0n, x0c, x3b, x3n, x3c, x4, hg, hS⟩
  · obtain ⟨x0b, x0n, x0c, x3b, x3n, x3c, x4, hg, hS⟩ := hr
    exact hS.elim
  · obtain ⟨x0b, x0n, x0c, x3b, x3n, x3c, x4, hg, hS⟩ := hr
    have hw : wpC none Try.prog 21 n7_c1 (Q3 (fun z0b z0n z0c z3b z3n z3c z4 h => n7_L Kn Ke0 Kr N z0b z0n z0c z3b z3n z3c z4 h) Ke0 Kr) g h := by
      obtain ⟨hg0, hg3, hg4, hds⟩ := hg
      refine wpC_of_wpx (by kernel_rfl) (by kernel_rfl) (g' := (((⟨g.v, []⟩ : Env).upd (some 0) (.slice x0b x0n x0c)).upd (some 3) (.slice x3b x3n x3c)).upd (some 4) (.int .i64 x4)) (by rw [env_ds hds, upd_self hg0, upd_self hg3, upd_self hg4]) ?_
      have e : (n7_L Kn Ke0 Kr (N + 1) x0b x0n x0c x3b x3n x3c x4 h) = wpx none Try.prog 21 n7_c1 (Q3 (fun z0b z0n z0c z3b z3n z3c z4 h => n7_L Kn Ke0 Kr N z0b z0n z0c z3b z3n z3c z4 h) Ke0 Kr) ((((⟨g.v, []⟩ : Env).upd (some 0) (.slice x0b x0n x0c)).upd (some 3) (.slice x3b x3n x3c)).upd (some 4) (.int .i64 x4)) h := by kernel_rfl
      exact e ▸ hS
    refine hw.mono ?_
    intro e g' h' hq
    cases e with
    | normal => exact D4_ok (K := (fun z0b z0n z0c z3b z3n z3c z4 h => n7_L Kn Ke0 Kr N z0b z0n z0c z3b z3n z3c z4 h)) hq
    | _ => exact hq
abbrev n6 (x0b : Option Addr) (x0n : Nat) (x0c : Nat) (x3b : Option Addr) (x3n : Nat) (x3c : Nat) (x4 : Int) (Kn : T3) (Kr : T0) (h : H) : Prop := n7 x0b x0n x0c x3b x3n x3c x4 Kn Kn Kr h
theorem n6_ok (x0b : Option Addr) (x0n : Nat) (x0c : Nat) (x3b : Option Addr) (x3n : Nat) (x3c : Nat) (x4 : Int) (Kn : T3) (Kr : T0) (g : Env) (hg : E4 g x0b x0n x0c x3b x3n x3c x4) (h : H) (hS : n6 x0b x0n x0c x3b x3n x3c x4 Kn Kr h) : wpC none Try.prog 21 n5_c2 (Q1 Kn Kr) g h := by
  refine wpC_block' (id := 0) (x := n6_c1) (by kernel_rfl) (n7_ok x0b x0n x0c x3b x3n x3c x4 Kn Kn Kr g hg h hS) ?_
  intro e g' h' hq
  cases e <;> exact hq
def Q4 (Kn : T4) (Kr : T0) : XPost
  | .normal, g, h => D4 Kn g h
  | .ret, g, h => D0 Kr g h
  | _, _, _ => False
abbrev n5 (x0b : Option Addr) (x0n : Nat) (x0c : Nat) (x3b : Option Addr) (x3n : Nat) (x3c : Nat) (Kn : T3) (Kr : T0) (h : H) : Prop :=
  n6 x0b x0n x0c x3b x3n x3c (0 : Int) Kn Kr h
theorem n5_ok (x0b : Option Addr) (x0n : Nat) (x0c : Nat) (x3b : Option Addr) (x3n : Nat) (x3c : Nat) (Kn : T3) (Kr : T0) (g : Env) (hg : E2 g x0b x0n x0c x3b x3n x3c) (h : H) (hS : n5 x0b x0n x0c x3b x3n x3c Kn Kr h) : wpC none Try.prog 21 n3_c1 (Q1 Kn Kr) g h := by
  obtain ⟨hg0, hg3, hds⟩ := hg
  refine wpC_seq' (x := n5_c1) (y := n5_c2) (Q' := (Q4 (fun z0b z0n z0c z3b z3n z3c z4 h => n6 z0b z0n z0c z3b z3n z3c z4 Kn Kr h) Kr)) (by kernel_rfl) ?_ ?_
  · refine wpC_of_wpx (by kernel_rfl) (by kernel_rfl) (g' := ((⟨g.v, []⟩ : Env).upd (some 0) (.slice x0b x0n x0c)).upd (some 3) (.slice x3b x3n x3c)) (by rw [env_ds hds, upd_self hg0, upd_self hg3]) ?_
    have e : (n5 x0b x0n x0c x3b x3n x3c Kn Kr h) = wpx none Try.prog 21 n5_c1 (Q4 (fun z0b z0n z0c z3b z3n z3c z4 h => n6 z0b z0n z0c z3b z3n z3c z4 Kn Kr h) Kr) (((⟨g.v, []⟩ : Env).upd (some 0) (.slice x0b x0n x0c)).upd (some 3) (.slice x3b x3n x3c)) h := by kernel_rfl
    exact e ▸ hS
  · intro e g' h' hq
    cases e with
    | normal =>
      have hq : D4 (fun z0b z0n z0c z3b z3n z3c z4 h => n6 z0b z0n z0c z3b z3n z3c z4 Kn Kr h) g' h' := hq
      obtain ⟨y0b, y0n, y0c, y3b, y3n, y3c, y4, hg', hq⟩ := D4_ok hq
      exact n6_ok y0b y0n y0c y3b y3n y3c y4 Kn Kr g' hg' h' hq
    | _ => exact hq
abbrev n3 (x0b : Option Addr) (x0n : Nat) (x0c : Nat) (x3b : Option Addr) (x3n : Nat) (x3c : Nat) (Kn : T0) (Kr : T0) (h : H) : Prop := n5 x0b x0n x0c x3b x3n x3c (fun z3b z3n z3c h => n4 z3b z3n z3c Kn Kr h) Kr h
theorem n3_ok (x0b : Option Addr) (x0n : Nat) (x0c : Nat) (x3b : Option Addr) (x3n : Nat) (x3c : Nat) (Kn : T0) (Kr : T0) (g : Env) (hg : E2 g x0b x0n x0c x3b x3n x3c) (h : H) (hS : n3 x0b x0n x0c x3b x3n x3c Kn Kr h) : wpC none Try.prog 21 n2_c2 (Q0 Kn Kr) g h := by
  refine wpC_seq' (x := n3_c1) (y := n3_c2) (by kernel_rfl) (n5_ok x0b x0n x0c x3b x3n x3c (fun z3b z3n z3c h => n4 z3b z3n z3c Kn Kr h) Kr g hg h hS) ?_
  intro e g' h' hq
  cases e with
  | normal =>
    have hq : D3 (fun z3b z3n z3c h => n4 z3b z3n z3c Kn Kr h) g' h' := hq
    obtain ⟨y3b, y3n, y3c, hg', hq⟩ := D3_ok hq
    exact n4_ok y3b y3n y3c Kn Kr g' hg' h' hq
  | _ => exact hq
def Q5 (Kn : T2) (Kr : T0) : XPost
  | .normal, g, h => D2 Kn g h
  | .ret, g, h => D0 Kr g h
  | _, _, _ => False
abbrev n2 (x0b : Option Addr) (x0n : Nat) (x0c : Nat) (Kn : T0) (Kr : T0) (h : H) : Prop :=
  n3 x0b x0n x0c none 0 0 Kn Kr h
theorem n2_ok (x0b : Option Addr) (x0n : Nat) (x0c : Nat) (Kn : T0) (Kr : T0) (g : Env) (hg : E1 g x0b x0n x0c) (h : H) (hS : n2 x0b x0n x0c Kn Kr h) : wpC none Try.prog 21 n1_c2 (Q0 Kn Kr) g h := by
  obtain ⟨hg0, hds⟩ := hg
  refine wpC_seq' (x := n2_c1) (y := n2_c2) (Q' := (Q5 (fun z0b z0n z0c z3b z3n z3c h => n3 z0b z0n z0c z3b z3n z3c Kn Kr h) Kr)) (by kernel_rfl) ?_ ?_
  · refine wpC_of_wpx (by kernel_rfl) (by kernel_rfl) (g' := (⟨g.v, []⟩ : Env).upd (some 0) (.slice x0b x0n x0c)) (by rw [env_ds hds, upd_self hg0]) ?_
    have e : (n2 x0b x0n x0c Kn Kr h) = wpx none Try.prog 21 n2_c1 (Q5 (fun z0b z0n z0c z3b z3n z3c h => n3 z0b z0n z0c z3b z3n z3c Kn Kr h) Kr) ((⟨g.v, []⟩ : Env).upd (some 0) (.slice x0b x0n x0c)) h := by kernel_rfl
    exact e ▸ hS
  · intro e g' h' hq
    cases e with
    | normal =>
      have hq : D2 (fun z0b z0n z0c z3b z3n z3c h => n3 z0b z0n z0c z3b z3n z3c Kn Kr h) g' h' := hq
      obtain ⟨y0b, y0n, y0c, y3b, y3n, y3c, hg', hq⟩ := D2_ok hq
      exact n3_ok y0b y0n y0c y3b y3n y3c Kn Kr g' hg' h' hq
    | _ => exact hq
def Q6 (Kn : T1) (Kr : T0) : XPost
  | .normal, g, h => D1 Kn g h
  | .ret, g, h => D0 Kr g h
  | _, _, _ => False
abbrev n1 (x0b : Option Addr) (x0n : Nat) (x0c : Nat) (Kn : T0) (Kr : T0) (h : H) : Prop :=
  n2 x0b x0n x0c Kn Kr h
theorem n1_ok (x0b : Option Addr) (x0n : Nat) (x0c : Nat) (Kn : T0) (Kr : T0) (g : Env) (hg : E1 g x0b x0n x0c) (h : H) (hS : n1 x0b x0n x0c Kn Kr h) : wpC none Try.prog 21 code (Q0 Kn Kr) g h := by
  obtain ⟨hg0, hds⟩ := hg
  refine wpC_seq' (x := n1_c1) (y := n1_c2) (Q' := (Q6 (fun z0b z0n z0c h => n2 z0b z0n z0c Kn Kr h) Kr)) (by kernel_rfl) ?_ ?_
  · refine wpC_of_wpx (by kernel_rfl) (by kernel_rfl) (g' := (⟨g.v, []⟩ : Env).upd (some 0) (.slice x0b x0n x0c)) (by rw [env_ds hds, upd_self hg0]) ?_
    have e : (n1 x0b x0n x0c Kn Kr h) = wpx none Try.prog 21 n1_c1 (Q6 (fun z0b z0n z0c h => n2 z0b z0n z0c Kn Kr h) Kr) ((⟨g.v, []⟩ : Env).upd (some 0) (.slice x0b x0n x0c)) h := by kernel_rfl
    exact e ▸ hS
  · intro e g' h' hq
    cases e with
    | normal =>
      have hq : D1 (fun z0b z0n z0c h => n2 z0b z0n z0c Kn Kr h) g' h' := hq
      obtain ⟨y0b, y0n, y0c, hg', hq⟩ := D1_ok hq
      exact n2_ok y0b y0n y0c Kn Kr g' hg' h' hq
    | _ => exact hq
/-- WHAT tympan/tympanlaw11.row ASKS -/
abbrev asks (x0b : Option Addr) (x0n : Nat) (x0c : Nat) (K : Value → H → Prop) (h : H) : Prop := n1 x0b x0n x0c (fun y2b y2n y2c h => K (.slice y2b y2n y2c) h) (fun y2b y2n y2c h => K (.slice y2b y2n y2c) h) h
theorem ok (x0b : Option Addr) (x0n : Nat) (x0c : Nat) (K : Value → H → Prop) (h : H) (hS : asks x0b x0n x0c K h) : HCalls Try.prog 24 ⟨[(.slice x0b x0n x0c)]⟩ h K := by
  refine calls_of_wpC (c := code) Try.func24 (by kernel_rfl) (Nat.le_of_ble_eq_true (by kernel_rfl)) ?_
  refine (n1_ok x0b x0n x0c (fun y2b y2n y2c h => K (.slice y2b y2n y2c) h) (fun y2b y2n y2c h => K (.slice y2b y2n y2c) h) (env0 [(.slice x0b x0n x0c)]) ⟨rfl, rfl⟩ h hS).mono ?_
  intro e g' h' hq
  cases e with
  | normal =>
    have hq : D0 (fun y2b y2n y2c h => K (.slice y2b y2n y2c) h) g' h' := hq
    obtain ⟨y2b, y2n, y2c, ⟨hg2, hd⟩, hq⟩ := D0_ok hq
    show leaveX g'.ds h' _
    rw [hd]
    show K (g'.v 2) h'
    rw [hg2]
    exact hq
  | ret =>
    have hq : D0 (fun y2b y2n y2c h => K (.slice y2b y2n y2c) h) g' h' := hq
    obtain ⟨y2b, y2n, y2c, ⟨hg2, hd⟩, hq⟩ := D0_ok hq
    show leaveX g'.ds h' _
    rw [hd]
    show K (g'.v 2) h'
    rw [hg2]
    exact hq
  | _ => exact hq
end Sx.l11_row
end Go.Proofs
