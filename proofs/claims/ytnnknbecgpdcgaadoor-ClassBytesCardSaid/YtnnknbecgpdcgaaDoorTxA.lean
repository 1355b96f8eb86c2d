/- The shallow forms of functions, printed by sh.py out of the translation; each with its proof. No condition. -/
import Derived.Test.YtnnknbecgpdcgaaDoorShJ
import Derived.Test.YtnnknbecgpdcgaaDoorProg
namespace Go.Proofs
open Go Go.Sh
set_option linter.unusedVariables false
set_option maxRecDepth 100000

/-! ### tympan/tympanlaw02.ClassRunes -/
namespace Sx.l02_ClassRunes
noncomputable def code : Code := bodyOf Tryd.f3
abbrev T0 := Bool → H → Prop
def E0 (g : Env) (x2 : Bool) : Prop := g.v 2 = (.bool x2) ∧ g.ds = []
def D0 (K : T0) (g : Env) (h : H) : Prop := nilDs g.ds (vBool (g.v 2) fun b1 => K b1 h)
theorem D0_ok {K : T0} {g : Env} {h : H} (hq : D0 K g h) : ∃ (x2 : Bool), E0 g x2 ∧ K x2 h := by
  obtain ⟨hd, hq⟩ := nilDs_ok hq
  obtain ⟨y3, e2, q4⟩ := vBool_ok hq
  exact ⟨y3, ⟨e2, hd⟩, q4⟩
def Q0 (Kn : T0) (Kr : T0) : XPost
  | .normal, g, h => D0 Kn g h
  | .ret, g, h => D0 Kr g h
  | _, _, _ => False
abbrev T1 := Int → H → Prop
def E1 (g : Env) (x0 : Int) : Prop := g.v 0 = (.int .i32 x0) ∧ g.ds = []
def D1 (K : T1) (g : Env) (h : H) : Prop := nilDs g.ds (vInt .i32 (g.v 0) fun i5 => K i5 h)
theorem D1_ok {K : T1} {g : Env} {h : H} (hq : D1 K g h) : ∃ (x0 : Int), E1 g x0 ∧ K x0 h := by
  obtain ⟨hd, hq⟩ := nilDs_ok hq
  obtain ⟨y7, e6, q8⟩ := vInt_ok hq
  exact ⟨y7, ⟨e6, hd⟩, q8⟩
abbrev n1 (x0 : Int) (Kn : T0) (Kr : T0) (h : H) : Prop :=
  HCalls Tryd.prog 8 ⟨[]⟩ h fun v9 h10 => vBool v9 fun b11 => cond b11 (HCalls Tryd.prog 9 ⟨[(.int .i32 x0)]⟩ h10 fun v12 h13 => vBool v12 fun b14 => cond b14 (HCalls Tryd.prog 10 ⟨[(.int .i32 x0)]⟩ h13 fun v15 h16 => vBool v15 fun b17 => cond b17 (HCalls Tryd.prog 11 ⟨[(.int .i32 x0)]⟩ h16 fun v18 h19 => vBool v18 fun b20 => cond b20 (HCalls Tryd.prog 12 ⟨[(.int .i32 x0)]⟩ h19 fun v21 h22 => vBool v21 fun b23 => cond b23 (Kr true h22) (Kr false h22)) (HCalls Tryd.prog 12 ⟨[(.int .i32 x0)]⟩ h19 fun v24 h25 => vBool v24 fun b26 => cond b26 (Kr false h25) (Kr true h25))) (Kr false h16)) (HCalls Tryd.prog 10 ⟨[(.int .i32 x0)]⟩ h13 fun v27 h28 => vBool v27 fun b29 => cond b29 (Kr false h28) (HCalls Tryd.prog 11 ⟨[(.int .i32 x0)]⟩ h28 fun v30 h31 => vBool v30 fun b32 => cond b32 (HCalls Tryd.prog 12 ⟨[(.int .i32 x0)]⟩ h31 fun v33 h34 => vBool v33 fun b35 => cond b35 (Kr true h34) (Kr false h34)) (HCalls Tryd.prog 12 ⟨[(.int .i32 x0)]⟩ h31 fun v36 h37 => vBool v36 fun b38 => cond b38 (Kr false h37) (Kr true h37))))) (Kr false h10)
theorem n1_ok (x0 : Int) (Kn : T0) (Kr : T0) (g : Env) (hg : E1 g x0) (h : H) (hS : n1 x0 Kn Kr h) : wpC none Tryd.prog 18 code (Q0 Kn Kr) g h := by
  obtain ⟨hg0, hds⟩ := hg
  refine wpC_of_wpx (by kernel_rfl) (by kernel_rfl) (g' := (⟨g.v, []⟩ : Env).upd (some 0) (.int .i32 x0)) (by rw [env_ds hds, upd_self hg0]) ?_
  have e : (n1 x0 Kn Kr h) = wpx none Tryd.prog 18 code (Q0 Kn Kr) ((⟨g.v, []⟩ : Env).upd (some 0) (.int .i32 x0)) h := by kernel_rfl
  exact e ▸ hS
/-- WHAT tympan/tympanlaw02.ClassRunes ASKS -/
abbrev asks (x0 : Int) (K : Value → H → Prop) (h : H) : Prop := n1 x0 (fun y2 h => K (.bool y2) h) (fun y2 h => K (.bool y2) h) h
theorem ok (x0 : Int) (K : Value → H → Prop) (h : H) (hS : asks x0 K h) : HCalls Tryd.prog 3 ⟨[(.int .i32 x0)]⟩ h K := by
  refine calls_of_wpC (c := code) Tryd.func3 (by kernel_rfl) (Nat.le_of_ble_eq_true (by kernel_rfl)) ?_
  refine (n1_ok x0 (fun y2 h => K (.bool y2) h) (fun y2 h => K (.bool y2) h) (env0 [(.int .i32 x0)]) ⟨rfl, rfl⟩ h hS).mono ?_
  intro e g' h' hq
  cases e with
  | normal =>
    have hq : D0 (fun y2 h => K (.bool y2) h) g' h' := hq
    obtain ⟨y2, ⟨hg2, hd⟩, hq⟩ := D0_ok hq
    show leaveX g'.ds h' _
    rw [hd]
    show K (g'.v 2) h'
    rw [hg2]
    exact hq
  | ret =>
    have hq : D0 (fun y2 h => K (.bool y2) h) g' h' := hq
    obtain ⟨y2, ⟨hg2, hd⟩, hq⟩ := D0_ok hq
    show leaveX g'.ds h' _
    rw [hd]
    show K (g'.v 2) h'
    rw [hg2]
    exact hq
  | _ => exact hq
end Sx.l02_ClassRunes

/-! ### tympan/tympanlaw02.ClassFolds -/
namespace Sx.l02_ClassFolds
noncomputable def code : Code := bodyOf Tryd.f4
abbrev T0 := Bool → H → Prop
def E0 (g : Env) (x2 : Bool) : Prop := g.v 2 = (.bool x2) ∧ g.ds = []
def D0 (K : T0) (g : Env) (h : H) : Prop := nilDs g.ds (vBool (g.v 2) fun b1 => K b1 h)
theorem D0_ok {K : T0} {g : Env} {h : H} (hq : D0 K g h) : ∃ (x2 : Bool), E0 g x2 ∧ K x2 h := by
  obtain ⟨hd, hq⟩ := nilDs_ok hq
  obtain ⟨y3, e2, q4⟩ := vBool_ok hq
  exact ⟨y3, ⟨e2, hd⟩, q4⟩
def Q0 (Kn : T0) (Kr : T0) : XPost
  | .normal, g, h => D0 Kn g h
  | .ret, g, h => D0 Kr g h
  | _, _, _ => False
abbrev T1 := (Option Addr) → Nat → Nat → H → Prop
def E1 (g : Env) (x0b : Option Addr) (x0n : Nat) (x0c : Nat) : Prop := g.v 0 = (.slice x0b x0n x0c) ∧ g.ds = []
def D1 (K : T1) (g : Env) (h : H) : Prop := nilDs g.ds (vSlice (g.v 0) fun s5b s5n s5c => K s5b s5n s5c h)
theorem D1_ok {K : T1} {g : Env} {h : H} (hq : D1 K g h) : ∃ (x0b : Option Addr) (x0n : Nat) (x0c : Nat), E1 g x0b x0n x0c ∧ K x0b x0n x0c h := by
  obtain ⟨hd, hq⟩ := nilDs_ok hq
  obtain ⟨y7b, y7n, y7c, e6, q8⟩ := vSlice_ok hq
  exact ⟨y7b, y7n, y7c, ⟨e6, hd⟩, q8⟩
abbrev n1 (x0b : Option Addr) (x0n : Nat) (x0c : Nat) (Kn : T0) (Kr : T0) (h : H) : Prop :=
  Spl ((x0n : Int) > (5000 : Int)) (Kr true h) (HCalls Tryd.prog 13 ⟨[(.slice x0b x0n x0c)]⟩ h fun v9 h10 => vStr v9 fun s11 => HCalls Tryd.prog 14 ⟨[(S s11)]⟩ h10 fun v12 h13 => vStr v12 fun s14 => HCalls Tryd.prog 8 ⟨[]⟩ h13 fun v15 h16 => vBool v15 fun b17 => cond b17 (HCalls Tryd.prog 15 ⟨[(S s11)]⟩ h16 fun v18 h19 => vStr v18 fun s20 => Spl (s14 = s20) (HCalls Tryd.prog 14 ⟨[(S s14)]⟩ h19 fun v21 h22 => vStr v21 fun s23 => Spl (s23 = s14) (Kr true h22) (Kr false h22)) (Kr false h19)) (Kr false h16))
theorem n1_ok (x0b : Option Addr) (x0n : Nat) (x0c : Nat) (Kn : T0) (Kr : T0) (g : Env) (hg : E1 g x0b x0n x0c) (h : H) (hS : n1 x0b x0n x0c Kn Kr h) : wpC none Tryd.prog 25 code (Q0 Kn Kr) g h := by
  obtain ⟨hg0, hds⟩ := hg
  refine wpC_of_wpx (by kernel_rfl) (by kernel_rfl) (g' := (⟨g.v, []⟩ : Env).upd (some 0) (.slice x0b x0n x0c)) (by rw [env_ds hds, upd_self hg0]) ?_
  have e : (n1 x0b x0n x0c Kn Kr h) = wpx none Tryd.prog 25 code (Q0 Kn Kr) ((⟨g.v, []⟩ : Env).upd (some 0) (.slice x0b x0n x0c)) h := by kernel_rfl
  exact e ▸ hS
/-- WHAT tympan/tympanlaw02.ClassFolds ASKS -/
abbrev asks (x0b : Option Addr) (x0n : Nat) (x0c : Nat) (K : Value → H → Prop) (h : H) : Prop := n1 x0b x0n x0c (fun y2 h => K (.bool y2) h) (fun y2 h => K (.bool y2) h) h
theorem ok (x0b : Option Addr) (x0n : Nat) (x0c : Nat) (K : Value → H → Prop) (h : H) (hS : asks x0b x0n x0c K h) : HCalls Tryd.prog 4 ⟨[(.slice x0b x0n x0c)]⟩ h K := by
  refine calls_of_wpC (c := code) Tryd.func4 (by kernel_rfl) (Nat.le_of_ble_eq_true (by kernel_rfl)) ?_
  refine (n1_ok x0b x0n x0c (fun y2 h => K (.bool y2) h) (fun y2 h => K (.bool y2) h) (env0 [(.slice x0b x0n x0c)]) ⟨rfl, rfl⟩ h hS).mono ?_
  intro e g' h' hq
  cases e with
  | normal =>
    have hq : D0 (fun y2 h => K (.bool y2) h) g' h' := hq
    obtain ⟨y2, ⟨hg2, hd⟩, hq⟩ := D0_ok hq
    show leaveX g'.ds h' _
    rw [hd]
    show K (g'.v 2) h'
    rw [hg2]
    exact hq
  | ret =>
    have hq : D0 (fun y2 h => K (.bool y2) h) g' h' := hq
    obtain ⟨y2, ⟨hg2, hd⟩, hq⟩ := D0_ok hq
    show leaveX g'.ds h' _
    rw [hd]
    show K (g'.v 2) h'
    rw [hg2]
    exact hq
  | _ => exact hq
end Sx.l02_ClassFolds

/-! ### tympan/tympanlaw02.ClassLowers -/
namespace Sx.l02_ClassLowers
noncomputable def code : Code := bodyOf Tryd.f5
abbrev T0 := Bool → H → Prop
def E0 (g : Env) (x2 : Bool) : Prop := g.v 2 = (.bool x2) ∧ g.ds = []
def D0 (K : T0) (g : Env) (h : H) : Prop := nilDs g.ds (vBool (g.v 2) fun b1 => K b1 h)
theorem D0_ok {K : T0} {g : Env} {h : H} (hq : D0 K g h) : ∃ (x2 : Bool), E0 g x2 ∧ K x2 h := by
  obtain ⟨hd, hq⟩ := nilDs_ok hq
  obtain ⟨y3, e2, q4⟩ := vBool_ok hq
  exact ⟨y3, ⟨e2, hd⟩, q4⟩
def Q0 (Kn : T0) (Kr : T0) : XPost
  | .normal, g, h => D0 Kn g h
  | .ret, g, h => D0 Kr g h
  | _, _, _ => False
abbrev T1 := (List UInt8) → H → Prop
def E1 (g : Env) (x0 : List UInt8) : Prop := g.v 0 = (S x0) ∧ g.ds = []
def D1 (K : T1) (g : Env) (h : H) : Prop := nilDs g.ds (vStr (g.v 0) fun s5 => K s5 h)
theorem D1_ok {K : T1} {g : Env} {h : H} (hq : D1 K g h) : ∃ (x0 : List UInt8), E1 g x0 ∧ K x0 h := by
  obtain ⟨hd, hq⟩ := nilDs_ok hq
  obtain ⟨y7, e6, q8⟩ := vStr_ok hq
  exact ⟨y7, ⟨e6, hd⟩, q8⟩
abbrev n1 (x0 : List UInt8) (Kn : T0) (Kr : T0) (h : H) : Prop :=
  Spl ((x0.length : Int) > (5000 : Int)) (Kr true h) (HCalls Tryd.prog 16 ⟨[(S x0)]⟩ h fun v9 h10 => vStr v9 fun s11 => HCalls Tryd.prog 8 ⟨[]⟩ h10 fun v12 h13 => vBool v12 fun b14 => cond b14 (HCalls Tryd.prog 17 ⟨[(S x0)]⟩ h13 fun v15 h16 => vStr v15 fun s17 => Spl (s11 = s17) (Spl ((s11.length : Int) = (x0.length : Int)) (HCalls Tryd.prog 16 ⟨[(S s11)]⟩ h16 fun v18 h19 => vStr v18 fun s20 => Spl (s20 = s11) (Kr true h19) (Kr false h19)) (Kr false h16)) (Kr false h16)) (Kr false h13))
theorem n1_ok (x0 : List UInt8) (Kn : T0) (Kr : T0) (g : Env) (hg : E1 g x0) (h : H) (hS : n1 x0 Kn Kr h) : wpC none Tryd.prog 29 code (Q0 Kn Kr) g h := by
  obtain ⟨hg0, hds⟩ := hg
  refine wpC_of_wpx (by kernel_rfl) (by kernel_rfl) (g' := (⟨g.v, []⟩ : Env).upd (some 0) (S x0)) (by rw [env_ds hds, upd_self hg0]) ?_
  have e : (n1 x0 Kn Kr h) = wpx none Tryd.prog 29 code (Q0 Kn Kr) ((⟨g.v, []⟩ : Env).upd (some 0) (S x0)) h := by kernel_rfl
  exact e ▸ hS
/-- WHAT tympan/tympanlaw02.ClassLowers ASKS -/
abbrev asks (x0 : List UInt8) (K : Value → H → Prop) (h : H) : Prop := n1 x0 (fun y2 h => K (.bool y2) h) (fun y2 h => K (.bool y2) h) h
theorem ok (x0 : List UInt8) (K : Value → H → Prop) (h : H) (hS : asks x0 K h) : HCalls Tryd.prog 5 ⟨[(S x0)]⟩ h K := by
  refine calls_of_wpC (c := code) Tryd.func5 (by kernel_rfl) (Nat.le_of_ble_eq_true (by kernel_rfl)) ?_
  refine (n1_ok x0 (fun y2 h => K (.bool y2) h) (fun y2 h => K (.bool y2) h) (env0 [(S x0)]) ⟨rfl, rfl⟩ h hS).mono ?_
  intro e g' h' hq
  cases e with
  | normal =>
    have hq : D0 (fun y2 h => K (.bool y2) h) g' h' := hq
    obtain ⟨y2, ⟨hg2, hd⟩, hq⟩ := D0_ok hq
    show leaveX g'.ds h' _
    rw [hd]
    show K (g'.v 2) h'
    rw [hg2]
    exact hq
  | ret =>
    have hq : D0 (fun y2 h => K (.bool y2) h) g' h' := hq
    obtain ⟨y2, ⟨hg2, hd⟩, hq⟩ := D0_ok hq
    show leaveX g'.ds h' _
    rw [hd]
    show K (g'.v 2) h'
    rw [hg2]
    exact hq
  | _ => exact hq
end Sx.l02_ClassLowers

/-! ### tympan/tympanlaw02.ClassAround -/
namespace Sx.l02_ClassAround
noncomputable def code : Code := bodyOf Tryd.f6
abbrev T0 := Bool → H → Prop
def E0 (g : Env) (x4 : Bool) : Prop := g.v 4 = (.bool x4) ∧ g.ds = []
def D0 (K : T0) (g : Env) (h : H) : Prop := nilDs g.ds (vBool (g.v 4) fun b1 => K b1 h)
theorem D0_ok {K : T0} {g : Env} {h : H} (hq : D0 K g h) : ∃ (x4 : Bool), E0 g x4 ∧ K x4 h := by
  obtain ⟨hd, hq⟩ := nilDs_ok hq
  obtain ⟨y3, e2, q4⟩ := vBool_ok hq
  exact ⟨y3, ⟨e2, hd⟩, q4⟩
def Q0 (Kn : T0) (Kr : T0) : XPost
  | .normal, g, h => D0 Kn g h
  | .ret, g, h => D0 Kr g h
  | _, _, _ => False
abbrev T1 := (Option Addr) → Nat → Nat → Int → H → Prop
def E1 (g : Env) (x0b : Option Addr) (x0n : Nat) (x0c : Nat) (x1 : Int) : Prop := g.v 0 = (.slice x0b x0n x0c) ∧ g.v 1 = (.int .i64 x1) ∧ g.ds = []
def D1 (K : T1) (g : Env) (h : H) : Prop := nilDs g.ds (vSlice (g.v 0) fun s5b s5n s5c => vInt .i64 (g.v 1) fun i6 => K s5b s5n s5c i6 h)
theorem D1_ok {K : T1} {g : Env} {h : H} (hq : D1 K g h) : ∃ (x0b : Option Addr) (x0n : Nat) (x0c : Nat) (x1 : Int), E1 g x0b x0n x0c x1 ∧ K x0b x0n x0c x1 h := by
  obtain ⟨hd, hq⟩ := nilDs_ok hq
  obtain ⟨y8b, y8n, y8c, e7, q9⟩ := vSlice_ok hq
  obtain ⟨y11, e10, q12⟩ := vInt_ok q9
  exact ⟨y8b, y8n, y8c, y11, ⟨e7, e10, hd⟩, q12⟩
abbrev n1 (x0b : Option Addr) (x0n : Nat) (x0c : Nat) (x1 : Int) (Kn : T0) (Kr : T0) (h : H) : Prop :=
  Spl ((x0n : Int) > (5000 : Int)) (Kr true h) (HCalls Tryd.prog 13 ⟨[(.slice x0b x0n x0c)]⟩ h fun v13 h14 => vStr v13 fun s15 => Spl (x1 ≥ (0 : Int)) (Spl (x1 ≤ (s15.length : Int)) (HCalls Tryd.prog 18 ⟨[(S s15), (.int .i64 x1)]⟩ h14 fun v16 h17 => vBool v16 fun b18 => cond b18 (HCalls Tryd.prog 8 ⟨[]⟩ h17 fun v19 h20 => vBool v19 fun b21 => cond b21 (HCalls Tryd.prog 19 ⟨[(S s15), (.int .i64 x1)]⟩ h20 fun v22 h23 => vInt .i32 v22 fun i24 => HCalls Tryd.prog 20 ⟨[(S s15), (.int .i64 x1)]⟩ h23 fun v25 h26 => vInt .i32 v25 fun i27 => Spl (i24 = i27) (HCalls Tryd.prog 21 ⟨[(S s15), (.int .i64 x1)]⟩ h26 fun v28 h29 => vInt .i32 v28 fun i30 => HCalls Tryd.prog 22 ⟨[(S s15), (.int .i64 x1)]⟩ h29 fun v31 h32 => vInt .i32 v31 fun i33 => Spl (i30 = i33) (Kr true h32) (Kr false h32)) (Kr false h26)) (Kr false h20)) (HCalls Tryd.prog 8 ⟨[]⟩ h17 fun v34 h35 => vBool v34 fun b36 => cond b36 (Kr true h35) (Kr false h35))) (HCalls Tryd.prog 8 ⟨[]⟩ h14 fun v37 h38 => vBool v37 fun b39 => cond b39 (HCalls Tryd.prog 19 ⟨[(S s15), (.int .i64 x1)]⟩ h38 fun v40 h41 => vInt .i32 v40 fun i42 => HCalls Tryd.prog 20 ⟨[(S s15), (.int .i64 x1)]⟩ h41 fun v43 h44 => vInt .i32 v43 fun i45 => Spl (i42 = i45) (HCalls Tryd.prog 21 ⟨[(S s15), (.int .i64 x1)]⟩ h44 fun v46 h47 => vInt .i32 v46 fun i48 => HCalls Tryd.prog 22 ⟨[(S s15), (.int .i64 x1)]⟩ h47 fun v49 h50 => vInt .i32 v49 fun i51 => Spl (i48 = i51) (Kr true h50) (Kr false h50)) (Kr false h44)) (Kr false h38))) (HCalls Tryd.prog 8 ⟨[]⟩ h14 fun v52 h53 => vBool v52 fun b54 => cond b54 (HCalls Tryd.prog 19 ⟨[(S s15), (.int .i64 x1)]⟩ h53 fun v55 h56 => vInt .i32 v55 fun i57 => HCalls Tryd.prog 20 ⟨[(S s15), (.int .i64 x1)]⟩ h56 fun v58 h59 => vInt .i32 v58 fun i60 => Spl (i57 = i60) (HCalls Tryd.prog 21 ⟨[(S s15), (.int .i64 x1)]⟩ h59 fun v61 h62 => vInt .i32 v61 fun i63 => HCalls Tryd.prog 22 ⟨[(S s15), (.int .i64 x1)]⟩ h62 fun v64 h65 => vInt .i32 v64 fun i66 => Spl (i63 = i66) (Kr true h65) (Kr false h65)) (Kr false h59)) (Kr false h53)))
theorem n1_ok (x0b : Option Addr) (x0n : Nat) (x0c : Nat) (x1 : Int) (Kn : T0) (Kr : T0) (g : Env) (hg : E1 g x0b x0n x0c x1) (h : H) (hS : n1 x0b x0n x0c x1 Kn Kr h) : wpC none Tryd.prog 45 code (Q0 Kn Kr) g h := by
  obtain ⟨hg0, hg1, hds⟩ := hg
  refine wpC_of_wpx (by kernel_rfl) (by kernel_rfl) (g' := ((⟨g.v, []⟩ : Env).upd (some 0) (.slice x0b x0n x0c)).upd (some 1) (.int .i64 x1)) (by rw [env_ds hds, upd_self hg0, upd_self hg1]) ?_
  have e : (n1 x0b x0n x0c x1 Kn Kr h) = wpx none Tryd.prog 45 code (Q0 Kn Kr) (((⟨g.v, []⟩ : Env).upd (some 0) (.slice x0b x0n x0c)).upd (some 1) (.int .i64 x1)) h := by kernel_rfl
  exact e ▸ hS
/-- WHAT tympan/tympanlaw02.ClassAround ASKS -/
abbrev asks (x0b : Option Addr) (x0n : Nat) (x0c : Nat) (x1 : Int) (K : Value → H → Prop) (h : H) : Prop := n1 x0b x0n x0c x1 (fun y4 h => K (.bool y4) h) (fun y4 h => K (.bool y4) h) h
theorem ok (x0b : Option Addr) (x0n : Nat) (x0c : Nat) (x1 : Int) (K : Value → H → Prop) (h : H) (hS : asks x0b x0n x0c x1 K h) : HCalls Tryd.prog 6 ⟨[(.slice x0b x0n x0c), (.int .i64 x1)]⟩ h K := by
  refine calls_of_wpC (c := code) Tryd.func6 (by kernel_rfl) (Nat.le_of_ble_eq_true (by kernel_rfl)) ?_
  refine (n1_ok x0b x0n x0c x1 (fun y4 h => K (.bool y4) h) (fun y4 h => K (.bool y4) h) (env0 [(.slice x0b x0n x0c), (.int .i64 x1)]) ⟨rfl, rfl, rfl⟩ h hS).mono ?_
  intro e g' h' hq
  cases e with
  | normal =>
    have hq : D0 (fun y4 h => K (.bool y4) h) g' h' := hq
    obtain ⟨y4, ⟨hg4, hd⟩, hq⟩ := D0_ok hq
    show leaveX g'.ds h' _
    rw [hd]
    show K (g'.v 4) h'
    rw [hg4]
    exact hq
  | ret =>
    have hq : D0 (fun y4 h => K (.bool y4) h) g' h' := hq
    obtain ⟨y4, ⟨hg4, hd⟩, hq⟩ := D0_ok hq
    show leaveX g'.ds h' _
    rw [hd]
    show K (g'.v 4) h'
    rw [hg4]
    exact hq
  | _ => exact hq
end Sx.l02_ClassAround

/-! ### tympan/tympanlaw02.ClassBytes -/
namespace Sx.l02_ClassBytes
noncomputable def code : Code := bodyOf Tryd.f7
abbrev T0 := Bool → H → Prop
def E0 (g : Env) (x2 : Bool) : Prop := g.v 2 = (.bool x2) ∧ g.ds = []
def D0 (K : T0) (g : Env) (h : H) : Prop := nilDs g.ds (vBool (g.v 2) fun b1 => K b1 h)
theorem D0_ok {K : T0} {g : Env} {h : H} (hq : D0 K g h) : ∃ (x2 : Bool), E0 g x2 ∧ K x2 h := by
  obtain ⟨hd, hq⟩ := nilDs_ok hq
  obtain ⟨y3, e2, q4⟩ := vBool_ok hq
  exact ⟨y3, ⟨e2, hd⟩, q4⟩
def Q0 (Kn : T0) (Kr : T0) : XPost
  | .normal, g, h => D0 Kn g h
  | .ret, g, h => D0 Kr g h
  | _, _, _ => False
abbrev T1 := Int → H → Prop
def E1 (g : Env) (x0 : Int) : Prop := g.v 0 = (.int .u8 x0) ∧ g.ds = []
def D1 (K : T1) (g : Env) (h : H) : Prop := nilDs g.ds (vInt .u8 (g.v 0) fun i5 => K i5 h)
theorem D1_ok {K : T1} {g : Env} {h : H} (hq : D1 K g h) : ∃ (x0 : Int), E1 g x0 ∧ K x0 h := by
  obtain ⟨hd, hq⟩ := nilDs_ok hq
  obtain ⟨y7, e6, q8⟩ := vInt_ok hq
  exact ⟨y7, ⟨e6, hd⟩, q8⟩
abbrev n1 (x0 : Int) (Kn : T0) (Kr : T0) (h : H) : Prop :=
  HCalls Tryd.prog 8 ⟨[]⟩ h fun v9 h10 => vBool v9 fun b11 => cond b11 (HCalls Tryd.prog 23 ⟨[(.int .u8 x0)]⟩ h10 fun v12 h13 => vBool v12 fun b14 => cond b14 (HCalls Tryd.prog 24 ⟨[(.int .u8 x0)]⟩ h13 fun v15 h16 => vBool v15 fun b17 => cond b17 (HCalls Tryd.prog 25 ⟨[(.int .u8 x0)]⟩ h16 fun v18 h19 => vBool v18 fun b20 => cond b20 (HCalls Tryd.prog 26 ⟨[(.int .u8 x0)]⟩ h19 fun v21 h22 => vBool v21 fun b23 => cond b23 (HCalls Tryd.prog 27 ⟨[(.int .u8 x0)]⟩ h22 fun v24 h25 => vBool v24 fun b26 => cond b26 (HCalls Tryd.prog 28 ⟨[(.int .u8 x0)]⟩ h25 fun v27 h28 => vBool v27 fun b29 => cond b29 (HCalls Tryd.prog 29 ⟨[(.int .u8 x0)]⟩ h28 fun v30 h31 => vInt .i64 v30 fun i32 => HCalls Tryd.prog 30 ⟨[(.int .u8 x0)]⟩ h31 fun v33 h34 => vInt .i64 v33 fun i35 => Spl (i32 = i35) (Kr true h34) (Kr false h34)) (Kr false h28)) (HCalls Tryd.prog 28 ⟨[(.int .u8 x0)]⟩ h25 fun v36 h37 => vBool v36 fun b38 => cond b38 (Kr false h37) (HCalls Tryd.prog 29 ⟨[(.int .u8 x0)]⟩ h37 fun v39 h40 => vInt .i64 v39 fun i41 => HCalls Tryd.prog 30 ⟨[(.int .u8 x0)]⟩ h40 fun v42 h43 => vInt .i64 v42 fun i44 => Spl (i41 = i44) (Kr true h43) (Kr false h43)))) (Kr false h22)) (HCalls Tryd.prog 26 ⟨[(.int .u8 x0)]⟩ h19 fun v45 h46 => vBool v45 fun b47 => cond b47 (Kr false h46) (HCalls Tryd.prog 27 ⟨[(.int .u8 x0)]⟩ h46 fun v48 h49 => vBool v48 fun b50 => cond b50 (HCalls Tryd.prog 28 ⟨[(.int .u8 x0)]⟩ h49 fun v51 h52 => vBool v51 fun b53 => cond b53 (HCalls Tryd.prog 29 ⟨[(.int .u8 x0)]⟩ h52 fun v54 h55 => vInt .i64 v54 fun i56 => HCalls Tryd.prog 30 ⟨[(.int .u8 x0)]⟩ h55 fun v57 h58 => vInt .i64 v57 fun i59 => Spl (i56 = i59) (Kr true h58) (Kr false h58)) (Kr false h52)) (HCalls Tryd.prog 28 ⟨[(.int .u8 x0)]⟩ h49 fun v60 h61 => vBool v60 fun b62 => cond b62 (Kr false h61) (HCalls Tryd.prog 29 ⟨[(.int .u8 x0)]⟩ h61 fun v63 h64 => vInt .i64 v63 fun i65 => HCalls Tryd.prog 30 ⟨[(.int .u8 x0)]⟩ h64 fun v66 h67 => vInt .i64 v66 fun i68 => Spl (i65 = i68) (Kr true h67) (Kr false h67)))))) (Kr false h16)) (HCalls Tryd.prog 24 ⟨[(.int .u8 x0)]⟩ h13 fun v69 h70 => vBool v69 fun b71 => cond b71 (Kr false h70) (HCalls Tryd.prog 25 ⟨[(.int .u8 x0)]⟩ h70 fun v72 h73 => vBool v72 fun b74 => cond b74 (HCalls Tryd.prog 26 ⟨[(.int .u8 x0)]⟩ h73 fun v75 h76 => vBool v75 fun b77 => cond b77 (HCalls Tryd.prog 27 ⟨[(.int .u8 x0)]⟩ h76 fun v78 h79 => vBool v78 fun b80 => cond b80 (HCalls Tryd.prog 28 ⟨[(.int .u8 x0)]⟩ h79 fun v81 h82 => vBool v81 fun b83 => cond b83 (HCalls Tryd.prog 29 ⟨[(.int .u8 x0)]⟩ h82 fun v84 h85 => vInt .i64 v84 fun i86 => HCalls Tryd.prog 30 ⟨[(.int .u8 x0)]⟩ h85 fun v87 h88 => vInt .i64 v87 fun i89 => Spl (i86 = i89) (Kr true h88) (Kr false h88)) (Kr false h82)) (HCalls Tryd.prog 28 ⟨[(.int .u8 x0)]⟩ h79 fun v90 h91 => vBool v90 fun b92 => cond b92 (Kr false h91) (HCalls Tryd.prog 29 ⟨[(.int .u8 x0)]⟩ h91 fun v93 h94 => vInt .i64 v93 fun i95 => HCalls Tryd.prog 30 ⟨[(.int .u8 x0)]⟩ h94 fun v96 h97 => vInt .i64 v96 fun i98 => Spl (i95 = i98) (Kr true h97) (Kr false h97)))) (Kr false h76)) (HCalls Tryd.prog 26 ⟨[(.int .u8 x0)]⟩ h73 fun v99 h100 => vBool v99 fun b101 => cond b101 (Kr false h100) (HCalls Tryd.prog 27 ⟨[(.int .u8 x0)]⟩ h100 fun v102 h103 => vBool v102 fun b104 => cond b104 (HCalls Tryd.prog 28 ⟨[(.int .u8 x0)]⟩ h103 fun v105 h106 => vBool v105 fun b107 => cond b107 (HCalls Tryd.prog 29 ⟨[(.int .u8 x0)]⟩ h106 fun v108 h109 => vInt .i64 v108 fun i110 => HCalls Tryd.prog 30 ⟨[(.int .u8 x0)]⟩ h109 fun v111 h112 => vInt .i64 v111 fun i113 => Spl (i110 = i113) (Kr true h112) (Kr false h112)) (Kr false h106)) (HCalls Tryd.prog 28 ⟨[(.int .u8 x0)]⟩ h103 fun v114 h115 => vBool v114 fun b116 => cond b116 (Kr false h115) (HCalls Tryd.prog 29 ⟨[(.int .u8 x0)]⟩ h115 fun v117 h118 => vInt .i64 v117 fun i119 => HCalls Tryd.prog 30 ⟨[(.int .u8 x0)]⟩ h118 fun v120 h121 => vInt .i64 v120 fun i122 => Spl (i119 = i122) (Kr true h121) (Kr false h121)))))))) (Kr false h10)
theorem n1_ok (x0 : Int) (Kn : T0) (Kr : T0) (g : Env) (hg : E1 g x0) (h : H) (hS : n1 x0 Kn Kr h) : wpC none Tryd.prog 32 code (Q0 Kn Kr) g h := by
  obtain ⟨hg0, hds⟩ := hg
  refine wpC_of_wpx (by kernel_rfl) (by kernel_rfl) (g' := (⟨g.v, []⟩ : Env).upd (some 0) (.int .u8 x0)) (by rw [env_ds hds, upd_self hg0]) ?_
  have e : (n1 x0 Kn Kr h) = wpx none Tryd.prog 32 code (Q0 Kn Kr) ((⟨g.v, []⟩ : Env).upd (some 0) (.int .u8 x0)) h := by kernel_rfl
  exact e ▸ hS
/-- WHAT tympan/tympanlaw02.ClassBytes ASKS -/
abbrev asks (x0 : Int) (K : Value → H → Prop) (h : H) : Prop := n1 x0 (fun y2 h => K (.bool y2) h) (fun y2 h => K (.bool y2) h) h
theorem ok (x0 : Int) (K : Value → H → Prop) (h : H) (hS : asks x0 K h) : HCalls Tryd.prog 7 ⟨[(.int .u8 x0)]⟩ h K := by
  refine calls_of_wpC (c := code) Tryd.func7 (by kernel_rfl) (Nat.le_of_ble_eq_true (by kernel_rfl)) ?_
  refine (n1_ok x0 (fun y2 h => K (.bool y2) h) (fun y2 h => K (.bool y2) h) (env0 [(.int .u8 x0)]) ⟨rfl, rfl⟩ h hS).mono ?_
  intro e g' h' hq
  cases e with
  | normal =>
    have hq : D0 (fun y2 h => K (.bool y2) h) g' h' := hq
    obtain ⟨y2, ⟨hg2, hd⟩, hq⟩ := D0_ok hq
    show leaveX g'.ds h' _
    rw [hd]
    show K (g'.v 2) h'
    rw [hg2]
    exact hq
  | ret =>
    have hq : D0 (fun y2 h => K (.bool y2) h) g' h' := hq
    obtain ⟨y2, ⟨hg2, hd⟩, hq⟩ := D0_ok hq
    show leaveX g'.ds h' _
    rw [hd]
    show K (g'.v 2) h'
    rw [hg2]
    exact hq
  | _ => exact hq
end Sx.l02_ClassBytes

/-! ### tympan/tympanlaw02.known -/
namespace Sx.l02_known
noncomputable def code : Code := bodyOf Tryd.f8
abbrev T0 := Bool → H → Prop
def E0 (g : Env) (x0 : Bool) : Prop := g.v 0 = (.bool x0) ∧ g.ds = []
def D0 (K : T0) (g : Env) (h : H) : Prop := nilDs g.ds (vBool (g.v 0) fun b1 => K b1 h)
theorem D0_ok {K : T0} {g : Env} {h : H} (hq : D0 K g h) : ∃ (x0 : Bool), E0 g x0 ∧ K x0 h := by
  obtain ⟨hd, hq⟩ := nilDs_ok hq
  obtain ⟨y3, e2, q4⟩ := vBool_ok hq
  exact ⟨y3, ⟨e2, hd⟩, q4⟩
def Q0 (Kn : T0) (Kr : T0) : XPost
  | .normal, g, h => D0 Kn g h
  | .ret, g, h => D0 Kr g h
  | _, _, _ => False
abbrev T1 := H → Prop
def E1 (g : Env)  : Prop := g.ds = []
def D1 (K : T1) (g : Env) (h : H) : Prop := nilDs g.ds (K h)
theorem D1_ok {K : T1} {g : Env} {h : H} (hq : D1 K g h) : E1 g  ∧ K  h := by
  obtain ⟨hd, hq⟩ := nilDs_ok hq
  skip
  exact ⟨hd, hq⟩
abbrev n1  (Kn : T0) (Kr : T0) (h : H) : Prop :=
  HCalls Tryd.prog 14 ⟨[(S ([83, 116, 114, 97, 195, 159, 101, 32, 206, 145, 206, 147, 206, 169] : List UInt8))]⟩ h fun v5 h6 => vStr v5 fun s7 => Spl (s7 = ([115, 116, 114, 97, 115, 115, 101, 32, 206, 177, 206, 179, 207, 137] : List UInt8)) (HCalls Tryd.prog 11 ⟨[(.int .i32 (8364 : Int))]⟩ h6 fun v8 h9 => vBool v8 fun b10 => cond b10 (HCalls Tryd.prog 11 ⟨[(.int .i32 (97 : Int))]⟩ h9 fun v11 h12 => vBool v11 fun b13 => cond b13 (Kr false h12) (HCalls Tryd.prog 9 ⟨[(.int .i32 (160 : Int))]⟩ h12 fun v14 h15 => vBool v14 fun b16 => cond b16 (HCalls Tryd.prog 19 ⟨[(S ([195, 169] : List UInt8)), (.int .i64 (2 : Int))]⟩ h15 fun v17 h18 => vInt .i32 v17 fun i19 => Spl (i19 = (233 : Int)) (HCalls Tryd.prog 29 ⟨[(.int .u8 (103 : Int))]⟩ h18 fun v20 h21 => vInt .i64 v20 fun i22 => Spl (i22 = (-1 : Int)) (HCalls Tryd.prog 29 ⟨[(.int .u8 (70 : Int))]⟩ h21 fun v23 h24 => vInt .i64 v23 fun i25 => Spl (i25 = (15 : Int)) (HCalls Tryd.prog 16 ⟨[(S ([195, 128, 66] : List UInt8))]⟩ h24 fun v26 h27 => vStr v26 fun s28 => Spl (s28 = ([195, 128, 98] : List UInt8)) (Kr true h27) (Kr false h27)) (Kr false h24)) (Kr false h21)) (Kr false h18)) (Kr false h15))) (Kr false h9)) (Kr false h6)
theorem n1_ok  (Kn : T0) (Kr : T0) (g : Env) (hg : E1 g ) (h : H) (hS : n1  Kn Kr h) : wpC none Tryd.prog 29 code (Q0 Kn Kr) g h := by
  have hds : g.ds = [] := hg
  refine wpC_of_wpx (by kernel_rfl) (by kernel_rfl) (g' := ⟨g.v, []⟩) (by rw [env_ds hds]) ?_
  have e : (n1  Kn Kr h) = wpx none Tryd.prog 29 code (Q0 Kn Kr) (⟨g.v, []⟩) h := by kernel_rfl
  exact e ▸ hS
/-- WHAT tympan/tympanlaw02.known ASKS -/
abbrev asks  (K : Value → H → Prop) (h : H) : Prop := n1  (fun y0 h => K (.bool y0) h) (fun y0 h => K (.bool y0) h) h
theorem ok  (K : Value → H → Prop) (h : H) (hS : asks  K h) : HCalls Tryd.prog 8 ⟨[]⟩ h K := by
  refine calls_of_wpC (c := code) Tryd.func8 (by kernel_rfl) (Nat.le_of_ble_eq_true (by kernel_rfl)) ?_
  refine (n1_ok  (fun y0 h => K (.bool y0) h) (fun y0 h => K (.bool y0) h) (env0 []) rfl h hS).mono ?_
  intro e g' h' hq
  cases e with
  | normal =>
    have hq : D0 (fun y0 h => K (.bool y0) h) g' h' := hq
    obtain ⟨y0, ⟨hg0, hd⟩, hq⟩ := D0_ok hq
    show leaveX g'.ds h' _
    rw [hd]
    show K (g'.v 0) h'
    rw [hg0]
    exact hq
  | ret =>
    have hq : D0 (fun y0 h => K (.bool y0) h) g' h' := hq
    obtain ⟨y0, ⟨hg0, hd⟩, hq⟩ := D0_ok hq
    show leaveX g'.ds h' _
    rw [hd]
    show K (g'.v 0) h'
    rw [hg0]
    exact hq
  | _ => exact hq
end Sx.l02_known

/-! ### tympan/tympanref02.Punct -/
namespace Sx.r02_Punct
noncomputable def code : Code := bodyOf Tryd.f12
abbrev T0 := Bool → H → Prop
def E0 (g : Env) (x2 : Bool) : Prop := g.v 2 = (.bool x2) ∧ g.ds = []
def D0 (K : T0) (g : Env) (h : H) : Prop := nilDs g.ds (vBool (g.v 2) fun b1 => K b1 h)
theorem D0_ok {K : T0} {g : Env} {h : H} (hq : D0 K g h) : ∃ (x2 : Bool), E0 g x2 ∧ K x2 h := by
  obtain ⟨hd, hq⟩ := nilDs_ok hq
  obtain ⟨y3, e2, q4⟩ := vBool_ok hq
  exact ⟨y3, ⟨e2, hd⟩, q4⟩
def Q0 (Kn : T0) (Kr : T0) : XPost
  | .normal, g, h => D0 Kn g h
  | .ret, g, h => D0 Kr g h
  | _, _, _ => False
abbrev T1 := Int → H → Prop
def E1 (g : Env) (x0 : Int) : Prop := g.v 0 = (.int .i32 x0) ∧ g.ds = []
def D1 (K : T1) (g : Env) (h : H) : Prop := nilDs g.ds (vInt .i32 (g.v 0) fun i5 => K i5 h)
theorem D1_ok {K : T1} {g : Env} {h : H} (hq : D1 K g h) : ∃ (x0 : Int), E1 g x0 ∧ K x0 h := by
  obtain ⟨hd, hq⟩ := nilDs_ok hq
  obtain ⟨y7, e6, q8⟩ := vInt_ok hq
  exact ⟨y7, ⟨e6, hd⟩, q8⟩
noncomputable def n1_c1 : Code := cFst code
noncomputable def n1_c2 : Code := cSnd code
noncomputable def n2_c1 : Code := cFst n1_c2
noncomputable def n2_c2 : Code := cSnd n1_c2
abbrev T2 := Int → (Option Addr) → Nat → Nat → H → Prop
def E2 (g : Env) (x0 : Int) (x3b : Option Addr) (x3n : Nat) (x3c : Nat) : Prop := g.v 0 = (.int .i32 x0) ∧ g.v 3 = (.slice x3b x3n x3c) ∧ g.ds = []
def D2 (K : T2) (g : Env) (h : H) : Prop := nilDs g.ds (vInt .i32 (g.v 0) fun i9 => vSlice (g.v 3) fun s10b s10n s10c => K i9 s10b s10n s10c h)
theorem D2_ok {K : T2} {g : Env} {h : H} (hq : D2 K g h) : ∃ (x0 : Int) (x3b : Option Addr) (x3n : Nat) (x3c : Nat), E2 g x0 x3b x3n x3c ∧ K x0 x3b x3n x3c h := by
  obtain ⟨hd, hq⟩ := nilDs_ok hq
  obtain ⟨y12, e11, q13⟩ := vInt_ok hq
  obtain ⟨y15b, y15n, y15c, e14, q16⟩ := vSlice_ok q13
  exact ⟨y12, y15b, y15n, y15c, ⟨e11, e14, hd⟩, q16⟩
noncomputable def n3_c1 : Code := cFst n2_c2
noncomputable def n3_c2 : Code := cSnd n2_c2
abbrev T3 := Int → (Option Addr) → Nat → Nat → (Option Addr) → Nat → Nat → H → Prop
def E3 (g : Env) (x0 : Int) (x3b : Option Addr) (x3n : Nat) (x3c : Nat) (x4b : Option Addr) (x4n : Nat) (x4c : Nat) : Prop := g.v 0 = (.int .i32 x0) ∧ g.v 3 = (.slice x3b x3n x3c) ∧ g.v 4 = (.slice x4b x4n x4c) ∧ g.ds = []
def D3 (K : T3) (g : Env) (h : H) : Prop := nilDs g.ds (vInt .i32 (g.v 0) fun i17 => vSlice (g.v 3) fun s18b s18n s18c => vSlice (g.v 4) fun s19b s19n s19c => K i17 s18b s18n s18c s19b s19n s19c h)
theorem D3_ok {K : T3} {g : Env} {h : H} (hq : D3 K g h) : ∃ (x0 : Int) (x3b : Option Addr) (x3n : Nat) (x3c : Nat) (x4b : Option Addr) (x4n : Nat) (x4c : Nat), E3 g x0 x3b x3n x3c x4b x4n x4c ∧ K x0 x3b x3n x3c x4b x4n x4c h := by
  obtain ⟨hd, hq⟩ := nilDs_ok hq
  obtain ⟨y21, e20, q22⟩ := vInt_ok hq
  obtain ⟨y24b, y24n, y24c, e23, q25⟩ := vSlice_ok q22
  obtain ⟨y27b, y27n, y27c, e26, q28⟩ := vSlice_ok q25
  exact ⟨y21, y24b, y24n, y24c, y27b, y27n, y27c, ⟨e20, e23, e26, hd⟩, q28⟩
noncomputable def n4_c1 : Code := cFst n3_c2
noncomputable def n4_c2 : Code := cSnd n3_c2
noncomputable def n5_c1 : Code := cFst n4_c2
noncomputable def n5_c2 : Code := cSnd n4_c2
noncomputable def n6_c1 : Code := cFst n5_c2
noncomputable def n6_c2 : Code := cSnd n5_c2
abbrev T4 := H → Prop
def E4 (g : Env)  : Prop := g.ds = []
def D4 (K : T4) (g : Env) (h : H) : Prop := nilDs g.ds (K h)
theorem D4_ok {K : T4} {g : Env} {h : H} (hq : D4 K g h) : E4 g  ∧ K  h := by
  obtain ⟨hd, hq⟩ := nilDs_ok hq
  skip
  exact ⟨hd, hq⟩
abbrev n7  (Kn : T0) (Kr : T0) (h : H) : Prop :=
  Kr false h
theorem n7_ok  (Kn : T0) (Kr : T0) (g : Env) (hg : E4 g ) (h : H) (hS : n7  Kn Kr h) : wpC none Tryd.prog 35 n6_c2 (Q0 Kn Kr) g h := by
  have hds : g.ds = [] := hg
  refine wpC_of_wpx (by kernel_rfl) (by kernel_rfl) (g' := ⟨g.v, []⟩) (by rw [env_ds hds]) ?_
  have e : (n7  Kn Kr h) = wpx none Tryd.prog 35 n6_c2 (Q0 Kn Kr) (⟨g.v, []⟩) h := by kernel_rfl
  exact e ▸ hS
def Q1 (Kn : T4) (Kr : T0) : XPost
  | .normal, g, h => D4 Kn g h
  | .ret, g, h => D0 Kr g h
  | _, _, _ => False
noncomputable def n8_c1 : Code := cFst n6_c1
noncomputable def n8_c2 : Code := cSnd n6_c1
abbrev T5 := Int → (Option Addr) → Nat → Nat → Int → H → Prop
def E5 (g : Env) (x0 : Int) (x3b : Option Addr) (x3n : Nat) (x3c : Nat) (x5 : Int) : Prop := g.v 0 = (.int .i32 x0) ∧ g.v 3 = (.slice x3b x3n x3c) ∧ g.v 5 = (.int .i64 x5) ∧ g.ds = []
def D5 (K : T5) (g : Env) (h : H) : Prop := nilDs g.ds (vInt .i32 (g.v 0) fun i29 => vSlice (g.v 3) fun s30b s30n s30c => vInt .i64 (g.v 5) fun i31 => K i29 s30b s30n s30c i31 h)
theorem D5_ok {K : T5} {g : Env} {h : H} (hq : D5 K g h) : ∃ (x0 : Int) (x3b : Option Addr) (x3n : Nat) (x3c : Nat) (x5 : Int), E5 g x0 x3b x3n x3c x5 ∧ K x0 x3b x3n x3c x5 h := by
  obtain ⟨hd, hq⟩ := nilDs_ok hq
  obtain ⟨y33, e32, q34⟩ := vInt_ok hq
  obtain ⟨y36b, y36n, y36c, e35, q37⟩ := vSlice_ok q34
  obtain ⟨y39, e38, q40⟩ := vInt_ok q37
  exact ⟨y33, y36b, y36n, y36c, y39, ⟨e32, e35, e38, hd⟩, q40⟩
noncomputable def n9_c1 : Code := cFst n8_c2
def Q2 (Kn : T4) (Ke0 : T4) (Kr : T0) : XPost
  | .normal, g, h => D4 Kn g h
  | .ret, g, h => D0 Kr g h
  | .exit id, g, h => cond (Nat.beq id 0) (D4 Ke0 g h) (False)
  | _, _, _ => False
noncomputable def n10_c1 : Code := cFst n9_c1
def Q3 (Kn : T5) (Ke0 : T4) (Kr : T0) : XPost
  | .normal, g, h => D5 Kn g h
  | .ret, g, h => D0 Kr g h
  | .exit id, g, h => cond (Nat.beq id 0) (D4 Ke0 g h) (False)
  | _, _, _ => False
def n10_L (Kn : T4) (Ke0 : T4) (Kr : T0) : Nat → Int → (Option Addr) → Nat → Nat → Int → H → Prop
  | 0 => fun _ _ _ _ _ _ => False
  | N + 1 => fun x0 x3b x3n x3c x5 h => Spl (x5 < (x3n : Int)) ((0 ≤ x5 ∧ x5 < (x3n : Int)) ∧ (vSome x3b fun a41 => ∃ i42, cell h (a41.add (Int.toNat x5 * 1)) = some (.int .i32 i42) ∧ (Spl (x0 ≥ i42) (Rng .i64 (x5 + (1 : Int)) ∧ ((0 ≤ (x5 + (1 : Int)) ∧ (x5 + (1 : Int)) < (x3n : Int)) ∧ (vSome x3b fun a43 => ∃ i44, cell h (a43.add (Int.toNat (x5 + (1 : Int)) * 1)) = some (.int .i32 i44) ∧ (Spl (x0 ≤ i44) (Kr true h) (Rng .i64 (x5 + (2 : Int)) ∧ (n10_L Kn Ke0 Kr N x0 x3b x3n x3c (x5 + (2 : Int)) h)))))) (Rng .i64 (x5 + (2 : Int)) ∧ (n10_L Kn Ke0 Kr N x0 x3b x3n x3c (x5 + (2 : Int)) h))))) (Ke0 h)
abbrev n10 (x0 : Int) (x3b : Option Addr) (x3n : Nat) (x3c : Nat) (x5 : Int) (Kn : T4) (Ke0 : T4) (Kr : T0) (h : H) : Prop := ∃ N, n10_L Kn Ke0 Kr N x0 x3b x3n x3c x5 h
theorem n10_ok (x0 : Int) (x3b : Option Addr) (x3n : Nat) (x3c : Nat) (x5 : Int) (Kn : T4) (Ke0 : T4) (Kr : T0) (g : Env) (hg : E5 g x0 x3b x3n x3c x5) (h : H) (hS : n10 x0 x3b x3n x3c x5 Kn Ke0 Kr h) : wpC none Tryd.prog 35 n9_c1 (Q2 Kn Ke0 Kr) g h := by
  obtain ⟨N0, hS⟩ := hS
  refine wpC_loop' (x := n10_c1) (by kernel_rfl) (fun k g h => ∃ (x0 : Int) (x3b : Option Addr) (x3n : Nat) (x3c : Nat) (x5 : Int), E5 g x0 x3b x3n x3c x5 ∧ n10_L Kn Ke0 Kr k x0 x3b x3n x3c x5 h) (fun g h hr => ?_) (fun N g h hr => ?_) N0 ⟨x0, x3b, x3n, x3c, x5, hg, hS⟩
  · obtain ⟨x0, x3b, x3n, x3c, x5, hg, hS⟩ := hr
    exact hS.elim
  · obtain ⟨x0, x3b, x3n, x3c, x5, hg, hS⟩ := hr
    have hw : wpC none Tryd.prog 35 n10_c1 (Q3 (fun z0 z3b z3n z3c z5 h => n10_L Kn Ke0 Kr N z0 z3b z3n z3c z5 h) Ke0 Kr) g h := by
      obtain ⟨hg0, hg3, hg5, hds⟩ := hg
      refine wpC_of_wpx (by kernel_rfl) (by kernel_rfl) (g' := (((⟨g.v, []⟩ : Env).upd (some 0) (.int .i32 x0)).upd (some 3) (.slice x3b x3n x3c)).upd (some 5) (.int .i64 x5)) (by rw [env_ds hds, upd_self hg0, upd_self hg3, upd_self hg5]) ?_
      have e : (n10_L Kn Ke0 Kr (N + 1) x0 x3b x3n x3c x5 h) = wpx none Tryd.prog 35 n10_c1 (Q3 (fun z0 z3b z3n z3c z5 h => n10_L Kn Ke0 Kr N z0 z3b z3n z3c z5 h) Ke0 Kr) ((((⟨g.v, []⟩ : Env).upd (some 0) (.int .i32 x0)).upd (some 3) (.slice x3b x3n x3c)).upd (some 5) (.int .i64 x5)) h := by kernel_rfl
      exact e ▸ hS
    refine hw.mono ?_
    intro e g' h' hq
    cases e with
    | normal => exact D5_ok (K := (fun z0 z3b z3n z3c z5 h => n10_L Kn Ke0 Kr N z0 z3b z3n z3c z5 h)) hq
    | _ => exact hq
abbrev n9 (x0 : Int) (x3b : Option Addr) (x3n : Nat) (x3c : Nat) (x5 : Int) (Kn : T4) (Kr : T0) (h : H) : Prop := n10 x0 x3b x3n x3c x5 Kn Kn Kr h
theorem n9_ok (x0 : Int) (x3b : Option Addr) (x3n : Nat) (x3c : Nat) (x5 : Int) (Kn : T4) (Kr : T0) (g : Env) (hg : E5 g x0 x3b x3n x3c x5) (h : H) (hS : n9 x0 x3b x3n x3c x5 Kn Kr h) : wpC none Tryd.prog 35 n8_c2 (Q1 Kn Kr) g h := by
  refine wpC_block' (id := 0) (x := n9_c1) (by kernel_rfl) (n10_ok x0 x3b x3n x3c x5 Kn Kn Kr g hg h hS) ?_
  intro e g' h' hq
  cases e <;> exact hq
def Q4 (Kn : T5) (Kr : T0) : XPost
  | .normal, g, h => D5 Kn g h
  | .ret, g, h => D0 Kr g h
  | _, _, _ => False
abbrev n8 (x0 : Int) (x3b : Option Addr) (x3n : Nat) (x3c : Nat) (Kn : T4) (Kr : T0) (h : H) : Prop :=
  n9 x0 x3b x3n x3c (0 : Int) Kn Kr h
theorem n8_ok (x0 : Int) (x3b : Option Addr) (x3n : Nat) (x3c : Nat) (Kn : T4) (Kr : T0) (g : Env) (hg : E2 g x0 x3b x3n x3c) (h : H) (hS : n8 x0 x3b x3n x3c Kn Kr h) : wpC none Tryd.prog 35 n6_c1 (Q1 Kn Kr) g h := by
  obtain ⟨hg0, hg3, hds⟩ := hg
  refine wpC_seq' (x := n8_c1) (y := n8_c2) (Q' := (Q4 (fun z0 z3b z3n z3c z5 h => n9 z0 z3b z3n z3c z5 Kn Kr h) Kr)) (by kernel_rfl) ?_ ?_
  · refine wpC_of_wpx (by kernel_rfl) (by kernel_rfl) (g' := ((⟨g.v, []⟩ : Env).upd (some 0) (.int .i32 x0)).upd (some 3) (.slice x3b x3n x3c)) (by rw [env_ds hds, upd_self hg0, upd_self hg3]) ?_
    have e : (n8 x0 x3b x3n x3c Kn Kr h) = wpx none Tryd.prog 35 n8_c1 (Q4 (fun z0 z3b z3n z3c z5 h => n9 z0 z3b z3n z3c z5 Kn Kr h) Kr) (((⟨g.v, []⟩ : Env).upd (some 0) (.int .i32 x0)).upd (some 3) (.slice x3b x3n x3c)) h := by kernel_rfl
    exact e ▸ hS
  · intro e g' h' hq
    cases e with
    | normal =>
      have hq : D5 (fun z0 z3b z3n z3c z5 h => n9 z0 z3b z3n z3c z5 Kn Kr h) g' h' := hq
      obtain ⟨y0, y3b, y3n, y3c, y5, hg', hq⟩ := D5_ok hq
      exact n9_ok y0 y3b y3n y3c y5 Kn Kr g' hg' h' hq
    | _ => exact hq
abbrev n6 (x0 : Int) (x3b : Option Addr) (x3n : Nat) (x3c : Nat) (Kn : T0) (Kr : T0) (h : H) : Prop := n8 x0 x3b x3n x3c (fun  h => n7 Kn Kr h) Kr h
theorem n6_ok (x0 : Int) (x3b : Option Addr) (x3n : Nat) (x3c : Nat) (Kn : T0) (Kr : T0) (g : Env) (hg : E2 g x0 x3b x3n x3c) (h : H) (hS : n6 x0 x3b x3n x3c Kn Kr h) : wpC none Tryd.prog 35 n5_c2 (Q0 Kn Kr) g h := by
  refine wpC_seq' (x := n6_c1) (y := n6_c2) (by kernel_rfl) (n8_ok x0 x3b x3n x3c (fun  h => n7 Kn Kr h) Kr g hg h hS) ?_
  intro e g' h' hq
  cases e with
  | normal =>
    have hq : D4 (fun  h => n7 Kn Kr h) g' h' := hq
    obtain ⟨hg', hq⟩ := D4_ok hq
    exact n7_ok  Kn Kr g' hg' h' hq
  | _ => exact hq
def Q5 (Kn : T2) (Kr : T0) : XPost
  | .normal, g, h => D2 Kn g h
  | .ret, g, h => D0 Kr g h
  | _, _, _ => False
abbrev n5 (x0 : Int) (x3b : Option Addr) (x3n : Nat) (x3c : Nat) (Kn : T0) (Kr : T0) (h : H) : Prop :=
  newx h #[(.int .i32 (65281 : Int)), (.int .i32 (65295 : Int)), (.int .i32 (65306 : Int)), (.int .i32 (65312 : Int)), (.int .i32 (65339 : Int)), (.int .i32 (65344 : Int)), (.int .i32 (65371 : Int)), (.int .i32 (65381 : Int)), (.int .i32 (127744 : Int)), (.int .i32 (129791 : Int))] 21 fun a45 h46 => SemH Tryd.prog (Builtin.append_ #[37, 37] 37 ⟨[(.slice x3b x3n x3c), (.slice (some a45) 10 10)]⟩) h46 fun v47 h48 => vSlice v47 fun s49b s49n s49c => n6 x0 s49b s49n s49c Kn Kr h48
theorem n5_ok (x0 : Int) (x3b : Option Addr) (x3n : Nat) (x3c : Nat) (Kn : T0) (Kr : T0) (g : Env) (hg : E2 g x0 x3b x3n x3c) (h : H) (hS : n5 x0 x3b x3n x3c Kn Kr h) : wpC none Tryd.prog 35 n4_c2 (Q0 Kn Kr) g h := by
  obtain ⟨hg0, hg3, hds⟩ := hg
  refine wpC_seq' (x := n5_c1) (y := n5_c2) (Q' := (Q5 (fun z0 z3b z3n z3c h => n6 z0 z3b z3n z3c Kn Kr h) Kr)) (by kernel_rfl) ?_ ?_
  · refine wpC_of_wpx (by kernel_rfl) (by kernel_rfl) (g' := ((⟨g.v, []⟩ : Env).upd (some 0) (.int .i32 x0)).upd (some 3) (.slice x3b x3n x3c)) (by rw [env_ds hds, upd_self hg0, upd_self hg3]) ?_
    have e : (n5 x0 x3b x3n x3c Kn Kr h) = wpx none Tryd.prog 35 n5_c1 (Q5 (fun z0 z3b z3n z3c h => n6 z0 z3b z3n z3c Kn Kr h) Kr) (((⟨g.v, []⟩ : Env).upd (some 0) (.int .i32 x0)).upd (some 3) (.slice x3b x3n x3c)) h := by kernel_rfl
    exact e ▸ hS
  · intro e g' h' hq
    cases e with
    | normal =>
      have hq : D2 (fun z0 z3b z3n z3c h => n6 z0 z3b z3n z3c Kn Kr h) g' h' := hq
      obtain ⟨y0, y3b, y3n, y3c, hg', hq⟩ := D2_ok hq
      exact n6_ok y0 y3b y3n y3c Kn Kr g' hg' h' hq
    | _ => exact hq
abbrev n4 (x0 : Int) (x3b : Option Addr) (x3n : Nat) (x3c : Nat) (x4b : Option Addr) (x4n : Nat) (x4c : Nat) (Kn : T0) (Kr : T0) (h : H) : Prop :=
  SemH Tryd.prog (Builtin.append_ #[37, 37] 37 ⟨[(.slice x3b x3n x3c), (.slice x4b x4n x4c)]⟩) h fun v50 h51 => vSlice v50 fun s52b s52n s52c => n5 x0 s52b s52n s52c Kn Kr h51
theorem n4_ok (x0 : Int) (x3b : Option Addr) (x3n : Nat) (x3c : Nat) (x4b : Option Addr) (x4n : Nat) (x4c : Nat) (Kn : T0) (Kr : T0) (g : Env) (hg : E3 g x0 x3b x3n x3c x4b x4n x4c) (h : H) (hS : n4 x0 x3b x3n x3c x4b x4n x4c Kn Kr h) : wpC none Tryd.prog 35 n3_c2 (Q0 Kn Kr) g h := by
  obtain ⟨hg0, hg3, hg4, hds⟩ := hg
  refine wpC_seq' (x := n4_c1) (y := n4_c2) (Q' := (Q5 (fun z0 z3b z3n z3c h => n5 z0 z3b z3n z3c Kn Kr h) Kr)) (by kernel_rfl) ?_ ?_
  · refine wpC_of_wpx (by kernel_rfl) (by kernel_rfl) (g' := (((⟨g.v, []⟩ : Env).upd (some 0) (.int .i32 x0)).upd (some 3) (.slice x3b x3n x3c)).upd (some 4) (.slice x4b x4n x4c)) (by rw [env_ds hds, upd_self hg0, upd_self hg3, upd_self hg4]) ?_
    have e : (n4 x0 x3b x3n x3c x4b x4n x4c Kn Kr h) = wpx none Tryd.prog 35 n4_c1 (Q5 (fun z0 z3b z3n z3c h => n5 z0 z3b z3n z3c Kn Kr h) Kr) ((((⟨g.v, []⟩ : Env).upd (some 0) (.int .i32 x0)).upd (some 3) (.slice x3b x3n x3c)).upd (some 4) (.slice x4b x4n x4c)) h := by kernel_rfl
    exact e ▸ hS
  · intro e g' h' hq
    cases e with
    | normal =>
      have hq : D2 (fun z0 z3b z3n z3c h => n5 z0 z3b z3n z3c Kn Kr h) g' h' := hq
      obtain ⟨y0, y3b, y3n, y3c, hg', hq⟩ := D2_ok hq
      exact n5_ok y0 y3b y3n y3c Kn Kr g' hg' h' hq
    | _ => exact hq
def Q6 (Kn : T3) (Kr : T0) : XPost
  | .normal, g, h => D3 Kn g h
  | .ret, g, h => D0 Kr g h
  | _, _, _ => False
abbrev n3 (x0 : Int) (x3b : Option Addr) (x3n : Nat) (x3c : Nat) (Kn : T0) (Kr : T0) (h : H) : Prop :=
  newx h #[(.int .i32 (8208 : Int)), (.int .i32 (8231 : Int)), (.int .i32 (8240 : Int)), (.int .i32 (8286 : Int)), (.int .i32 (8352 : Int)), (.int .i32 (8384 : Int)), (.int .i32 (8592 : Int)), (.int .i32 (9215 : Int)), (.int .i32 (9472 : Int)), (.int .i32 (10175 : Int)), (.int .i32 (11776 : Int)), (.int .i32 (11869 : Int)), (.int .i32 (12289 : Int)), (.int .i32 (12291 : Int)), (.int .i32 (12296 : Int)), (.int .i32 (12320 : Int)), (.int .i32 (65040 : Int)), (.int .i32 (65049 : Int)), (.int .i32 (65072 : Int)), (.int .i32 (65131 : Int))] 21 fun a53 h54 => n4 x0 x3b x3n x3c (some a53) 20 20 Kn Kr h54
theorem n3_ok (x0 : Int) (x3b : Option Addr) (x3n : Nat) (x3c : Nat) (Kn : T0) (Kr : T0) (g : Env) (hg : E2 g x0 x3b x3n x3c) (h : H) (hS : n3 x0 x3b x3n x3c Kn Kr h) : wpC none Tryd.prog 35 n2_c2 (Q0 Kn Kr) g h := by
  obtain ⟨hg0, hg3, hds⟩ := hg
  refine wpC_seq' (x := n3_c1) (y := n3_c2) (Q' := (Q6 (fun z0 z3b z3n z3c z4b z4n z4c h => n4 z0 z3b z3n z3c z4b z4n z4c Kn Kr h) Kr)) (by kernel_rfl) ?_ ?_
  · refine wpC_of_wpx (by kernel_rfl) (by kernel_rfl) (g' := ((⟨g.v, []⟩ : Env).upd (some 0) (.int .i32 x0)).upd (some 3) (.slice x3b x3n x3c)) (by rw [env_ds hds, upd_self hg0, upd_self hg3]) ?_
    have e : (n3 x0 x3b x3n x3c Kn Kr h) = wpx none Tryd.prog 35 n3_c1 (Q6 (fun z0 z3b z3n z3c z4b z4n z4c h => n4 z0 z3b z3n z3c z4b z4n z4c Kn Kr h) Kr) (((⟨g.v, []⟩ : Env).upd (some 0) (.int .i32 x0)).upd (some 3) (.slice x3b x3n x3c)) h := by kernel_rfl
    exact e ▸ hS
  · intro e g' h' hq
    cases e with
    | normal =>
      have hq : D3 (fun z0 z3b z3n z3c z4b z4n z4c h => n4 z0 z3b z3n z3c z4b z4n z4c Kn Kr h) g' h' := hq
      obtain ⟨y0, y3b, y3n, y3c, y4b, y4n, y4c, hg', hq⟩ := D3_ok hq
      exact n4_ok y0 y3b y3n y3c y4b y4n y4c Kn Kr g' hg' h' hq
    | _ => exact hq
abbrev n2 (x0 : Int) (Kn : T0) (Kr : T0) (h : H) : Prop :=
  newx h #[(.int .i32 (33 : Int)), (.int .i32 (47 : Int)), (.int .i32 (58 : Int)), (.int .i32 (64 : Int)), (.int .i32 (91 : Int)), (.int .i32 (96 : Int)), (.int .i32 (123 : Int)), (.int .i32 (126 : Int)), (.int .i32 (161 : Int)), (.int .i32 (169 : Int)), (.int .i32 (171 : Int)), (.int .i32 (172 : Int)), (.int .i32 (174 : Int)), (.int .i32 (177 : Int)), (.int .i32 (180 : Int)), (.int .i32 (180 : Int)), (.int .i32 (182 : Int)), (.int .i32 (184 : Int)), (.int .i32 (187 : Int)), (.int .i32 (187 : Int)), (.int .i32 (191 : Int)), (.int .i32 (191 : Int)), (.int .i32 (215 : Int)), (.int .i32 (215 : Int)), (.int .i32 (247 : Int)), (.int .i32 (247 : Int))] 21 fun a55 h56 => n3 x0 (some a55) 26 26 Kn Kr h56
theorem n2_ok (x0 : Int) (Kn : T0) (Kr : T0) (g : Env) (hg : E1 g x0) (h : H) (hS : n2 x0 Kn Kr h) : wpC none Tryd.prog 35 n1_c2 (Q0 Kn Kr) g h := by
  obtain ⟨hg0, hds⟩ := hg
  refine wpC_seq' (x := n2_c1) (y := n2_c2) (Q' := (Q5 (fun z0 z3b z3n z3c h => n3 z0 z3b z3n z3c Kn Kr h) Kr)) (by kernel_rfl) ?_ ?_
  · refine wpC_of_wpx (by kernel_rfl) (by kernel_rfl) (g' := (⟨g.v, []⟩ : Env).upd (some 0) (.int .i32 x0)) (by rw [env_ds hds, upd_self hg0]) ?_
    have e : (n2 x0 Kn Kr h) = wpx none Tryd.prog 35 n2_c1 (Q5 (fun z0 z3b z3n z3c h => n3 z0 z3b z3n z3c Kn Kr h) Kr) ((⟨g.v, []⟩ : Env).upd (some 0) (.int .i32 x0)) h := by kernel_rfl
    exact e ▸ hS
  · intro e g' h' hq
    cases e with
    | normal =>
      have hq : D2 (fun z0 z3b z3n z3c h => n3 z0 z3b z3n z3c Kn Kr h) g' h' := hq
      obtain ⟨y0, y3b, y3n, y3c, hg', hq⟩ := D2_ok hq
      exact n3_ok y0 y3b y3n y3c Kn Kr g' hg' h' hq
    | _ => exact hq
def Q7 (Kn : T1) (Kr : T0) : XPost
  | .normal, g, h => D1 Kn g h
  | .ret, g, h => D0 Kr g h
  | _, _, _ => False
abbrev n1 (x0 : Int) (Kn : T0) (Kr : T0) (h : H) : Prop :=
  n2 x0 Kn Kr h
theorem n1_ok (x0 : Int) (Kn : T0) (Kr : T0) (g : Env) (hg : E1 g x0) (h : H) (hS : n1 x0 Kn Kr h) : wpC none Tryd.prog 35 code (Q0 Kn Kr) g h := by
  obtain ⟨hg0, hds⟩ := hg
  refine wpC_seq' (x := n1_c1) (y := n1_c2) (Q' := (Q7 (fun z0 h => n2 z0 Kn Kr h) Kr)) (by kernel_rfl) ?_ ?_
  · refine wpC_of_wpx (by kernel_rfl) (by kernel_rfl) (g' := (⟨g.v, []⟩ : Env).upd (some 0) (.int .i32 x0)) (by rw [env_ds hds, upd_self hg0]) ?_
    have e : (n1 x0 Kn Kr h) = wpx none Tryd.prog 35 n1_c1 (Q7 (fun z0 h => n2 z0 Kn Kr h) Kr) ((⟨g.v, []⟩ : Env).upd (some 0) (.int .i32 x0)) h := by kernel_rfl
    exact e ▸ hS
  · intro e g' h' hq
    cases e with
    | normal =>
      have hq : D1 (fun z0 h => n2 z0 Kn Kr h) g' h' := hq
      obtain ⟨y0, hg', hq⟩ := D1_ok hq
      exact n2_ok y0 Kn Kr g' hg' h' hq
    | _ => exact hq
/-- WHAT tympan/tympanref02.Punct ASKS -/
abbrev asks (x0 : Int) (K : Value → H → Prop) (h : H) : Prop := n1 x0 (fun y2 h => K (.bool y2) h) (fun y2 h => K (.bool y2) h) h
theorem ok (x0 : Int) (K : Value → H → Prop) (h : H) (hS : asks x0 K h) : HCalls Tryd.prog 12 ⟨[(.int .i32 x0)]⟩ h K := by
  refine calls_of_wpC (c := code) Tryd.func12 (by kernel_rfl) (Nat.le_of_ble_eq_true (by kernel_rfl)) ?_
  refine (n1_ok x0 (fun y2 h => K (.bool y2) h) (fun y2 h => K (.bool y2) h) (env0 [(.int .i32 x0)]) ⟨rfl, rfl⟩ h hS).mono ?_
  intro e g' h' hq
  cases e with
  | normal =>
    have hq : D0 (fun y2 h => K (.bool y2) h) g' h' := hq
    obtain ⟨y2, ⟨hg2, hd⟩, hq⟩ := D0_ok hq
    show leaveX g'.ds h' _
    rw [hd]
    show K (g'.v 2) h'
    rw [hg2]
    exact hq
  | ret =>
    have hq : D0 (fun y2 h => K (.bool y2) h) g' h' := hq
    obtain ⟨y2, ⟨hg2, hd⟩, hq⟩ := D0_ok hq
    show leaveX g'.ds h' _
    rw [hd]
    show K (g'.v 2) h'
    rw [hg2]
    exact hq
  | _ => exact hq
end Sx.r02_Punct

/-! ### tympan/tympanref01.Text -/
namespace Sx.r01_Text
noncomputable def code : Code := bodyOf Tryd.f13
abbrev T0 := (List UInt8) → H → Prop
def E0 (g : Env) (x2 : List UInt8) : Prop := g.v 2 = (S x2) ∧ g.ds = []
def D0 (K : T0) (g : Env) (h : H) : Prop := nilDs g.ds (vStr (g.v 2) fun s1 => K s1 h)
theorem D0_ok {K : T0} {g : Env} {h : H} (hq : D0 K g h) : ∃ (x2 : List UInt8), E0 g x2 ∧ K x2 h := by
  obtain ⟨hd, hq⟩ := nilDs_ok hq
  obtain ⟨y3, e2, q4⟩ := vStr_ok hq
  exact ⟨y3, ⟨e2, hd⟩, q4⟩
def Q0 (Kn : T0) (Kr : T0) : XPost
  | .normal, g, h => D0 Kn g h
  | .ret, g, h => D0 Kr g h
  | _, _, _ => False
abbrev T1 := (Option Addr) → Nat → Nat → H → Prop
def E1 (g : Env) (x0b : Option Addr) (x0n : Nat) (x0c : Nat) : Prop := g.v 0 = (.slice x0b x0n x0c) ∧ g.ds = []
def D1 (K : T1) (g : Env) (h : H) : Prop := nilDs g.ds (vSlice (g.v 0) fun s5b s5n s5c => K s5b s5n s5c h)
theorem D1_ok {K : T1} {g : Env} {h : H} (hq : D1 K g h) : ∃ (x0b : Option Addr) (x0n : Nat) (x0c : Nat), E1 g x0b x0n x0c ∧ K x0b x0n x0c h := by
  obtain ⟨hd, hq⟩ := nilDs_ok hq
  obtain ⟨y7b, y7n, y7c, e6, q8⟩ := vSlice_ok hq
  exact ⟨y7b, y7n, y7c, ⟨e6, hd⟩, q8⟩
noncomputable def n1_c1 : Code := cFst code
noncomputable def n1_c2 : Code := cSnd code
noncomputable def n2_c1 : Code := cFst n1_c2
noncomputable def n2_c2 : Code := cSnd n1_c2
abbrev n3 (x0b : Option Addr) (x0n : Nat) (x0c : Nat) (Kn : T0) (Kr : T0) (h : H) : Prop :=
  HCalls Tryd.prog 32 ⟨[(.slice x0b x0n x0c)]⟩ h fun v9 h10 => vStr v9 fun s11 => Kr s11 h10
theorem n3_ok (x0b : Option Addr) (x0n : Nat) (x0c : Nat) (Kn : T0) (Kr : T0) (g : Env) (hg : E1 g x0b x0n x0c) (h : H) (hS : n3 x0b x0n x0c Kn Kr h) : wpC none Tryd.prog 28 n2_c2 (Q0 Kn Kr) g h := by
  obtain ⟨hg0, hds⟩ := hg
  refine wpC_of_wpx (by kernel_rfl) (by kernel_rfl) (g' := (⟨g.v, []⟩ : Env).upd (some 0) (.slice x0b x0n x0c)) (by rw [env_ds hds, upd_self hg0]) ?_
  have e : (n3 x0b x0n x0c Kn Kr h) = wpx none Tryd.prog 28 n2_c2 (Q0 Kn Kr) ((⟨g.v, []⟩ : Env).upd (some 0) (.slice x0b x0n x0c)) h := by kernel_rfl
  exact e ▸ hS
def Q1 (Kn : T1) (Kr : T0) : XPost
  | .normal, g, h => D1 Kn g h
  | .ret, g, h => D0 Kr g h
  | _, _, _ => False
abbrev n2 (x0b : Option Addr) (x0n : Nat) (x0c : Nat) (Kn : T0) (Kr : T0) (h : H) : Prop :=
  Spl ((x0n : Int) ≥ (3 : Int)) ((0 ≤ (0 : Int) ∧ (0 : Int) < (x0n : Int)) ∧ (vSome x0b fun a12 => ∃ i13, cell h (a12.add (Int.toNat (0 : Int) * 1)) = some (.int .u8 i13) ∧ (Spl (i13 = (239 : Int)) ((0 ≤ (1 : Int) ∧ (1 : Int) < (x0n : Int)) ∧ (vSome x0b fun a14 => ∃ i15, cell h (a14.add (Int.toNat (1 : Int) * 1)) = some (.int .u8 i15) ∧ (Spl (i15 = (187 : Int)) ((0 ≤ (2 : Int) ∧ (2 : Int) < (x0n : Int)) ∧ (vSome x0b fun a16 => ∃ i17, cell h (a16.add (Int.toNat (2 : Int) * 1)) = some (.int .u8 i17) ∧ (Spl (i17 = (191 : Int)) ((0 ≤ (3 : Int) ∧ (3 : Int) ≤ (x0n : Int) ∧ (x0n : Int) ≤ (x0c : Int)) ∧ (n3 (if x0c = Int.toNat (3 : Int) then x0b else Option.map (fun q => q.add (Int.toNat (3 : Int) * 1)) x0b) (Int.toNat (x0n : Int) - Int.toNat (3 : Int)) (x0c - Int.toNat (3 : Int)) Kn Kr h)) (n3 x0b x0n x0c Kn Kr h)))) (n3 x0b x0n x0c Kn Kr h)))) (n3 x0b x0n x0c Kn Kr h)))) (n3 x0b x0n x0c Kn Kr h)
theorem n2_ok (x0b : Option Addr) (x0n : Nat) (x0c : Nat) (Kn : T0) (Kr : T0) (g : Env) (hg : E1 g x0b x0n x0c) (h : H) (hS : n2 x0b x0n x0c Kn Kr h) : wpC none Tryd.prog 28 n1_c2 (Q0 Kn Kr) g h := by
  obtain ⟨hg0, hds⟩ := hg
  refine wpC_seq' (x := n2_c1) (y := n2_c2) (Q' := (Q1 (fun z0b z0n z0c h => n3 z0b z0n z0c Kn Kr h) Kr)) (by kernel_rfl) ?_ ?_
  · refine wpC_of_wpx (by kernel_rfl) (by kernel_rfl) (g' := (⟨g.v, []⟩ : Env).upd (some 0) (.slice x0b x0n x0c)) (by rw [env_ds hds, upd_self hg0]) ?_
    have e : (n2 x0b x0n x0c Kn Kr h) = wpx none Tryd.prog 28 n2_c1 (Q1 (fun z0b z0n z0c h => n3 z0b z0n z0c Kn Kr h) Kr) ((⟨g.v, []⟩ : Env).upd (some 0) (.slice x0b x0n x0c)) h := by kernel_rfl
    exact e ▸ hS
  · intro e g' h' hq
    cases e with
    | normal =>
      have hq : D1 (fun z0b z0n z0c h => n3 z0b z0n z0c Kn Kr h) g' h' := hq
      obtain ⟨y0b, y0n, y0c, hg', hq⟩ := D1_ok hq
      exact n3_ok y0b y0n y0c Kn Kr g' hg' h' hq
    | _ => exact hq
abbrev n1 (x0b : Option Addr) (x0n : Nat) (x0c : Nat) (Kn : T0) (Kr : T0) (h : H) : Prop :=
  n2 x0b x0n x0c Kn Kr h
theorem n1_ok (x0b : Option Addr) (x0n : Nat) (x0c : Nat) (Kn : T0) (Kr : T0) (g : Env) (hg : E1 g x0b x0n x0c) (h : H) (hS : n1 x0b x0n x0c Kn Kr h) : wpC none Tryd.prog 28 code (Q0 Kn Kr) g h := by
  obtain ⟨hg0, hds⟩ := hg
  refine wpC_seq' (x := n1_c1) (y := n1_c2) (Q' := (Q1 (fun z0b z0n z0c h => n2 z0b z0n z0c Kn Kr h) Kr)) (by kernel_rfl) ?_ ?_
  · refine wpC_of_wpx (by kernel_rfl) (by kernel_rfl) (g' := (⟨g.v, []⟩ : Env).upd (some 0) (.slice x0b x0n x0c)) (by rw [env_ds hds, upd_self hg0]) ?_
    have e : (n1 x0b x0n x0c Kn Kr h) = wpx none Tryd.prog 28 n1_c1 (Q1 (fun z0b z0n z0c h => n2 z0b z0n z0c Kn Kr h) Kr) ((⟨g.v, []⟩ : Env).upd (some 0) (.slice x0b x0n x0c)) h := by kernel_rfl
    exact e ▸ hS
  · intro e g' h' hq
    cases e with
    | normal =>
      have hq : D1 (fun z0b z0n z0c h => n2 z0b z0n z0c Kn Kr h) g' h' := hq
      obtain ⟨y0b, y0n, y0c, hg', hq⟩ := D1_ok hq
      exact n2_ok y0b y0n y0c Kn Kr g' hg' h' hq
    | _ => exact hq
/-- WHAT tympan/tympanref01.Text ASKS -/
abbrev asks (x0b : Option Addr) (x0n : Nat) (x0c : Nat) (K : Value → H → Prop) (h : H) : Prop := n1 x0b x0n x0c (fun y2 h => K (S y2) h) (fun y2 h => K (S y2) h) h
theorem ok (x0b : Option Addr) (x0n : Nat) (x0c : Nat) (K : Value → H → Prop) (h : H) (hS : asks x0b x0n x0c K h) : HCalls Tryd.prog 13 ⟨[(.slice x0b x0n x0c)]⟩ h K := by
  refine calls_of_wpC (c := code) Tryd.func13 (by kernel_rfl) (Nat.le_of_ble_eq_true (by kernel_rfl)) ?_
  refine (n1_ok x0b x0n x0c (fun y2 h => K (S y2) h) (fun y2 h => K (S y2) h) (env0 [(.slice x0b x0n x0c)]) ⟨rfl, rfl⟩ h hS).mono ?_
  intro e g' h' hq
  cases e with
  | normal =>
    have hq : D0 (fun y2 h => K (S y2) h) g' h' := hq
    obtain ⟨y2, ⟨hg2, hd⟩, hq⟩ := D0_ok hq
    show leaveX g'.ds h' _
    rw [hd]
    show K (g'.v 2) h'
    rw [hg2]
    exact hq
  | ret =>
    have hq : D0 (fun y2 h => K (S y2) h) g' h' := hq
    obtain ⟨y2, ⟨hg2, hd⟩, hq⟩ := D0_ok hq
    show leaveX g'.ds h' _
    rw [hd]
    show K (g'.v 2) h'
    rw [hg2]
    exact hq
  | _ => exact hq
end Sx.r01_Text

/-! ### tympan/tympanref02.Fold -/
namespace Sx.r02_Fold
noncomputable def code : Code := bodyOf Tryd.f15
abbrev T0 := (List UInt8) → H → Prop
def E0 (g : Env) (x2 : List UInt8) : Prop := g.v 2 = (S x2) ∧ g.ds = []
def D0 (K : T0) (g : Env) (h : H) : Prop := nilDs g.ds (vStr (g.v 2) fun s1 => K s1 h)
theorem D0_ok {K : T0} {g : Env} {h : H} (hq : D0 K g h) : ∃ (x2 : List UInt8), E0 g x2 ∧ K x2 h := by
  obtain ⟨hd, hq⟩ := nilDs_ok hq
  obtain ⟨y3, e2, q4⟩ := vStr_ok hq
  exact ⟨y3, ⟨e2, hd⟩, q4⟩
def Q0 (Kn : T0) (Kr : T0) : XPost
  | .normal, g, h => D0 Kn g h
  | .ret, g, h => D0 Kr g h
  | _, _, _ => False
abbrev T1 := (List UInt8) → H → Prop
def E1 (g : Env) (x0 : List UInt8) : Prop := g.v 0 = (S x0) ∧ g.ds = []
def D1 (K : T1) (g : Env) (h : H) : Prop := nilDs g.ds (vStr (g.v 0) fun s5 => K s5 h)
theorem D1_ok {K : T1} {g : Env} {h : H} (hq : D1 K g h) : ∃ (x0 : List UInt8), E1 g x0 ∧ K x0 h := by
  obtain ⟨hd, hq⟩ := nilDs_ok hq
  obtain ⟨y7, e6, q8⟩ := vStr_ok hq
  exact ⟨y7, ⟨e6, hd⟩, q8⟩
noncomputable def n1_c1 : Code := cFst code
noncomputable def n1_c2 : Code := cSnd code
noncomputable def n2_c1 : Code := cFst n1_c2
noncomputable def n2_c2 : Code := cSnd n1_c2
abbrev T2 := (List UInt8) → (Option Addr) → Nat → Nat → H → Prop
def E2 (g : Env) (x0 : List UInt8) (x3b : Option Addr) (x3n : Nat) (x3c : Nat) : Prop := g.v 0 = (S x0) ∧ g.v 3 = (.slice x3b x3n x3c) ∧ g.ds = []
def D2 (K : T2) (g : Env) (h : H) : Prop := nilDs g.ds (vStr (g.v 0) fun s9 => vSlice (g.v 3) fun s10b s10n s10c => K s9 s10b s10n s10c h)
theorem D2_ok {K : T2} {g : Env} {h : H} (hq : D2 K g h) : ∃ (x0 : List UInt8) (x3b : Option Addr) (x3n : Nat) (x3c : Nat), E2 g x0 x3b x3n x3c ∧ K x0 x3b x3n x3c h := by
  obtain ⟨hd, hq⟩ := nilDs_ok hq
  obtain ⟨y12, e11, q13⟩ := vStr_ok hq
  obtain ⟨y15b, y15n, y15c, e14, q16⟩ := vSlice_ok q13
  exact ⟨y12, y15b, y15n, y15c, ⟨e11, e14, hd⟩, q16⟩
noncomputable def n3_c1 : Code := cFst n2_c2
noncomputable def n3_c2 : Code := cSnd n2_c2
abbrev T3 := (Option Addr) → Nat → Nat → (Option Addr) → Nat → Nat → H → Prop
def E3 (g : Env) (x3b : Option Addr) (x3n : Nat) (x3c : Nat) (x4b : Option Addr) (x4n : Nat) (x4c : Nat) : Prop := g.v 3 = (.slice x3b x3n x3c) ∧ g.v 4 = (.slice x4b x4n x4c) ∧ g.ds = []
def D3 (K : T3) (g : Env) (h : H) : Prop := nilDs g.ds (vSlice (g.v 3) fun s17b s17n s17c => vSlice (g.v 4) fun s18b s18n s18c => K s17b s17n s17c s18b s18n s18c h)
theorem D3_ok {K : T3} {g : Env} {h : H} (hq : D3 K g h) : ∃ (x3b : Option Addr) (x3n : Nat) (x3c : Nat) (x4b : Option Addr) (x4n : Nat) (x4c : Nat), E3 g x3b x3n x3c x4b x4n x4c ∧ K x3b x3n x3c x4b x4n x4c h := by
  obtain ⟨hd, hq⟩ := nilDs_ok hq
  obtain ⟨y20b, y20n, y20c, e19, q21⟩ := vSlice_ok hq
  obtain ⟨y23b, y23n, y23c, e22, q24⟩ := vSlice_ok q21
  exact ⟨y20b, y20n, y20c, y23b, y23n, y23c, ⟨e19, e22, hd⟩, q24⟩
noncomputable def n4_c1 : Code := cFst n3_c2
noncomputable def n4_c2 : Code := cSnd n3_c2
abbrev T4 := (Option Addr) → Nat → Nat → H → Prop
def E4 (g : Env) (x3b : Option Addr) (x3n : Nat) (x3c : Nat) : Prop := g.v 3 = (.slice x3b x3n x3c) ∧ g.ds = []
def D4 (K : T4) (g : Env) (h : H) : Prop := nilDs g.ds (vSlice (g.v 3) fun s25b s25n s25c => K s25b s25n s25c h)
theorem D4_ok {K : T4} {g : Env} {h : H} (hq : D4 K g h) : ∃ (x3b : Option Addr) (x3n : Nat) (x3c : Nat), E4 g x3b x3n x3c ∧ K x3b x3n x3c h := by
  obtain ⟨hd, hq⟩ := nilDs_ok hq
  obtain ⟨y27b, y27n, y27c, e26, q28⟩ := vSlice_ok hq
  exact ⟨y27b, y27n, y27c, ⟨e26, hd⟩, q28⟩
abbrev n5 (x3b : Option Addr) (x3n : Nat) (x3c : Nat) (Kn : T0) (Kr : T0) (h : H) : Prop :=
  SemH Tryd.prog (convert 37 9 (.slice x3b x3n x3c)) h fun v29 h30 => vStr v29 fun s31 => Kr s31 h30
theorem n5_ok (x3b : Option Addr) (x3n : Nat) (x3c : Nat) (Kn : T0) (Kr : T0) (g : Env) (hg : E4 g x3b x3n x3c) (h : H) (hS : n5 x3b x3n x3c Kn Kr h) : wpC none Tryd.prog 23 n4_c2 (Q0 Kn Kr) g h := by
  obtain ⟨hg3, hds⟩ := hg
  refine wpC_of_wpx (by kernel_rfl) (by kernel_rfl) (g' := (⟨g.v, []⟩ : Env).upd (some 3) (.slice x3b x3n x3c)) (by rw [env_ds hds, upd_self hg3]) ?_
  have e : (n5 x3b x3n x3c Kn Kr h) = wpx none Tryd.prog 23 n4_c2 (Q0 Kn Kr) ((⟨g.v, []⟩ : Env).upd (some 3) (.slice x3b x3n x3c)) h := by kernel_rfl
  exact e ▸ hS
def Q1 (Kn : T4) (Kr : T0) : XPost
  | .normal, g, h => D4 Kn g h
  | .ret, g, h => D0 Kr g h
  | _, _, _ => False
noncomputable def n6_c1 : Code := cFst n4_c1
noncomputable def n6_c2 : Code := cSnd n4_c1
abbrev T5 := (Option Addr) → Nat → Nat → (Option Addr) → Nat → Nat → Int → H → Prop
def E5 (g : Env) (x3b : Option Addr) (x3n : Nat) (x3c : Nat) (x4b : Option Addr) (x4n : Nat) (x4c : Nat) (x5 : Int) : Prop := g.v 3 = (.slice x3b x3n x3c) ∧ g.v 4 = (.slice x4b x4n x4c) ∧ g.v 5 = (.int .i64 x5) ∧ g.ds = []
def D5 (K : T5) (g : Env) (h : H) : Prop := nilDs g.ds (vSlice (g.v 3) fun s32b s32n s32c => vSlice (g.v 4) fun s33b s33n s33c => vInt .i64 (g.v 5) fun i34 => K s32b s32n s32c s33b s33n s33c i34 h)
theorem D5_ok {K : T5} {g : Env} {h : H} (hq : D5 K g h) : ∃ (x3b : Option Addr) (x3n : Nat) (x3c : Nat) (x4b : Option Addr) (x4n : Nat) (x4c : Nat) (x5 : Int), E5 g x3b x3n x3c x4b x4n x4c x5 ∧ K x3b x3n x3c x4b x4n x4c x5 h := by
  obtain ⟨hd, hq⟩ := nilDs_ok hq
  obtain ⟨y36b, y36n, y36c, e35, q37⟩ := vSlice_ok hq
  obtain ⟨y39b, y39n, y39c, e38, q40⟩ := vSlice_ok q37
  obtain ⟨y42, e41, q43⟩ := vInt_ok q40
  exact ⟨y36b, y36n, y36c, y39b, y39n, y39c, y42, ⟨e35, e38, e41, hd⟩, q43⟩
noncomputable def n7_c1 : Code := cFst n6_c2
def Q2 (Kn : T4) (Ke0 : T4) (Kr : T0) : XPost
  | .normal, g, h => D4 Kn g h
  | .ret, g, h => D0 Kr g h
  | .exit id, g, h => cond (Nat.beq id 0) (D4 Ke0 g h) (False)
  | _, _, _ => False
noncomputable def n8_c1 : Code := cFst n7_c1
def Q3 (Kn : T5) (Ke0 : T4) (Kr : T0) : XPost
  | .normal, g, h => D5 Kn g h
  | .ret, g, h => D0 Kr g h
  | .exit id, g, h => cond (Nat.beq id 0) (D4 Ke0 g h) (False)
  | _, _, _ => False
def n8_L (Kn : T4) (Ke0 : T4) (Kr : T0) : Nat → (Option Addr) → Nat → Nat → (Option Addr) → Nat → Nat → Int → H → Prop
  | 0 => fun _ _ _ _ _ _ _ _ => False
  | N + 1 => fun x3b x3n x3c x4b x4n x4c x5 h => Spl (x5 < (x4n : Int)) ((0 ≤ x5 ∧ x5 < (x4n : Int)) ∧ (vSome x4b fun a44 => ∃ i45, cell h (a44.add (Int.toNat x5 * 1)) = some (.int .i32 i45) ∧ (HCalls Tryd.prog 37 ⟨[(.int .i32 i45)]⟩ h fun v46 h47 => vSlice v46 fun s48b s48n s48c => SemH Tryd.prog (Builtin.append_ #[37, 37] 37 ⟨[(.slice x3b x3n x3c), (.slice s48b s48n s48c)]⟩) h47 fun v49 h50 => vSlice v49 fun s51b s51n s51c => Rng .i64 (x5 + (1 : Int)) ∧ (n8_L Kn Ke0 Kr N s51b s51n s51c x4b x4n x4c (x5 + (1 : Int)) h50)))) (Ke0 x3b x3n x3c h)
abbrev n8 (x3b : Option Addr) (x3n : Nat) (x3c : Nat) (x4b : Option Addr) (x4n : Nat) (x4c : Nat) (x5 : Int) (Kn : T4) (Ke0 : T4) (Kr : T0) (h : H) : Prop := ∃ N, n8_L Kn Ke0 Kr N x3b x3n x3c x4b x4n x4c x5 h
theorem n8_ok (x3b : Option Addr) (x3n : Nat) (x3c : Nat) (x4b : Option Addr) (x4n : Nat) (x4c : Nat) (x5 : Int) (Kn : T4) (Ke0 : T4) (Kr : T0) (g : Env) (hg : E5 g x3b x3n x3c x4b x4n x4c x5) (h : H) (hS : n8 x3b x3n x3c x4b x4n x4c x5 Kn Ke0 Kr h) : wpC none Tryd.prog 23 n7_c1 (Q2 Kn Ke0 Kr) g h := by
  obtain ⟨N0, hS⟩ := hS
  refine wpC_loop' (x := n8_c1) (by kernel_rfl) (fun k g h => ∃ (x3b : Option Addr) (x3n : Nat) (x3c : Nat) (x4b : Option Addr) (x4n : Nat) (x4c : Nat) (x5 : Int), E5 g x3b x3n x3c x4b x4n x4c x5 ∧ n8_L Kn Ke0 Kr k x3b x3n x3c x4b x4n x4c x5 h) (fun g h hr => ?_) (fun N g h hr => ?_) N0 ⟨x3b, x3n, x3c, x4b, x4n, x4c, x5, hg, hS⟩
  · obtain ⟨x3b, x3n, x3c, x4b, x4n, x4c, x5, hg, hS⟩ := hr
    exact hS.elim
  · obtain ⟨x3b, x3n, x3c, x4b, x4n, x4c, x5, hg, hS⟩ := hr
    have hw : wpC none Tryd.prog 23 n8_c1 (Q3 (fun z3b z3n z3c z4b z4n z4c z5 h => n8_L Kn Ke0 Kr N z3b z3n z3c z4b z4n z4c z5 h) Ke0 Kr) g h := by
      obtain ⟨hg3, hg4, hg5, hds⟩ := hg
      refine wpC_of_wpx (by kernel_rfl) (by kernel_rfl) (g' := (((⟨g.v, []⟩ : Env).upd (some 3) (.slice x3b x3n x3c)).upd (some 4) (.slice x4b x4n x4c)).upd (some 5) (.int .i64 x5)) (by rw [env_ds hds, upd_self hg3, upd_self hg4, upd_self hg5]) ?_
      have e : (n8_L Kn Ke0 Kr (N + 1) x3b x3n x3c x4b x4n x4c x5 h) = wpx none Tryd.prog 23 n8_c1 (Q3 (fun z3b z3n z3c z4b z4n z4c z5 h => n8_L Kn Ke0 Kr N z3b z3n z3c z4b z4n z4c z5 h) Ke0 Kr) ((((⟨g.v, []⟩ : Env).upd (some 3) (.slice x3b x3n x3c)).upd (some 4) (.slice x4b x4n x4c)).upd (some 5) (.int .i64 x5)) h := by kernel_rfl
      exact e ▸ hS
    refine hw.mono ?_
    intro e g' h' hq
    cases e with
    | normal => exact D5_ok (K := (fun z3b z3n z3c z4b z4n z4c z5 h => n8_L Kn Ke0 Kr N z3b z3n z3c z4b z4n z4c z5 h)) hq
    | _ => exact hq
abbrev n7 (x3b : Option Addr) (x3n : Nat) (x3c : Nat) (x4b : Option Addr) (x4n : Nat) (x4c : Nat) (x5 : Int) (Kn : T4) (Kr : T0) (h : H) : Prop := n8 x3b x3n x3c x4b x4n x4c x5 Kn Kn Kr h
theorem n7_ok (x3b : Option Addr) (x3n : Nat) (x3c : Nat) (x4b : Option Addr) (x4n : Nat) (x4c : Nat) (x5 : Int) (Kn : T4) (Kr : T0) (g : Env) (hg : E5 g x3b x3n x3c x4b x4n x4c x5) (h : H) (hS : n7 x3b x3n x3c x4b x4n x4c x5 Kn Kr h) : wpC none Tryd.prog 23 n6_c2 (Q1 Kn Kr) g h := by
  refine wpC_block' (id := 0) (x := n7_c1) (by kernel_rfl) (n8_ok x3b x3n x3c x4b x4n x4c x5 Kn Kn Kr g hg h hS) ?_
  intro e g' h' hq
  cases e <;> exact hq
def Q4 (Kn : T5) (Kr : T0) : XPost
  | .normal, g, h => D5 Kn g h
  | .ret, g, h => D0 Kr g h
  | _, _, _ => False
abbrev n6 (x3b : Option Addr) (x3n : Nat) (x3c : Nat) (x4b : Option Addr) (x4n : Nat) (x4c : Nat) (Kn : T4) (Kr : T0) (h : H) : Prop :=
  n7 x3b x3n x3c x4b x4n x4c (0 : Int) Kn Kr h
theorem n6_ok (x3b : Option Addr) (x3n : Nat) (x3c : Nat) (x4b : Option Addr) (x4n : Nat) (x4c : Nat) (Kn : T4) (Kr : T0) (g : Env) (hg : E3 g x3b x3n x3c x4b x4n x4c) (h : H) (hS : n6 x3b x3n x3c x4b x4n x4c Kn Kr h) : wpC none Tryd.prog 23 n4_c1 (Q1 Kn Kr) g h := by
  obtain ⟨hg3, hg4, hds⟩ := hg
  refine wpC_seq' (x := n6_c1) (y := n6_c2) (Q' := (Q4 (fun z3b z3n z3c z4b z4n z4c z5 h => n7 z3b z3n z3c z4b z4n z4c z5 Kn Kr h) Kr)) (by kernel_rfl) ?_ ?_
  · refine wpC_of_wpx (by kernel_rfl) (by kernel_rfl) (g' := ((⟨g.v, []⟩ : Env).upd (some 3) (.slice x3b x3n x3c)).upd (some 4) (.slice x4b x4n x4c)) (by rw [env_ds hds, upd_self hg3, upd_self hg4]) ?_
    have e : (n6 x3b x3n x3c x4b x4n x4c Kn Kr h) = wpx none Tryd.prog 23 n6_c1 (Q4 (fun z3b z3n z3c z4b z4n z4c z5 h => n7 z3b z3n z3c z4b z4n z4c z5 Kn Kr h) Kr) (((⟨g.v, []⟩ : Env).upd (some 3) (.slice x3b x3n x3c)).upd (some 4) (.slice x4b x4n x4c)) h := by kernel_rfl
    exact e ▸ hS
  · intro e g' h' hq
    cases e with
    | normal =>
      have hq : D5 (fun z3b z3n z3c z4b z4n z4c z5 h => n7 z3b z3n z3c z4b z4n z4c z5 Kn Kr h) g' h' := hq
      obtain ⟨y3b, y3n, y3c, y4b, y4n, y4c, y5, hg', hq⟩ := D5_ok hq
      exact n7_ok y3b y3n y3c y4b y4n y4c y5 Kn Kr g' hg' h' hq
    | _ => exact hq
abbrev n4 (x3b : Option Addr) (x3n : Nat) (x3c : Nat) (x4b : Option Addr) (x4n : Nat) (x4c : Nat) (Kn : T0) (Kr : T0) (h : H) : Prop := n6 x3b x3n x3c x4b x4n x4c (fun z3b z3n z3c h => n5 z3b z3n z3c Kn Kr h) Kr h
theorem n4_ok (x3b : Option Addr) (x3n : Nat) (x3c : Nat) (x4b : Option Addr) (x4n : Nat) (x4c : Nat) (Kn : T0) (Kr : T0) (g : Env) (hg : E3 g x3b x3n x3c x4b x4n x4c) (h : H) (hS : n4 x3b x3n x3c x4b x4n x4c Kn Kr h) : wpC none Tryd.prog 23 n3_c2 (Q0 Kn Kr) g h := by
  refine wpC_seq' (x := n4_c1) (y := n4_c2) (by kernel_rfl) (n6_ok x3b x3n x3c x4b x4n x4c (fun z3b z3n z3c h => n5 z3b z3n z3c Kn Kr h) Kr g hg h hS) ?_
  intro e g' h' hq
  cases e with
  | normal =>
    have hq : D4 (fun z3b z3n z3c h => n5 z3b z3n z3c Kn Kr h) g' h' := hq
    obtain ⟨y3b, y3n, y3c, hg', hq⟩ := D4_ok hq
    exact n5_ok y3b y3n y3c Kn Kr g' hg' h' hq
  | _ => exact hq
def Q5 (Kn : T3) (Kr : T0) : XPost
  | .normal, g, h => D3 Kn g h
  | .ret, g, h => D0 Kr g h
  | _, _, _ => False
abbrev n3 (x0 : List UInt8) (x3b : Option Addr) (x3n : Nat) (x3c : Nat) (Kn : T0) (Kr : T0) (h : H) : Prop :=
  SemH Tryd.prog (convert 9 37 (S x0)) h fun v52 h53 => vSlice v52 fun s54b s54n s54c => n4 x3b x3n x3c s54b s54n s54c Kn Kr h53
theorem n3_ok (x0 : List UInt8) (x3b : Option Addr) (x3n : Nat) (x3c : Nat) (Kn : T0) (Kr : T0) (g : Env) (hg : E2 g x0 x3b x3n x3c) (h : H) (hS : n3 x0 x3b x3n x3c Kn Kr h) : wpC none Tryd.prog 23 n2_c2 (Q0 Kn Kr) g h := by
  obtain ⟨hg0, hg3, hds⟩ := hg
  refine wpC_seq' (x := n3_c1) (y := n3_c2) (Q' := (Q5 (fun z3b z3n z3c z4b z4n z4c h => n4 z3b z3n z3c z4b z4n z4c Kn Kr h) Kr)) (by kernel_rfl) ?_ ?_
  · refine wpC_of_wpx (by kernel_rfl) (by kernel_rfl) (g' := ((⟨g.v, []⟩ : Env).upd (some 0) (S x0)).upd (some 3) (.slice x3b x3n x3c)) (by rw [env_ds hds, upd_self hg0, upd_self hg3]) ?_
    have e : (n3 x0 x3b x3n x3c Kn Kr h) = wpx none Tryd.prog 23 n3_c1 (Q5 (fun z3b z3n z3c z4b z4n z4c h => n4 z3b z3n z3c z4b z4n z4c Kn Kr h) Kr) (((⟨g.v, []⟩ : Env).upd (some 0) (S x0)).upd (some 3) (.slice x3b x3n x3c)) h := by kernel_rfl
    exact e ▸ hS
  · intro e g' h' hq
    cases e with
    | normal =>
      have hq : D3 (fun z3b z3n z3c z4b z4n z4c h => n4 z3b z3n z3c z4b z4n z4c Kn Kr h) g' h' := hq
      obtain ⟨y3b, y3n, y3c, y4b, y4n, y4c, hg', hq⟩ := D3_ok hq
      exact n4_ok y3b y3n y3c y4b y4n y4c Kn Kr g' hg' h' hq
    | _ => exact hq
def Q6 (Kn : T2) (Kr : T0) : XPost
  | .normal, g, h => D2 Kn g h
  | .ret, g, h => D0 Kr g h
  | _, _, _ => False
abbrev n2 (x0 : List UInt8) (Kn : T0) (Kr : T0) (h : H) : Prop :=
  n3 x0 none 0 0 Kn Kr h
theorem n2_ok (x0 : List UInt8) (Kn : T0) (Kr : T0) (g : Env) (hg : E1 g x0) (h : H) (hS : n2 x0 Kn Kr h) : wpC none Tryd.prog 23 n1_c2 (Q0 Kn Kr) g h := by
  obtain ⟨hg0, hds⟩ := hg
  refine wpC_seq' (x := n2_c1) (y := n2_c2) (Q' := (Q6 (fun z0 z3b z3n z3c h => n3 z0 z3b z3n z3c Kn Kr h) Kr)) (by kernel_rfl) ?_ ?_
  · refine wpC_of_wpx (by kernel_rfl) (by kernel_rfl) (g' := (⟨g.v, []⟩ : Env).upd (some 0) (S x0)) (by rw [env_ds hds, upd_self hg0]) ?_
    have e : (n2 x0 Kn Kr h) = wpx none Tryd.prog 23 n2_c1 (Q6 (fun z0 z3b z3n z3c h => n3 z0 z3b z3n z3c Kn Kr h) Kr) ((⟨g.v, []⟩ : Env).upd (some 0) (S x0)) h := by kernel_rfl
    exact e ▸ hS
  · intro e g' h' hq
    cases e with
    | normal =>
      have hq : D2 (fun z0 z3b z3n z3c h => n3 z0 z3b z3n z3c Kn Kr h) g' h' := hq
      obtain ⟨y0, y3b, y3n, y3c, hg', hq⟩ := D2_ok hq
      exact n3_ok y0 y3b y3n y3c Kn Kr g' hg' h' hq
    | _ => exact hq
def Q7 (Kn : T1) (Kr : T0) : XPost
  | .normal, g, h => D1 Kn g h
  | .ret, g, h => D0 Kr g h
  | _, _, _ => False
abbrev n1 (x0 : List UInt8) (Kn : T0) (Kr : T0) (h : H) : Prop :=
  n2 x0 Kn Kr h
theorem n1_ok (x0 : List UInt8) (Kn : T0) (Kr : T0) (g : Env) (hg : E1 g x0) (h : H) (hS : n1 x0 Kn Kr h) : wpC none Tryd.prog 23 code (Q0 Kn Kr) g h := by
  obtain ⟨hg0, hds⟩ := hg
  refine wpC_seq' (x := n1_c1) (y := n1_c2) (Q' := (Q7 (fun z0 h => n2 z0 Kn Kr h) Kr)) (by kernel_rfl) ?_ ?_
  · refine wpC_of_wpx (by kernel_rfl) (by kernel_rfl) (g' := (⟨g.v, []⟩ : Env).upd (some 0) (S x0)) (by rw [env_ds hds, upd_self hg0]) ?_
    have e : (n1 x0 Kn Kr h) = wpx none Tryd.prog 23 n1_c1 (Q7 (fun z0 h => n2 z0 Kn Kr h) Kr) ((⟨g.v, []⟩ : Env).upd (some 0) (S x0)) h := by kernel_rfl
    exact e ▸ hS
  · intro e g' h' hq
    cases e with
    | normal =>
      have hq : D1 (fun z0 h => n2 z0 Kn Kr h) g' h' := hq
      obtain ⟨y0, hg', hq⟩ := D1_ok hq
      exact n2_ok y0 Kn Kr g' hg' h' hq
    | _ => exact hq
/-- WHAT tympan/tympanref02.Fold ASKS -/
abbrev asks (x0 : List UInt8) (K : Value → H → Prop) (h : H) : Prop := n1 x0 (fun y2 h => K (S y2) h) (fun y2 h => K (S y2) h) h
theorem ok (x0 : List UInt8) (K : Value → H → Prop) (h : H) (hS : asks x0 K h) : HCalls Tryd.prog 15 ⟨[(S x0)]⟩ h K := by
  refine calls_of_wpC (c := code) Tryd.func15 (by kernel_rfl) (Nat.le_of_ble_eq_true (by kernel_rfl)) ?_
  refine (n1_ok x0 (fun y2 h => K (S y2) h) (fun y2 h => K (S y2) h) (env0 [(S x0)]) ⟨rfl, rfl⟩ h hS).mono ?_
  intro e g' h' hq
  cases e with
  | normal =>
    have hq : D0 (fun y2 h => K (S y2) h) g' h' := hq
    obtain ⟨y2, ⟨hg2, hd⟩, hq⟩ := D0_ok hq
    show leaveX g'.ds h' _
    rw [hd]
    show K (g'.v 2) h'
    rw [hg2]
    exact hq
  | ret =>
    have hq : D0 (fun y2 h => K (S y2) h) g' h' := hq
    obtain ⟨y2, ⟨hg2, hd⟩, hq⟩ := D0_ok hq
    show leaveX g'.ds h' _
    rw [hd]
    show K (g'.v 2) h'
    rw [hg2]
    exact hq
  | _ => exact hq
end Sx.r02_Fold

/-! ### tympan/tympanref02.Whole -/
namespace Sx.r02_Whole
noncomputable def code : Code := bodyOf Tryd.f18
abbrev T0 := Bool → H → Prop
def E0 (g : Env) (x4 : Bool) : Prop := g.v 4 = (.bool x4) ∧ g.ds = []
def D0 (K : T0) (g : Env) (h : H) : Prop := nilDs g.ds (vBool (g.v 4) fun b1 => K b1 h)
theorem D0_ok {K : T0} {g : Env} {h : H} (hq : D0 K g h) : ∃ (x4 : Bool), E0 g x4 ∧ K x4 h := by
  obtain ⟨hd, hq⟩ := nilDs_ok hq
  obtain ⟨y3, e2, q4⟩ := vBool_ok hq
  exact ⟨y3, ⟨e2, hd⟩, q4⟩
def Q0 (Kn : T0) (Kr : T0) : XPost
  | .normal, g, h => D0 Kn g h
  | .ret, g, h => D0 Kr g h
  | _, _, _ => False
abbrev T1 := (List UInt8) → Int → H → Prop
def E1 (g : Env) (x0 : List UInt8) (x1 : Int) : Prop := g.v 0 = (S x0) ∧ g.v 1 = (.int .i64 x1) ∧ g.ds = []
def D1 (K : T1) (g : Env) (h : H) : Prop := nilDs g.ds (vStr (g.v 0) fun s5 => vInt .i64 (g.v 1) fun i6 => K s5 i6 h)
theorem D1_ok {K : T1} {g : Env} {h : H} (hq : D1 K g h) : ∃ (x0 : List UInt8) (x1 : Int), E1 g x0 x1 ∧ K x0 x1 h := by
  obtain ⟨hd, hq⟩ := nilDs_ok hq
  obtain ⟨y8, e7, q9⟩ := vStr_ok hq
  obtain ⟨y11, e10, q12⟩ := vInt_ok q9
  exact ⟨y8, y11, ⟨e7, e10, hd⟩, q12⟩
abbrev n1 (x0 : List UInt8) (x1 : Int) (Kn : T0) (Kr : T0) (h : H) : Prop :=
  Spl (x1 ≥ (0 : Int)) (Spl (x1 ≤ (x0.length : Int)) ((0 ≤ (0 : Int) ∧ (0 : Int) ≤ x1 ∧ x1 ≤ (x0.length : Int)) ∧ (HCalls Tryd.prog 39 ⟨[(S (sub x0 (0 : Int) x1))]⟩ h fun v13 h14 => vBool v13 fun b15 => cond b15 (Kr true h14) (Kr false h14))) (Kr false h)) (Kr false h)
theorem n1_ok (x0 : List UInt8) (x1 : Int) (Kn : T0) (Kr : T0) (g : Env) (hg : E1 g x0 x1) (h : H) (hS : n1 x0 x1 Kn Kr h) : wpC none Tryd.prog 19 code (Q0 Kn Kr) g h := by
  obtain ⟨hg0, hg1, hds⟩ := hg
  refine wpC_of_wpx (by kernel_rfl) (by kernel_rfl) (g' := ((⟨g.v, []⟩ : Env).upd (some 0) (S x0)).upd (some 1) (.int .i64 x1)) (by rw [env_ds hds, upd_self hg0, upd_self hg1]) ?_
  have e : (n1 x0 x1 Kn Kr h) = wpx none Tryd.prog 19 code (Q0 Kn Kr) (((⟨g.v, []⟩ : Env).upd (some 0) (S x0)).upd (some 1) (.int .i64 x1)) h := by kernel_rfl
  exact e ▸ hS
/-- WHAT tympan/tympanref02.Whole ASKS -/
abbrev asks (x0 : List UInt8) (x1 : Int) (K : Value → H → Prop) (h : H) : Prop := n1 x0 x1 (fun y4 h => K (.bool y4) h) (fun y4 h => K (.bool y4) h) h
theorem ok (x0 : List UInt8) (x1 : Int) (K : Value → H → Prop) (h : H) (hS : asks x0 x1 K h) : HCalls Tryd.prog 18 ⟨[(S x0), (.int .i64 x1)]⟩ h K := by
  refine calls_of_wpC (c := code) Tryd.func18 (by kernel_rfl) (Nat.le_of_ble_eq_true (by kernel_rfl)) ?_
  refine (n1_ok x0 x1 (fun y4 h => K (.bool y4) h) (fun y4 h => K (.bool y4) h) (env0 [(S x0), (.int .i64 x1)]) ⟨rfl, rfl, rfl⟩ h hS).mono ?_
  intro e g' h' hq
  cases e with
  | normal =>
    have hq : D0 (fun y4 h => K (.bool y4) h) g' h' := hq
    obtain ⟨y4, ⟨hg4, hd⟩, hq⟩ := D0_ok hq
    show leaveX g'.ds h' _
    rw [hd]
    show K (g'.v 4) h'
    rw [hg4]
    exact hq
  | ret =>
    have hq : D0 (fun y4 h => K (.bool y4) h) g' h' := hq
    obtain ⟨y4, ⟨hg4, hd⟩, hq⟩ := D0_ok hq
    show leaveX g'.ds h' _
    rw [hd]
    show K (g'.v 4) h'
    rw [hg4]
    exact hq
  | _ => exact hq
end Sx.r02_Whole

/-! ### tympan/class.Prev -/
namespace Sx.class_Prev
noncomputable def code : Code := bodyOf Tryd.f19
abbrev T0 := Int → H → Prop
def E0 (g : Env) (x4 : Int) : Prop := g.v 4 = (.int .i32 x4) ∧ g.ds = []
def D0 (K : T0) (g : Env) (h : H) : Prop := nilDs g.ds (vInt .i32 (g.v 4) fun i1 => K i1 h)
theorem D0_ok {K : T0} {g : Env} {h : H} (hq : D0 K g h) : ∃ (x4 : Int), E0 g x4 ∧ K x4 h := by
  obtain ⟨hd, hq⟩ := nilDs_ok hq
  obtain ⟨y3, e2, q4⟩ := vInt_ok hq
  exact ⟨y3, ⟨e2, hd⟩, q4⟩
def Q0 (Kn : T0) (Kr : T0) : XPost
  | .normal, g, h => D0 Kn g h
  | .ret, g, h => D0 Kr g h
  | _, _, _ => False
abbrev T1 := (List UInt8) → Int → H → Prop
def E1 (g : Env) (x0 : List UInt8) (x1 : Int) : Prop := g.v 0 = (S x0) ∧ g.v 1 = (.int .i64 x1) ∧ g.ds = []
def D1 (K : T1) (g : Env) (h : H) : Prop := nilDs g.ds (vStr (g.v 0) fun s5 => vInt .i64 (g.v 1) fun i6 => K s5 i6 h)
theorem D1_ok {K : T1} {g : Env} {h : H} (hq : D1 K g h) : ∃ (x0 : List UInt8) (x1 : Int), E1 g x0 x1 ∧ K x0 x1 h := by
  obtain ⟨hd, hq⟩ := nilDs_ok hq
  obtain ⟨y8, e7, q9⟩ := vStr_ok hq
  obtain ⟨y11, e10, q12⟩ := vInt_ok q9
  exact ⟨y8, y11, ⟨e7, e10, hd⟩, q12⟩
abbrev n1 (x0 : List UInt8) (x1 : Int) (Kn : T0) (Kr : T0) (h : H) : Prop :=
  Spl (x1 ≤ (0 : Int)) (Kr (10 : Int) h) (Spl (x1 > (x0.length : Int)) (Kr (10 : Int) h) ((0 ≤ (0 : Int) ∧ (0 : Int) ≤ x1 ∧ x1 ≤ (x0.length : Int)) ∧ (HCalls Tryd.prog 40 ⟨[(S (sub x0 (0 : Int) x1))]⟩ h fun v13 h14 => vTup v13 fun l15 => uncons l15 fun e16 l17 => vInt .i32 e16 fun i18 => uncons l17 fun e19 l20 => vInt .i64 e19 fun i21 => unnil l20 (Kr i18 h14))))
theorem n1_ok (x0 : List UInt8) (x1 : Int) (Kn : T0) (Kr : T0) (g : Env) (hg : E1 g x0 x1) (h : H) (hS : n1 x0 x1 Kn Kr h) : wpC none Tryd.prog 23 code (Q0 Kn Kr) g h := by
  obtain ⟨hg0, hg1, hds⟩ := hg
  refine wpC_of_wpx (by kernel_rfl) (by kernel_rfl) (g' := ((⟨g.v, []⟩ : Env).upd (some 0) (S x0)).upd (some 1) (.int .i64 x1)) (by rw [env_ds hds, upd_self hg0, upd_self hg1]) ?_
  have e : (n1 x0 x1 Kn Kr h) = wpx none Tryd.prog 23 code (Q0 Kn Kr) (((⟨g.v, []⟩ : Env).upd (some 0) (S x0)).upd (some 1) (.int .i64 x1)) h := by kernel_rfl
  exact e ▸ hS
/-- WHAT tympan/class.Prev ASKS -/
abbrev asks (x0 : List UInt8) (x1 : Int) (K : Value → H → Prop) (h : H) : Prop := n1 x0 x1 (fun y4 h => K (.int .i32 y4) h) (fun y4 h => K (.int .i32 y4) h) h
theorem ok (x0 : List UInt8) (x1 : Int) (K : Value → H → Prop) (h : H) (hS : asks x0 x1 K h) : HCalls Tryd.prog 19 ⟨[(S x0), (.int .i64 x1)]⟩ h K := by
  refine calls_of_wpC (c := code) Tryd.func19 (by kernel_rfl) (Nat.le_of_ble_eq_true (by kernel_rfl)) ?_
  refine (n1_ok x0 x1 (fun y4 h => K (.int .i32 y4) h) (fun y4 h => K (.int .i32 y4) h) (env0 [(S x0), (.int .i64 x1)]) ⟨rfl, rfl, rfl⟩ h hS).mono ?_
  intro e g' h' hq
  cases e with
  | normal =>
    have hq : D0 (fun y4 h => K (.int .i32 y4) h) g' h' := hq
    obtain ⟨y4, ⟨hg4, hd⟩, hq⟩ := D0_ok hq
    show leaveX g'.ds h' _
    rw [hd]
    show K (g'.v 4) h'
    rw [hg4]
    exact hq
  | ret =>
    have hq : D0 (fun y4 h => K (.int .i32 y4) h) g' h' := hq
    obtain ⟨y4, ⟨hg4, hd⟩, hq⟩ := D0_ok hq
    show leaveX g'.ds h' _
    rw [hd]
    show K (g'.v 4) h'
    rw [hg4]
    exact hq
  | _ => exact hq
end Sx.class_Prev

/-! ### tympan/tympanref02.Prev -/
namespace Sx.r02_Prev
noncomputable def code : Code := bodyOf Tryd.f20
abbrev T0 := Int → H → Prop
def E0 (g : Env) (x4 : Int) : Prop := g.v 4 = (.int .i32 x4) ∧ g.ds = []
def D0 (K : T0) (g : Env) (h : H) : Prop := nilDs g.ds (vInt .i32 (g.v 4) fun i1 => K i1 h)
theorem D0_ok {K : T0} {g : Env} {h : H} (hq : D0 K g h) : ∃ (x4 : Int), E0 g x4 ∧ K x4 h := by
  obtain ⟨hd, hq⟩ := nilDs_ok hq
  obtain ⟨y3, e2, q4⟩ := vInt_ok hq
  exact ⟨y3, ⟨e2, hd⟩, q4⟩
def Q0 (Kn : T0) (Kr : T0) : XPost
  | .normal, g, h => D0 Kn g h
  | .ret, g, h => D0 Kr g h
  | _, _, _ => False
abbrev T1 := (List UInt8) → Int → H → Prop
def E1 (g : Env) (x0 : List UInt8) (x1 : Int) : Prop := g.v 0 = (S x0) ∧ g.v 1 = (.int .i64 x1) ∧ g.ds = []
def D1 (K : T1) (g : Env) (h : H) : Prop := nilDs g.ds (vStr (g.v 0) fun s5 => vInt .i64 (g.v 1) fun i6 => K s5 i6 h)
theorem D1_ok {K : T1} {g : Env} {h : H} (hq : D1 K g h) : ∃ (x0 : List UInt8) (x1 : Int), E1 g x0 x1 ∧ K x0 x1 h := by
  obtain ⟨hd, hq⟩ := nilDs_ok hq
  obtain ⟨y8, e7, q9⟩ := vStr_ok hq
  obtain ⟨y11, e10, q12⟩ := vInt_ok q9
  exact ⟨y8, y11, ⟨e7, e10, hd⟩, q12⟩
abbrev n1 (x0 : List UInt8) (x1 : Int) (Kn : T0) (Kr : T0) (h : H) : Prop :=
  Spl (x1 ≤ (0 : Int)) (Kr (10 : Int) h) (Spl (x1 > (x0.length : Int)) (Kr (10 : Int) h) ((0 ≤ (0 : Int) ∧ (0 : Int) ≤ x1 ∧ x1 ≤ (x0.length : Int)) ∧ (SemH Tryd.prog (convert 9 37 (S (sub x0 (0 : Int) x1))) h fun v13 h14 => vSlice v13 fun s15b s15n s15c => Rng .i64 ((s15n : Int) - (1 : Int)) ∧ ((0 ≤ ((s15n : Int) - (1 : Int)) ∧ ((s15n : Int) - (1 : Int)) < (s15n : Int)) ∧ (vSome s15b fun a16 => ∃ i17, cell h14 (a16.add (Int.toNat ((s15n : Int) - (1 : Int)) * 1)) = some (.int .i32 i17) ∧ (Kr i17 h14))))))
theorem n1_ok (x0 : List UInt8) (x1 : Int) (Kn : T0) (Kr : T0) (g : Env) (hg : E1 g x0 x1) (h : H) (hS : n1 x0 x1 Kn Kr h) : wpC none Tryd.prog 24 code (Q0 Kn Kr) g h := by
  obtain ⟨hg0, hg1, hds⟩ := hg
  refine wpC_of_wpx (by kernel_rfl) (by kernel_rfl) (g' := ((⟨g.v, []⟩ : Env).upd (some 0) (S x0)).upd (some 1) (.int .i64 x1)) (by rw [env_ds hds, upd_self hg0, upd_self hg1]) ?_
  have e : (n1 x0 x1 Kn Kr h) = wpx none Tryd.prog 24 code (Q0 Kn Kr) (((⟨g.v, []⟩ : Env).upd (some 0) (S x0)).upd (some 1) (.int .i64 x1)) h := by kernel_rfl
  exact e ▸ hS
/-- WHAT tympan/tympanref02.Prev ASKS -/
abbrev asks (x0 : List UInt8) (x1 : Int) (K : Value → H → Prop) (h : H) : Prop := n1 x0 x1 (fun y4 h => K (.int .i32 y4) h) (fun y4 h => K (.int .i32 y4) h) h
theorem ok (x0 : List UInt8) (x1 : Int) (K : Value → H → Prop) (h : H) (hS : asks x0 x1 K h) : HCalls Tryd.prog 20 ⟨[(S x0), (.int .i64 x1)]⟩ h K := by
  refine calls_of_wpC (c := code) Tryd.func20 (by kernel_rfl) (Nat.le_of_ble_eq_true (by kernel_rfl)) ?_
  refine (n1_ok x0 x1 (fun y4 h => K (.int .i32 y4) h) (fun y4 h => K (.int .i32 y4) h) (env0 [(S x0), (.int .i64 x1)]) ⟨rfl, rfl, rfl⟩ h hS).mono ?_
  intro e g' h' hq
  cases e with
  | normal =>
    have hq : D0 (fun y4 h => K (.int .i32 y4) h) g' h' := hq
    obtain ⟨y4, ⟨hg4, hd⟩, hq⟩ := D0_ok hq
    show leaveX g'.ds h' _
    rw [hd]
    show K (g'.v 4) h'
    rw [hg4]
    exact hq
  | ret =>
    have hq : D0 (fun y4 h => K (.int .i32 y4) h) g' h' := hq
    obtain ⟨y4, ⟨hg4, hd⟩, hq⟩ := D0_ok hq
    show leaveX g'.ds h' _
    rw [hd]
    show K (g'.v 4) h'
    rw [hg4]
    exact hq
  | _ => exact hq
end Sx.r02_Prev

/-! ### tympan/class.Next -/
namespace Sx.class_Next
noncomputable def code : Code := bodyOf Tryd.f21
abbrev T0 := Int → H → Prop
def E0 (g : Env) (x4 : Int) : Prop := g.v 4 = (.int .i32 x4) ∧ g.ds = []
def D0 (K : T0) (g : Env) (h : H) : Prop := nilDs g.ds (vInt .i32 (g.v 4) fun i1 => K i1 h)
theorem D0_ok {K : T0} {g : Env} {h : H} (hq : D0 K g h) : ∃ (x4 : Int), E0 g x4 ∧ K x4 h := by
  obtain ⟨hd, hq⟩ := nilDs_ok hq
  obtain ⟨y3, e2, q4⟩ := vInt_ok hq
  exact ⟨y3, ⟨e2, hd⟩, q4⟩
def Q0 (Kn : T0) (Kr : T0) : XPost
  | .normal, g, h => D0 Kn g h
  | .ret, g, h => D0 Kr g h
  | _, _, _ => False
abbrev T1 := (List UInt8) → Int → H → Prop
def E1 (g : Env) (x0 : List UInt8) (x1 : Int) : Prop := g.v 0 = (S x0) ∧ g.v 1 = (.int .i64 x1) ∧ g.ds = []
def D1 (K : T1) (g : Env) (h : H) : Prop := nilDs g.ds (vStr (g.v 0) fun s5 => vInt .i64 (g.v 1) fun i6 => K s5 i6 h)
theorem D1_ok {K : T1} {g : Env} {h : H} (hq : D1 K g h) : ∃ (x0 : List UInt8) (x1 : Int), E1 g x0 x1 ∧ K x0 x1 h := by
  obtain ⟨hd, hq⟩ := nilDs_ok hq
  obtain ⟨y8, e7, q9⟩ := vStr_ok hq
  obtain ⟨y11, e10, q12⟩ := vInt_ok q9
  exact ⟨y8, y11, ⟨e7, e10, hd⟩, q12⟩
abbrev n1 (x0 : List UInt8) (x1 : Int) (Kn : T0) (Kr : T0) (h : H) : Prop :=
  Spl (x1 < (0 : Int)) (Kr (10 : Int) h) (Spl (x1 ≥ (x0.length : Int)) (Kr (10 : Int) h) ((0 ≤ x1 ∧ x1 ≤ (x0.length : Int) ∧ (x0.length : Int) ≤ (x0.length : Int)) ∧ (HCalls Tryd.prog 41 ⟨[(S (sub x0 x1 (x0.length : Int)))]⟩ h fun v13 h14 => vTup v13 fun l15 => uncons l15 fun e16 l17 => vInt .i32 e16 fun i18 => uncons l17 fun e19 l20 => vInt .i64 e19 fun i21 => unnil l20 (Kr i18 h14))))
theorem n1_ok (x0 : List UInt8) (x1 : Int) (Kn : T0) (Kr : T0) (g : Env) (hg : E1 g x0 x1) (h : H) (hS : n1 x0 x1 Kn Kr h) : wpC none Tryd.prog 23 code (Q0 Kn Kr) g h := by
  obtain ⟨hg0, hg1, hds⟩ := hg
  refine wpC_of_wpx (by kernel_rfl) (by kernel_rfl) (g' := ((⟨g.v, []⟩ : Env).upd (some 0) (S x0)).upd (some 1) (.int .i64 x1)) (by rw [env_ds hds, upd_self hg0, upd_self hg1]) ?_
  have e : (n1 x0 x1 Kn Kr h) = wpx none Tryd.prog 23 code (Q0 Kn Kr) (((⟨g.v, []⟩ : Env).upd (some 0) (S x0)).upd (some 1) (.int .i64 x1)) h := by kernel_rfl
  exact e ▸ hS
/-- WHAT tympan/class.Next ASKS -/
abbrev asks (x0 : List UInt8) (x1 : Int) (K : Value → H → Prop) (h : H) : Prop := n1 x0 x1 (fun y4 h => K (.int .i32 y4) h) (fun y4 h => K (.int .i32 y4) h) h
theorem ok (x0 : List UInt8) (x1 : Int) (K : Value → H → Prop) (h : H) (hS : asks x0 x1 K h) : HCalls Tryd.prog 21 ⟨[(S x0), (.int .i64 x1)]⟩ h K := by
  refine calls_of_wpC (c := code) Tryd.func21 (by kernel_rfl) (Nat.le_of_ble_eq_true (by kernel_rfl)) ?_
  refine (n1_ok x0 x1 (fun y4 h => K (.int .i32 y4) h) (fun y4 h => K (.int .i32 y4) h) (env0 [(S x0), (.int .i64 x1)]) ⟨rfl, rfl, rfl⟩ h hS).mono ?_
  intro e g' h' hq
  cases e with
  | normal =>
    have hq : D0 (fun y4 h => K (.int .i32 y4) h) g' h' := hq
    obtain ⟨y4, ⟨hg4, hd⟩, hq⟩ := D0_ok hq
    show leaveX g'.ds h' _
    rw [hd]
    show K (g'.v 4) h'
    rw [hg4]
    exact hq
  | ret =>
    have hq : D0 (fun y4 h => K (.int .i32 y4) h) g' h' := hq
    obtain ⟨y4, ⟨hg4, hd⟩, hq⟩ := D0_ok hq
    show leaveX g'.ds h' _
    rw [hd]
    show K (g'.v 4) h'
    rw [hg4]
    exact hq
  | _ => exact hq
end Sx.class_Next

/-! ### tympan/tympanref02.Next -/
namespace Sx.r02_Next
noncomputable def code : Code := bodyOf Tryd.f22
abbrev T0 := Int → H → Prop
def E0 (g : Env) (x4 : Int) : Prop := g.v 4 = (.int .i32 x4) ∧ g.ds = []
def D0 (K : T0) (g : Env) (h : H) : Prop := nilDs g.ds (vInt .i32 (g.v 4) fun i1 => K i1 h)
theorem D0_ok {K : T0} {g : Env} {h : H} (hq : D0 K g h) : ∃ (x4 : Int), E0 g x4 ∧ K x4 h := by
  obtain ⟨hd, hq⟩ := nilDs_ok hq
  obtain ⟨y3, e2, q4⟩ := vInt_ok hq
  exact ⟨y3, ⟨e2, hd⟩, q4⟩
def Q0 (Kn : T0) (Kr : T0) : XPost
  | .normal, g, h => D0 Kn g h
  | .ret, g, h => D0 Kr g h
  | _, _, _ => False
abbrev T1 := (List UInt8) → Int → H → Prop
def E1 (g : Env) (x0 : List UInt8) (x1 : Int) : Prop := g.v 0 = (S x0) ∧ g.v 1 = (.int .i64 x1) ∧ g.ds = []
def D1 (K : T1) (g : Env) (h : H) : Prop := nilDs g.ds (vStr (g.v 0) fun s5 => vInt .i64 (g.v 1) fun i6 => K s5 i6 h)
theorem D1_ok {K : T1} {g : Env} {h : H} (hq : D1 K g h) : ∃ (x0 : List UInt8) (x1 : Int), E1 g x0 x1 ∧ K x0 x1 h := by
  obtain ⟨hd, hq⟩ := nilDs_ok hq
  obtain ⟨y8, e7, q9⟩ := vStr_ok hq
  obtain ⟨y11, e10, q12⟩ := vInt_ok q9
  exact ⟨y8, y11, ⟨e7, e10, hd⟩, q12⟩
abbrev n1 (x0 : List UInt8) (x1 : Int) (Kn : T0) (Kr : T0) (h : H) : Prop :=
  Spl (x1 < (0 : Int)) (Kr (10 : Int) h) (Spl (x1 ≥ (x0.length : Int)) (Kr (10 : Int) h) ((0 ≤ x1 ∧ x1 ≤ (x0.length : Int) ∧ (x0.length : Int) ≤ (x0.length : Int)) ∧ (SemH Tryd.prog (convert 9 37 (S (sub x0 x1 (x0.length : Int)))) h fun v13 h14 => vSlice v13 fun s15b s15n s15c => (0 ≤ (0 : Int) ∧ (0 : Int) < (s15n : Int)) ∧ (vSome s15b fun a16 => ∃ i17, cell h14 (a16.add (Int.toNat (0 : Int) * 1)) = some (.int .i32 i17) ∧ (Kr i17 h14)))))
theorem n1_ok (x0 : List UInt8) (x1 : Int) (Kn : T0) (Kr : T0) (g : Env) (hg : E1 g x0 x1) (h : H) (hS : n1 x0 x1 Kn Kr h) : wpC none Tryd.prog 21 code (Q0 Kn Kr) g h := by
  obtain ⟨hg0, hg1, hds⟩ := hg
  refine wpC_of_wpx (by kernel_rfl) (by kernel_rfl) (g' := ((⟨g.v, []⟩ : Env).upd (some 0) (S x0)).upd (some 1) (.int .i64 x1)) (by rw [env_ds hds, upd_self hg0, upd_self hg1]) ?_
  have e : (n1 x0 x1 Kn Kr h) = wpx none Tryd.prog 21 code (Q0 Kn Kr) (((⟨g.v, []⟩ : Env).upd (some 0) (S x0)).upd (some 1) (.int .i64 x1)) h := by kernel_rfl
  exact e ▸ hS
/-- WHAT tympan/tympanref02.Next ASKS -/
abbrev asks (x0 : List UInt8) (x1 : Int) (K : Value → H → Prop) (h : H) : Prop := n1 x0 x1 (fun y4 h => K (.int .i32 y4) h) (fun y4 h => K (.int .i32 y4) h) h
theorem ok (x0 : List UInt8) (x1 : Int) (K : Value → H → Prop) (h : H) (hS : asks x0 x1 K h) : HCalls Tryd.prog 22 ⟨[(S x0), (.int .i64 x1)]⟩ h K := by
  refine calls_of_wpC (c := code) Tryd.func22 (by kernel_rfl) (Nat.le_of_ble_eq_true (by kernel_rfl)) ?_
  refine (n1_ok x0 x1 (fun y4 h => K (.int .i32 y4) h) (fun y4 h => K (.int .i32 y4) h) (env0 [(S x0), (.int .i64 x1)]) ⟨rfl, rfl, rfl⟩ h hS).mono ?_
  intro e g' h' hq
  cases e with
  | normal =>
    have hq : D0 (fun y4 h => K (.int .i32 y4) h) g' h' := hq
    obtain ⟨y4, ⟨hg4, hd⟩, hq⟩ := D0_ok hq
    show leaveX g'.ds h' _
    rw [hd]
    show K (g'.v 4) h'
    rw [hg4]
    exact hq
  | ret =>
    have hq : D0 (fun y4 h => K (.int .i32 y4) h) g' h' := hq
    obtain ⟨y4, ⟨hg4, hd⟩, hq⟩ := D0_ok hq
    show leaveX g'.ds h' _
    rw [hd]
    show K (g'.v 4) h'
    rw [hg4]
    exact hq
  | _ => exact hq
end Sx.r02_Next

/-! ### tympan/tympanref01.plain -/
namespace Sx.r01_plain
noncomputable def code : Code := bodyOf Tryd.f32
abbrev T0 := (List UInt8) → H → Prop
def E0 (g : Env) (x2 : List UInt8) : Prop := g.v 2 = (S x2) ∧ g.ds = []
def D0 (K : T0) (g : Env) (h : H) : Prop := nilDs g.ds (vStr (g.v 2) fun s1 => K s1 h)
theorem D0_ok {K : T0} {g : Env} {h : H} (hq : D0 K g h) : ∃ (x2 : List UInt8), E0 g x2 ∧ K x2 h := by
  obtain ⟨hd, hq⟩ := nilDs_ok hq
  obtain ⟨y3, e2, q4⟩ := vStr_ok hq
  exact ⟨y3, ⟨e2, hd⟩, q4⟩
def Q0 (Kn : T0) (Kr : T0) : XPost
  | .normal, g, h => D0 Kn g h
  | .ret, g, h => D0 Kr g h
  | _, _, _ => False
abbrev T1 := (Option Addr) → Nat → Nat → H → Prop
def E1 (g : Env) (x0b : Option Addr) (x0n : Nat) (x0c : Nat) : Prop := g.v 0 = (.slice x0b x0n x0c) ∧ g.ds = []
def D1 (K : T1) (g : Env) (h : H) : Prop := nilDs g.ds (vSlice (g.v 0) fun s5b s5n s5c => K s5b s5n s5c h)
theorem D1_ok {K : T1} {g : Env} {h : H} (hq : D1 K g h) : ∃ (x0b : Option Addr) (x0n : Nat) (x0c : Nat), E1 g x0b x0n x0c ∧ K x0b x0n x0c h := by
  obtain ⟨hd, hq⟩ := nilDs_ok hq
  obtain ⟨y7b, y7n, y7c, e6, q8⟩ := vSlice_ok hq
  exact ⟨y7b, y7n, y7c, ⟨e6, hd⟩, q8⟩
noncomputable def n1_c1 : Code := cFst code
noncomputable def n1_c2 : Code := cSnd code
noncomputable def n2_c1 : Code := cFst n1_c2
noncomputable def n2_c2 : Code := cSnd n1_c2
abbrev T2 := (Option Addr) → Nat → Nat → (Option Addr) → Nat → Nat → H → Prop
def E2 (g : Env) (x0b : Option Addr) (x0n : Nat) (x0c : Nat) (x3b : Option Addr) (x3n : Nat) (x3c : Nat) : Prop := g.v 0 = (.slice x0b x0n x0c) ∧ g.v 3 = (.slice x3b x3n x3c) ∧ g.ds = []
def D2 (K : T2) (g : Env) (h : H) : Prop := nilDs g.ds (vSlice (g.v 0) fun s9b s9n s9c => vSlice (g.v 3) fun s10b s10n s10c => K s9b s9n s9c s10b s10n s10c h)
theorem D2_ok {K : T2} {g : Env} {h : H} (hq : D2 K g h) : ∃ (x0b : Option Addr) (x0n : Nat) (x0c : Nat) (x3b : Option Addr) (x3n : Nat) (x3c : Nat), E2 g x0b x0n x0c x3b x3n x3c ∧ K x0b x0n x0c x3b x3n x3c h := by
  obtain ⟨hd, hq⟩ := nilDs_ok hq
  obtain ⟨y12b, y12n, y12c, e11, q13⟩ := vSlice_ok hq
  obtain ⟨y15b, y15n, y15c, e14, q16⟩ := vSlice_ok q13
  exact ⟨y12b, y12n, y12c, y15b, y15n, y15c, ⟨e11, e14, hd⟩, q16⟩
noncomputable def n3_c1 : Code := cFst n2_c2
noncomputable def n3_c2 : Code := cSnd n2_c2
abbrev T3 := (Option Addr) → Nat → Nat → H → Prop
def E3 (g : Env) (x3b : Option Addr) (x3n : Nat) (x3c : Nat) : Prop := g.v 3 = (.slice x3b x3n x3c) ∧ g.ds = []
def D3 (K : T3) (g : Env) (h : H) : Prop := nilDs g.ds (vSlice (g.v 3) fun s17b s17n s17c => K s17b s17n s17c h)
theorem D3_ok {K : T3} {g : Env} {h : H} (hq : D3 K g h) : ∃ (x3b : Option Addr) (x3n : Nat) (x3c : Nat), E3 g x3b x3n x3c ∧ K x3b x3n x3c h := by
  obtain ⟨hd, hq⟩ := nilDs_ok hq
  obtain ⟨y19b, y19n, y19c, e18, q20⟩ := vSlice_ok hq
  exact ⟨y19b, y19n, y19c, ⟨e18, hd⟩, q20⟩
abbrev n4 (x3b : Option Addr) (x3n : Nat) (x3c : Nat) (Kn : T0) (Kr : T0) (h : H) : Prop :=
  SemH Tryd.prog (convert 24 9 (.slice x3b x3n x3c)) h fun v21 h22 => vStr v21 fun s23 => Kr s23 h22
theorem n4_ok (x3b : Option Addr) (x3n : Nat) (x3c : Nat) (Kn : T0) (Kr : T0) (g : Env) (hg : E3 g x3b x3n x3c) (h : H) (hS : n4 x3b x3n x3c Kn Kr h) : wpC none Tryd.prog 34 n3_c2 (Q0 Kn Kr) g h := by
  obtain ⟨hg3, hds⟩ := hg
  refine wpC_of_wpx (by kernel_rfl) (by kernel_rfl) (g' := (⟨g.v, []⟩ : Env).upd (some 3) (.slice x3b x3n x3c)) (by rw [env_ds hds, upd_self hg3]) ?_
  have e : (n4 x3b x3n x3c Kn Kr h) = wpx none Tryd.prog 34 n3_c2 (Q0 Kn Kr) ((⟨g.v, []⟩ : Env).upd (some 3) (.slice x3b x3n x3c)) h := by kernel_rfl
  exact e ▸ hS
def Q1 (Kn : T3) (Kr : T0) : XPost
  | .normal, g, h => D3 Kn g h
  | .ret, g, h => D0 Kr g h
  | _, _, _ => False
noncomputable def n5_c1 : Code := cFst n3_c1
def Q2 (Kn : T3) (Ke0 : T3) (Kr : T0) : XPost
  | .normal, g, h => D3 Kn g h
  | .ret, g, h => D0 Kr g h
  | .exit id, g, h => cond (Nat.beq id 0) (D3 Ke0 g h) (False)
  | _, _, _ => False
noncomputable def n6_c1 : Code := cFst n5_c1
def Q3 (Kn : T2) (Ke0 : T3) (Kr : T0) : XPost
  | .normal, g, h => D2 Kn g h
  | .ret, g, h => D0 Kr g h
  | .exit id, g, h => cond (Nat.beq id 0) (D3 Ke0 g h) (False)
  | _, _, _ => False
noncomputable def n7_c1 : Code := cFst n6_c1
noncomputable def n7_c2 : Code := cSnd n6_c1
noncomputable def n8_c1 : Code := cFst n7_c2
def Q4 (Kn : T2) (Ke1 : T2) (Ke0 : T3) (Kr : T0) : XPost
  | .normal, g, h => D2 Kn g h
  | .ret, g, h => D0 Kr g h
  | .exit id, g, h => cond (Nat.beq id 1) (D2 Ke1 g h) (cond (Nat.beq id 0) (D3 Ke0 g h) (False))
  | _, _, _ => False
noncomputable def n9_c1 : Code := cFst n8_c1
noncomputable def n9_c2 : Code := cSnd n8_c1
abbrev T4 := (Option Addr) → Nat → Nat → (Option Addr) → Nat → Nat → Int → Bool → H → Prop
def E4 (g : Env) (x0b : Option Addr) (x0n : Nat) (x0c : Nat) (x3b : Option Addr) (x3n : Nat) (x3c : Nat) (x4 : Int) (x5 : Bool) : Prop := g.v 0 = (.slice x0b x0n x0c) ∧ g.v 3 = (.slice x3b x3n x3c) ∧ g.v 4 = (.int .i64 x4) ∧ g.v 5 = (.bool x5) ∧ g.ds = []
def D4 (K : T4) (g : Env) (h : H) : Prop := nilDs g.ds (vSlice (g.v 0) fun s24b s24n s24c => vSlice (g.v 3) fun s25b s25n s25c => vInt .i64 (g.v 4) fun i26 => vBool (g.v 5) fun b27 => K s24b s24n s24c s25b s25n s25c i26 b27 h)
theorem D4_ok {K : T4} {g : Env} {h : H} (hq : D4 K g h) : ∃ (x0b : Option Addr) (x0n : Nat) (x0c : Nat) (x3b : Option Addr) (x3n : Nat) (x3c : Nat) (x4 : Int) (x5 : Bool), E4 g x0b x0n x0c x3b x3n x3c x4 x5 ∧ K x0b x0n x0c x3b x3n x3c x4 x5 h := by
  obtain ⟨hd, hq⟩ := nilDs_ok hq
  obtain ⟨y29b, y29n, y29c, e28, q30⟩ := vSlice_ok hq
  obtain ⟨y32b, y32n, y32c, e31, q33⟩ := vSlice_ok q30
  obtain ⟨y35, e34, q36⟩ := vInt_ok q33
  obtain ⟨y38, e37, q39⟩ := vBool_ok q36
  exact ⟨y29b, y29n, y29c, y32b, y32n, y32c, y35, y38, ⟨e28, e31, e34, e37, hd⟩, q39⟩
noncomputable def n10_c1 : Code := cFst n9_c2
noncomputable def n10_c2 : Code := cSnd n9_c2
abbrev T5 := (Option Addr) → Nat → Nat → (Option Addr) → Nat → Nat → Int → H → Prop
def E5 (g : Env) (x0b : Option Addr) (x0n : Nat) (x0c : Nat) (x3b : Option Addr) (x3n : Nat) (x3c : Nat) (x4 : Int) : Prop := g.v 0 = (.slice x0b x0n x0c) ∧ g.v 3 = (.slice x3b x3n x3c) ∧ g.v 4 = (.int .i64 x4) ∧ g.ds = []
def D5 (K : T5) (g : Env) (h : H) : Prop := nilDs g.ds (vSlice (g.v 0) fun s40b s40n s40c => vSlice (g.v 3) fun s41b s41n s41c => vInt .i64 (g.v 4) fun i42 => K s40b s40n s40c s41b s41n s41c i42 h)
theorem D5_ok {K : T5} {g : Env} {h : H} (hq : D5 K g h) : ∃ (x0b : Option Addr) (x0n : Nat) (x0c : Nat) (x3b : Option Addr) (x3n : Nat) (x3c : Nat) (x4 : Int), E5 g x0b x0n x0c x3b x3n x3c x4 ∧ K x0b x0n x0c x3b x3n x3c x4 h := by
  obtain ⟨hd, hq⟩ := nilDs_ok hq
  obtain ⟨y44b, y44n, y44c, e43, q45⟩ := vSlice_ok hq
  obtain ⟨y47b, y47n, y47c, e46, q48⟩ := vSlice_ok q45
  obtain ⟨y50, e49, q51⟩ := vInt_ok q48
  exact ⟨y44b, y44n, y44c, y47b, y47n, y47c, y50, ⟨e43, e46, e49, hd⟩, q51⟩
abbrev n11 (x0b : Option Addr) (x0n : Nat) (x0c : Nat) (x3b : Option Addr) (x3n : Nat) (x3c : Nat) (x4 : Int) (Kn : T2) (Ke1 : T2) (Ke0 : T3) (Kr : T0) (h : H) : Prop :=
  (0 ≤ x4 ∧ x4 ≤ (x0n : Int) ∧ (x0n : Int) ≤ (x0c : Int)) ∧ (Kn (if x0c = Int.toNat x4 then x0b else Option.map (fun q => q.add (Int.toNat x4 * 1)) x0b) (Int.toNat (x0n : Int) - Int.toNat x4) (x0c - Int.toNat x4) x3b x3n x3c h)
theorem n11_ok (x0b : Option Addr) (x0n : Nat) (x0c : Nat) (x3b : Option Addr) (x3n : Nat) (x3c : Nat) (x4 : Int) (Kn : T2) (Ke1 : T2) (Ke0 : T3) (Kr : T0) (g : Env) (hg : E5 g x0b x0n x0c x3b x3n x3c x4) (h : H) (hS : n11 x0b x0n x0c x3b x3n x3c x4 Kn Ke1 Ke0 Kr h) : wpC none Tryd.prog 34 n10_c2 (Q4 Kn Ke1 Ke0 Kr) g h := by
  obtain ⟨hg0, hg3, hg4, hds⟩ := hg
  refine wpC_of_wpx (by kernel_rfl) (by kernel_rfl) (g' := (((⟨g.v, []⟩ : Env).upd (some 0) (.slice x0b x0n x0c)).upd (some 3) (.slice x3b x3n x3c)).upd (some 4) (.int .i64 x4)) (by rw [env_ds hds, upd_self hg0, upd_self hg3, upd_self hg4]) ?_
  have e : (n11 x0b x0n x0c x3b x3n x3c x4 Kn Ke1 Ke0 Kr h) = wpx none Tryd.prog 34 n10_c2 (Q4 Kn Ke1 Ke0 Kr) ((((⟨g.v, []⟩ : Env).upd (some 0) (.slice x0b x0n x0c)).upd (some 3) (.slice x3b x3n x3c)).upd (some 4) (.int .i64 x4)) h := by kernel_rfl
  exact e ▸ hS
def Q5 (Kn : T5) (Ke1 : T2) (Ke0 : T3) (Kr : T0) : XPost
  | .normal, g, h => D5 Kn g h
  | .ret, g, h => D0 Kr g h
  | .exit id, g, h => cond (Nat.beq id 1) (D2 Ke1 g h) (cond (Nat.beq id 0) (D3 Ke0 g h) (False))
  | _, _, _ => False
abbrev n10 (x0b : Option Addr) (x0n : Nat) (x0c : Nat) (x3b : Option Addr) (x3n : Nat) (x3c : Nat) (x4 : Int) (x5 : Bool) (Kn : T2) (Ke1 : T2) (Ke0 : T3) (Kr : T0) (h : H) : Prop :=
  cond x5 ((0 ≤ (0 : Int) ∧ (0 : Int) < (x0n : Int)) ∧ (vSome x0b fun a52 => ∃ i53, cell h (a52.add (Int.toNat (0 : Int) * 1)) = some (.int .u8 i53) ∧ (Spl (i53 = (0 : Int)) (newx h #[(.int .u8 (239 : Int)), (.int .u8 (191 : Int)), (.int .u8 (189 : Int))] 5 fun a54 h55 => SemH Tryd.prog (Builtin.append_ #[24, 24] 24 ⟨[(.slice x3b x3n x3c), (.slice (some a54) 3 3)]⟩) h55 fun v56 h57 => vSlice v56 fun s58b s58n s58c => n11 x0b x0n x0c s58b s58n s58c x4 Kn Ke1 Ke0 Kr h57) ((0 ≤ (0 : Int) ∧ (0 : Int) ≤ x4 ∧ x4 ≤ (x0c : Int)) ∧ (SemH Tryd.prog (Builtin.append_ #[24, 24] 24 ⟨[(.slice x3b x3n x3c), (.slice (if x0c = Int.toNat (0 : Int) then x0b else Option.map (fun q => q.add (Int.toNat (0 : Int) * 1)) x0b) (Int.toNat x4 - Int.toNat (0 : Int)) (x0c - Int.toNat (0 : Int)))]⟩) h fun v59 h60 => vSlice v59 fun s61b s61n s61c => n11 x0b x0n x0c s61b s61n s61c x4 Kn Ke1 Ke0 Kr h60))))) (newx h #[(.int .u8 (239 : Int)), (.int .u8 (191 : Int)), (.int .u8 (189 : Int))] 5 fun a62 h63 => SemH Tryd.prog (Builtin.append_ #[24, 24] 24 ⟨[(.slice x3b x3n x3c), (.slice (some a62) 3 3)]⟩) h63 fun v64 h65 => vSlice v64 fun s66b s66n s66c => n11 x0b x0n x0c s66b s66n s66c x4 Kn Ke1 Ke0 Kr h65)
theorem n10_ok (x0b : Option Addr) (x0n : Nat) (x0c : Nat) (x3b : Option Addr) (x3n : Nat) (x3c : Nat) (x4 : Int) (x5 : Bool) (Kn : T2) (Ke1 : T2) (Ke0 : T3) (Kr : T0) (g : Env) (hg : E4 g x0b x0n x0c x3b x3n x3c x4 x5) (h : H) (hS : n10 x0b x0n x0c x3b x3n x3c x4 x5 Kn Ke1 Ke0 Kr h) : wpC none Tryd.prog 34 n9_c2 (Q4 Kn Ke1 Ke0 Kr) g h := by
  obtain ⟨hg0, hg3, hg4, hg5, hds⟩ := hg
  refine wpC_seq' (x := n10_c1) (y := n10_c2) (Q' := (Q5 (fun z0b z0n z0c z3b z3n z3c z4 h => n11 z0b z0n z0c z3b z3n z3c z4 Kn Ke1 Ke0 Kr h) Ke1 Ke0 Kr)) (by kernel_rfl) ?_ ?_
  · refine wpC_of_wpx (by kernel_rfl) (by kernel_rfl) (g' := ((((⟨g.v, []⟩ : Env).upd (some 0) (.slice x0b x0n x0c)).upd (some 3) (.slice x3b x3n x3c)).upd (some 4) (.int .i64 x4)).upd (some 5) (.bool x5)) (by rw [env_ds hds, upd_self hg0, upd_self hg3, upd_self hg4, upd_self hg5]) ?_
    have e : (n10 x0b x0n x0c x3b x3n x3c x4 x5 Kn Ke1 Ke0 Kr h) = wpx none Tryd.prog 34 n10_c1 (Q5 (fun z0b z0n z0c z3b z3n z3c z4 h => n11 z0b z0n z0c z3b z3n z3c z4 Kn Ke1 Ke0 Kr h) Ke1 Ke0 Kr) (((((⟨g.v, []⟩ : Env).upd (some 0) (.slice x0b x0n x0c)).upd (some 3) (.slice x3b x3n x3c)).upd (some 4) (.int .i64 x4)).upd (some 5) (.bool x5)) h := by kernel_rfl
    exact e ▸ hS
  · intro e g' h' hq
    cases e with
    | normal =>
      have hq : D5 (fun z0b z0n z0c z3b z3n z3c z4 h => n11 z0b z0n z0c z3b z3n z3c z4 Kn Ke1 Ke0 Kr h) g' h' := hq
      obtain ⟨y0b, y0n, y0c, y3b, y3n, y3c, y4, hg', hq⟩ := D5_ok hq
      exact n11_ok y0b y0n y0c y3b y3n y3c y4 Kn Ke1 Ke0 Kr g' hg' h' hq
    | _ => exact hq
def Q6 (Kn : T4) (Ke1 : T2) (Ke0 : T3) (Kr : T0) : XPost
  | .normal, g, h => D4 Kn g h
  | .ret, g, h => D0 Kr g h
  | .exit id, g, h => cond (Nat.beq id 1) (D2 Ke1 g h) (cond (Nat.beq id 0) (D3 Ke0 g h) (False))
  | _, _, _ => False
abbrev n9 (x0b : Option Addr) (x0n : Nat) (x0c : Nat) (x3b : Option Addr) (x3n : Nat) (x3c : Nat) (Kn : T2) (Ke1 : T2) (Ke0 : T3) (Kr : T0) (h : H) : Prop :=
  HCalls Tryd.prog 43 ⟨[(.slice x0b x0n x0c)]⟩ h fun v67 h68 => vTup v67 fun l69 => uncons l69 fun e70 l71 => vInt .i64 e70 fun i72 => uncons l71 fun e73 l74 => vBool e73 fun b75 => unnil l74 (cond b75 (n10 x0b x0n x0c x3b x3n x3c i72 true Kn Ke1 Ke0 Kr h68) (n10 x0b x0n x0c x3b x3n x3c i72 false Kn Ke1 Ke0 Kr h68))
theorem n9_ok (x0b : Option Addr) (x0n : Nat) (x0c : Nat) (x3b : Option Addr) (x3n : Nat) (x3c : Nat) (Kn : T2) (Ke1 : T2) (Ke0 : T3) (Kr : T0) (g : Env) (hg : E2 g x0b x0n x0c x3b x3n x3c) (h : H) (hS : n9 x0b x0n x0c x3b x3n x3c Kn Ke1 Ke0 Kr h) : wpC none Tryd.prog 34 n8_c1 (Q4 Kn Ke1 Ke0 Kr) g h := by
  obtain ⟨hg0, hg3, hds⟩ := hg
  refine wpC_seq' (x := n9_c1) (y := n9_c2) (Q' := (Q6 (fun z0b z0n z0c z3b z3n z3c z4 z5 h => n10 z0b z0n z0c z3b z3n z3c z4 z5 Kn Ke1 Ke0 Kr h) Ke1 Ke0 Kr)) (by kernel_rfl) ?_ ?_
  · refine wpC_of_wpx (by kernel_rfl) (by kernel_rfl) (g' := ((⟨g.v, []⟩ : Env).upd (some 0) (.slice x0b x0n x0c)).upd (some 3) (.slice x3b x3n x3c)) (by rw [env_ds hds, upd_self hg0, upd_self hg3]) ?_
    have e : (n9 x0b x0n x0c x3b x3n x3c Kn Ke1 Ke0 Kr h) = wpx none Tryd.prog 34 n9_c1 (Q6 (fun z0b z0n z0c z3b z3n z3c z4 z5 h => n10 z0b z0n z0c z3b z3n z3c z4 z5 Kn Ke1 Ke0 Kr h) Ke1 Ke0 Kr) (((⟨g.v, []⟩ : Env).upd (some 0) (.slice x0b x0n x0c)).upd (some 3) (.slice x3b x3n x3c)) h := by kernel_rfl
    exact e ▸ hS
  · intro e g' h' hq
    cases e with
    | normal =>
      have hq : D4 (fun z0b z0n z0c z3b z3n z3c z4 z5 h => n10 z0b z0n z0c z3b z3n z3c z4 z5 Kn Ke1 Ke0 Kr h) g' h' := hq
      obtain ⟨y0b, y0n, y0c, y3b, y3n, y3c, y4, y5, hg', hq⟩ := D4_ok hq
      exact n10_ok y0b y0n y0c y3b y3n y3c y4 y5 Kn Ke1 Ke0 Kr g' hg' h' hq
    | _ => exact hq
abbrev n8 (x0b : Option Addr) (x0n : Nat) (x0c : Nat) (x3b : Option Addr) (x3n : Nat) (x3c : Nat) (Kn : T2) (Ke0 : T3) (Kr : T0) (h : H) : Prop := n9 x0b x0n x0c x3b x3n x3c Kn Kn Ke0 Kr h
theorem n8_ok (x0b : Option Addr) (x0n : Nat) (x0c : Nat) (x3b : Option Addr) (x3n : Nat) (x3c : Nat) (Kn : T2) (Ke0 : T3) (Kr : T0) (g : Env) (hg : E2 g x0b x0n x0c x3b x3n x3c) (h : H) (hS : n8 x0b x0n x0c x3b x3n x3c Kn Ke0 Kr h) : wpC none Tryd.prog 34 n7_c2 (Q3 Kn Ke0 Kr) g h := by
  refine wpC_block' (id := 1) (x := n8_c1) (by kernel_rfl) (n9_ok x0b x0n x0c x3b x3n x3c Kn Kn Ke0 Kr g hg h hS) ?_
  intro e g' h' hq
  cases e <;> exact hq
abbrev n7 (x0b : Option Addr) (x0n : Nat) (x0c : Nat) (x3b : Option Addr) (x3n : Nat) (x3c : Nat) (Kn : T2) (Ke0 : T3) (Kr : T0) (h : H) : Prop :=
  Spl ((x0n : Int) > (0 : Int)) (n8 x0b x0n x0c x3b x3n x3c Kn Ke0 Kr h) (Ke0 x3b x3n x3c h)
theorem n7_ok (x0b : Option Addr) (x0n : Nat) (x0c : Nat) (x3b : Option Addr) (x3n : Nat) (x3c : Nat) (Kn : T2) (Ke0 : T3) (Kr : T0) (g : Env) (hg : E2 g x0b x0n x0c x3b x3n x3c) (h : H) (hS : n7 x0b x0n x0c x3b x3n x3c Kn Ke0 Kr h) : wpC none Tryd.prog 34 n6_c1 (Q3 Kn Ke0 Kr) g h := by
  obtain ⟨hg0, hg3, hds⟩ := hg
  refine wpC_seq' (x := n7_c1) (y := n7_c2) (Q' := (Q3 (fun z0b z0n z0c z3b z3n z3c h => n8 z0b z0n z0c z3b z3n z3c Kn Ke0 Kr h) Ke0 Kr)) (by kernel_rfl) ?_ ?_
  · refine wpC_of_wpx (by kernel_rfl) (by kernel_rfl) (g' := ((⟨g.v, []⟩ : Env).upd (some 0) (.slice x0b x0n x0c)).upd (some 3) (.slice x3b x3n x3c)) (by rw [env_ds hds, upd_self hg0, upd_self hg3]) ?_
    have e : (n7 x0b x0n x0c x3b x3n x3c Kn Ke0 Kr h) = wpx none Tryd.prog 34 n7_c1 (Q3 (fun z0b z0n z0c z3b z3n z3c h => n8 z0b z0n z0c z3b z3n z3c Kn Ke0 Kr h) Ke0 Kr) (((⟨g.v, []⟩ : Env).upd (some 0) (.slice x0b x0n x0c)).upd (some 3) (.slice x3b x3n x3c)) h := by kernel_rfl
    exact e ▸ hS
  · intro e g' h' hq
    cases e with
    | normal =>
      have hq : D2 (fun z0b z0n z0c z3b z3n z3c h => n8 z0b z0n z0c z3b z3n z3c Kn Ke0 Kr h) g' h' := hq
      obtain ⟨y0b, y0n, y0c, y3b, y3n, y3c, hg', hq⟩ := D2_ok hq
      exact n8_ok y0b y0n y0c y3b y3n y3c Kn Ke0 Kr g' hg' h' hq
    | _ => exact hq
def n6_L (Kn : T3) (Ke0 : T3) (Kr : T0) : Nat → (Option Addr) → Nat → Nat → (Option Addr) → Nat → Nat → H → Prop
  | 0 => fun _ _ _ _ _ _ _ => False
  | N + 1 => fun x0b x0n x0c x3b x3n x3c h => n7 x0b x0n x0c x3b x3n x3c (fun z0b z0n z0c z3b z3n z3c h => n6_L Kn Ke0 Kr N z0b z0n z0c z3b z3n z3c h) Ke0 Kr h
abbrev n6 (x0b : Option Addr) (x0n : Nat) (x0c : Nat) (x3b : Option Addr) (x3n : Nat) (x3c : Nat) (Kn : T3) (Ke0 : T3) (Kr : T0) (h : H) : Prop := ∃ N, n6_L Kn Ke0 Kr N x0b x0n x0c x3b x3n x3c h
theorem n6_ok (x0b : Option Addr) (x0n : Nat) (x0c : Nat) (x3b : Option Addr) (x3n : Nat) (x3c : Nat) (Kn : T3) (Ke0 : T3) (Kr : T0) (g : Env) (hg : E2 g x0b x0n x0c x3b x3n x3c) (h : H) (hS : n6 x0b x0n x0c x3b x3n x3c Kn Ke0 Kr h) : wpC none Tryd.prog 34 n5_c1 (Q2 Kn Ke0 Kr) g h := by
  obtain ⟨N0, hS⟩ := hS
  refine wpC_loop' (x := n6_c1) (by kernel_rfl) (fun k g h => ∃ (x0b : Option Addr) (x0n : Nat) (x0c : Nat) (x3b : Option Addr) (x3n : Nat) (x3c : Nat), E2 g x0b x0n x0c x3b x3n x3c ∧ n6_L Kn Ke0 Kr k x0b x0n x0c x3b x3n x3c h) (fun g h hr => ?_) (fun N g h hr => ?_) N0 ⟨x0b, x0n, x0c, x3b, x3n, x3c, hg, hS⟩
  · obtain ⟨x0b, x0n, x0c, x3b, x3n, x3c, hg, hS⟩ := hr
    exact hS.elim
  · obtain ⟨x0b, x0n, x0c, x3b, x3n, x3c, hg, hS⟩ := hr
    refine (n7_ok x0b x0n x0c x3b x3n x3c (fun z0b z0n z0c z3b z3n z3c h => n6_L Kn Ke0 Kr N z0b z0n z0c z3b z3n z3c h) Ke0 Kr g hg h hS).mono ?_
    intro e g' h' hq
    cases e with
    | normal => exact D2_ok (K := (fun z0b z0n z0c z3b z3n z3c h => n6_L Kn Ke0 Kr N z0b z0n z0c z3b z3n z3c h)) hq
    | _ => exact hq
abbrev n5 (x0b : Option Addr) (x0n : Nat) (x0c : Nat) (x3b : Option Addr) (x3n : Nat) (x3c : Nat) (Kn : T3) (Kr : T0) (h : H) : Prop := n6 x0b x0n x0c x3b x3n x3c Kn Kn Kr h
theorem n5_ok (x0b : Option Addr) (x0n : Nat) (x0c : Nat) (x3b : Option Addr) (x3n : Nat) (x3c : Nat) (Kn : T3) (Kr : T0) (g : Env) (hg : E2 g x0b x0n x0c x3b x3n x3c) (h : H) (hS : n5 x0b x0n x0c x3b x3n x3c Kn Kr h) : wpC none Tryd.prog 34 n3_c1 (Q1 Kn Kr) g h := by
  refine wpC_block' (id := 0) (x := n5_c1) (by kernel_rfl) (n6_ok x0b x0n x0c x3b x3n x3c Kn Kn Kr g hg h hS) ?_
  intro e g' h' hq
  cases e <;> exact hq
abbrev n3 (x0b : Option Addr) (x0n : Nat) (x0c : Nat) (x3b : Option Addr) (x3n : Nat) (x3c : Nat) (Kn : T0) (Kr : T0) (h : H) : Prop := n5 x0b x0n x0c x3b x3n x3c (fun z3b z3n z3c h => n4 z3b z3n z3c Kn Kr h) Kr h
theorem n3_ok (x0b : Option Addr) (x0n : Nat) (x0c : Nat) (x3b : Option Addr) (x3n : Nat) (x3c : Nat) (Kn : T0) (Kr : T0) (g : Env) (hg : E2 g x0b x0n x0c x3b x3n x3c) (h : H) (hS : n3 x0b x0n x0c x3b x3n x3c Kn Kr h) : wpC none Tryd.prog 34 n2_c2 (Q0 Kn Kr) g h := by
  refine wpC_seq' (x := n3_c1) (y := n3_c2) (by kernel_rfl) (n5_ok x0b x0n x0c x3b x3n x3c (fun z3b z3n z3c h => n4 z3b z3n z3c Kn Kr h) Kr g hg h hS) ?_
  intro e g' h' hq
  cases e with
  | normal =>
    have hq : D3 (fun z3b z3n z3c h => n4 z3b z3n z3c Kn Kr h) g' h' := hq
    obtain ⟨y3b, y3n, y3c, hg', hq⟩ := D3_ok hq
    exact n4_ok y3b y3n y3c Kn Kr g' hg' h' hq
  | _ => exact hq
def Q7 (Kn : T2) (Kr : T0) : XPost
  | .normal, g, h => D2 Kn g h
  | .ret, g, h => D0 Kr g h
  | _, _, _ => False
abbrev n2 (x0b : Option Addr) (x0n : Nat) (x0c : Nat) (Kn : T0) (Kr : T0) (h : H) : Prop :=
  n3 x0b x0n x0c none 0 0 Kn Kr h
theorem n2_ok (x0b : Option Addr) (x0n : Nat) (x0c : Nat) (Kn : T0) (Kr : T0) (g : Env) (hg : E1 g x0b x0n x0c) (h : H) (hS : n2 x0b x0n x0c Kn Kr h) : wpC none Tryd.prog 34 n1_c2 (Q0 Kn Kr) g h := by
  obtain ⟨hg0, hds⟩ := hg
  refine wpC_seq' (x := n2_c1) (y := n2_c2) (Q' := (Q7 (fun z0b z0n z0c z3b z3n z3c h => n3 z0b z0n z0c z3b z3n z3c Kn Kr h) Kr)) (by kernel_rfl) ?_ ?_
  · refine wpC_of_wpx (by kernel_rfl) (by kernel_rfl) (g' := (⟨g.v, []⟩ : Env).upd (some 0) (.slice x0b x0n x0c)) (by rw [env_ds hds, upd_self hg0]) ?_
    have e : (n2 x0b x0n x0c Kn Kr h) = wpx none Tryd.prog 34 n2_c1 (Q7 (fun z0b z0n z0c z3b z3n z3c h => n3 z0b z0n z0c z3b z3n z3c Kn Kr h) Kr) ((⟨g.v, []⟩ : Env).upd (some 0) (.slice x0b x0n x0c)) h := by kernel_rfl
    exact e ▸ hS
  · intro e g' h' hq
    cases e with
    | normal =>
      have hq : D2 (fun z0b z0n z0c z3b z3n z3c h => n3 z0b z0n z0c z3b z3n z3c Kn Kr h) g' h' := hq
      obtain ⟨y0b, y0n, y0c, y3b, y3n, y3c, hg', hq⟩ := D2_ok hq
      exact n3_ok y0b y0n y0c y3b y3n y3c Kn Kr g' hg' h' hq
    | _ => exact hq
def Q8 (Kn : T1) (Kr : T0) : XPost
  | .normal, g, h => D1 Kn g h
  | .ret, g, h => D0 Kr g h
  | _, _, _ => False
abbrev n1 (x0b : Option Addr) (x0n : Nat) (x0c : Nat) (Kn : T0) (Kr : T0) (h : H) : Prop :=
  n2 x0b x0n x0c Kn Kr h
theorem n1_ok (x0b : Option Addr) (x0n : Nat) (x0c : Nat) (Kn : T0) (Kr : T0) (g : Env) (hg : E1 g x0b x0n x0c) (h : H) (hS : n1 x0b x0n x0c Kn Kr h) : wpC none Tryd.prog 34 code (Q0 Kn Kr) g h := by
  obtain ⟨hg0, hds⟩ := hg
  refine wpC_seq' (x := n1_c1) (y := n1_c2) (Q' := (Q8 (fun z0b z0n z0c h => n2 z0b z0n z0c Kn Kr h) Kr)) (by kernel_rfl) ?_ ?_
  · refine wpC_of_wpx (by kernel_rfl) (by kernel_rfl) (g' := (⟨g.v, []⟩ : Env).upd (some 0) (.slice x0b x0n x0c)) (by rw [env_ds hds, upd_self hg0]) ?_
    have e : (n1 x0b x0n x0c Kn Kr h) = wpx none Tryd.prog 34 n1_c1 (Q8 (fun z0b z0n z0c h => n2 z0b z0n z0c Kn Kr h) Kr) ((⟨g.v, []⟩ : Env).upd (some 0) (.slice x0b x0n x0c)) h := by kernel_rfl
    exact e ▸ hS
  · intro e g' h' hq
    cases e with
    | normal =>
      have hq : D1 (fun z0b z0n z0c h => n2 z0b z0n z0c Kn Kr h) g' h' := hq
      obtain ⟨y0b, y0n, y0c, hg', hq⟩ := D1_ok hq
      exact n2_ok y0b y0n y0c Kn Kr g' hg' h' hq
    | _ => exact hq
/-- WHAT tympan/tympanref01.plain ASKS -/
abbrev asks (x0b : Option Addr) (x0n : Nat) (x0c : Nat) (K : Value → H → Prop) (h : H) : Prop := n1 x0b x0n x0c (fun y2 h => K (S y2) h) (fun y2 h => K (S y2) h) h
theorem ok (x0b : Option Addr) (x0n : Nat) (x0c : Nat) (K : Value → H → Prop) (h : H) (hS : asks x0b x0n x0c K h) : HCalls Tryd.prog 32 ⟨[(.slice x0b x0n x0c)]⟩ h K := by
  refine calls_of_wpC (c := code) Tryd.func32 (by kernel_rfl) (Nat.le_of_ble_eq_true (by kernel_rfl)) ?_
  refine (n1_ok x0b x0n x0c (fun y2 h => K (S y2) h) (fun y2 h => K (S y2) h) (env0 [(.slice x0b x0n x0c)]) ⟨rfl, rfl⟩ h hS).mono ?_
  intro e g' h' hq
  cases e with
  | normal =>
    have hq : D0 (fun y2 h => K (S y2) h) g' h' := hq
    obtain ⟨y2, ⟨hg2, hd⟩, hq⟩ := D0_ok hq
    show leaveX g'.ds h' _
    rw [hd]
    show K (g'.v 2) h'
    rw [hg2]
    exact hq
  | ret =>
    have hq : D0 (fun y2 h => K (S y2) h) g' h' := hq
    obtain ⟨y2, ⟨hg2, hd⟩, hq⟩ := D0_ok hq
    show leaveX g'.ds h' _
    rw [hd]
    show K (g'.v 2) h'
    rw [hg2]
    exact hq
  | _ => exact hq
end Sx.r01_plain

/-! ### tympan/tympanref02.fold -/
namespace Sx.r02_fold
noncomputable def code : Code := bodyOf Tryd.f37
abbrev T0 := (Option Addr) → Nat → Nat → H → Prop
def E0 (g : Env) (x2b : Option Addr) (x2n : Nat) (x2c : Nat) : Prop := g.v 2 = (.slice x2b x2n x2c) ∧ g.ds = []
def D0 (K : T0) (g : Env) (h : H) : Prop := nilDs g.ds (vSlice (g.v 2) fun s1b s1n s1c => K s1b s1n s1c h)
theorem D0_ok {K : T0} {g : Env} {h : H} (hq : D0 K g h) : ∃ (x2b : Option Addr) (x2n : Nat) (x2c : Nat), E0 g x2b x2n x2c ∧ K x2b x2n x2c h := by
  obtain ⟨hd, hq⟩ := nilDs_ok hq
  obtain ⟨y3b, y3n, y3c, e2, q4⟩ := vSlice_ok hq
  exact ⟨y3b, y3n, y3c, ⟨e2, hd⟩, q4⟩
def Q0 (Kn : T0) (Kr : T0) : XPost
  | .normal, g, h => D0 Kn g h
  | .ret, g, h => D0 Kr g h
  | _, _, _ => False
abbrev T1 := Int → H → Prop
def E1 (g : Env) (x0 : Int) : Prop := g.v 0 = (.int .i32 x0) ∧ g.ds = []
def D1 (K : T1) (g : Env) (h : H) : Prop := nilDs g.ds (vInt .i32 (g.v 0) fun i5 => K i5 h)
theorem D1_ok {K : T1} {g : Env} {h : H} (hq : D1 K g h) : ∃ (x0 : Int), E1 g x0 ∧ K x0 h := by
  obtain ⟨hd, hq⟩ := nilDs_ok hq
  obtain ⟨y7, e6, q8⟩ := vInt_ok hq
  exact ⟨y7, ⟨e6, hd⟩, q8⟩
noncomputable def n1_c1 : Code := cFst code
noncomputable def n1_c2 : Code := cSnd code
noncomputable def n2_c1 : Code := cFst n1_c2
noncomputable def n2_c2 : Code := cSnd n1_c2
abbrev n3 (x0 : Int) (Kn : T0) (Kr : T0) (h : H) : Prop :=
  newx h #[(.int .i32 x0)] 21 fun a9 h10 => Kr (some a9) 1 1 h10
theorem n3_ok (x0 : Int) (Kn : T0) (Kr : T0) (g : Env) (hg : E1 g x0) (h : H) (hS : n3 x0 Kn Kr h) : wpC none Tryd.prog 119 n2_c2 (Q0 Kn Kr) g h := by
  obtain ⟨hg0, hds⟩ := hg
  refine wpC_of_wpx (by kernel_rfl) (by kernel_rfl) (g' := (⟨g.v, []⟩ : Env).upd (some 0) (.int .i32 x0)) (by rw [env_ds hds, upd_self hg0]) ?_
  have e : (n3 x0 Kn Kr h) = wpx none Tryd.prog 119 n2_c2 (Q0 Kn Kr) ((⟨g.v, []⟩ : Env).upd (some 0) (.int .i32 x0)) h := by kernel_rfl
  exact e ▸ hS
def Q1 (Kn : T1) (Kr : T0) : XPost
  | .normal, g, h => D1 Kn g h
  | .ret, g, h => D0 Kr g h
  | _, _, _ => False
noncomputable def n4_c1 : Code := cFst n2_c1
def Q2 (Kn : T1) (Ke0 : T1) (Kr : T0) : XPost
  | .normal, g, h => D1 Kn g h
  | .ret, g, h => D0 Kr g h
  | .exit id, g, h => cond (Nat.beq id 0) (D1 Ke0 g h) (False)
  | _, _, _ => False
noncomputable def n5_c1 : Code := cFst n4_c1
noncomputable def n5_c2 : Code := cSnd n4_c1
abbrev T2 := Int → Bool → H → Prop
def E2 (g : Env) (x0 : Int) (x3 : Bool) : Prop := g.v 0 = (.int .i32 x0) ∧ g.v 3 = (.bool x3) ∧ g.ds = []
def D2 (K : T2) (g : Env) (h : H) : Prop := nilDs g.ds (vInt .i32 (g.v 0) fun i11 => vBool (g.v 3) fun b12 => K i11 b12 h)
theorem D2_ok {K : T2} {g : Env} {h : H} (hq : D2 K g h) : ∃ (x0 : Int) (x3 : Bool), E2 g x0 x3 ∧ K x0 x3 h := by
  obtain ⟨hd, hq⟩ := nilDs_ok hq
  obtain ⟨y14, e13, q15⟩ := vInt_ok hq
  obtain ⟨y17, e16, q18⟩ := vBool_ok q15
  exact ⟨y14, y17, ⟨e13, e16, hd⟩, q18⟩
noncomputable def n6_c1 : Code := cFst n5_c2
noncomputable def n6_c2 : Code := cSnd n5_c2
abbrev T3 := H → Prop
def E3 (g : Env)  : Prop := g.ds = []
def D3 (K : T3) (g : Env) (h : H) : Prop := nilDs g.ds (K h)
theorem D3_ok {K : T3} {g : Env} {h : H} (hq : D3 K g h) : E3 g  ∧ K  h := by
  obtain ⟨hd, hq⟩ := nilDs_ok hq
  skip
  exact ⟨hd, hq⟩
abbrev n7  (Kn : T1) (Ke0 : T1) (Kr : T0) (h : H) : Prop :=
  newx h #[(.int .i32 (115 : Int)), (.int .i32 (115 : Int))] 21 fun a19 h20 => Kr (some a19) 2 2 h20
theorem n7_ok  (Kn : T1) (Ke0 : T1) (Kr : T0) (g : Env) (hg : E3 g ) (h : H) (hS : n7  Kn Ke0 Kr h) : wpC none Tryd.prog 119 n6_c1 (Q2 Kn Ke0 Kr) g h := by
  have hds : g.ds = [] := hg
  refine wpC_of_wpx (by kernel_rfl) (by kernel_rfl) (g' := ⟨g.v, []⟩) (by rw [env_ds hds]) ?_
  have e : (n7  Kn Ke0 Kr h) = wpx none Tryd.prog 119 n6_c1 (Q2 Kn Ke0 Kr) (⟨g.v, []⟩) h := by kernel_rfl
  exact e ▸ hS
noncomputable def n8_c1 : Code := cFst n6_c2
noncomputable def n8_c2 : Code := cSnd n6_c2
abbrev T4 := Int → Bool → H → Prop
def E4 (g : Env) (x0 : Int) (x11 : Bool) : Prop := g.v 0 = (.int .i32 x0) ∧ g.v 11 = (.bool x11) ∧ g.ds = []
def D4 (K : T4) (g : Env) (h : H) : Prop := nilDs g.ds (vInt .i32 (g.v 0) fun i21 => vBool (g.v 11) fun b22 => K i21 b22 h)
theorem D4_ok {K : T4} {g : Env} {h : H} (hq : D4 K g h) : ∃ (x0 : Int) (x11 : Bool), E4 g x0 x11 ∧ K x0 x11 h := by
  obtain ⟨hd, hq⟩ := nilDs_ok hq
  obtain ⟨y24, e23, q25⟩ := vInt_ok hq
  obtain ⟨y27, e26, q28⟩ := vBool_ok q25
  exact ⟨y24, y27, ⟨e23, e26, hd⟩, q28⟩
noncomputable def n9_c1 : Code := cFst n8_c2
noncomputable def n9_c2 : Code := cSnd n8_c2
abbrev n10 (x0 : Int) (Kn : T1) (Ke0 : T1) (Kr : T0) (h : H) : Prop :=
  Rng .i32 (x0 + (32 : Int)) ∧ (newx h #[(.int .i32 (x0 + (32 : Int)))] 21 fun a29 h30 => Kr (some a29) 1 1 h30)
theorem n10_ok (x0 : Int) (Kn : T1) (Ke0 : T1) (Kr : T0) (g : Env) (hg : E1 g x0) (h : H) (hS : n10 x0 Kn Ke0 Kr h) : wpC none Tryd.prog 119 n9_c1 (Q2 Kn Ke0 Kr) g h := by
  obtain ⟨hg0, hds⟩ := hg
  refine wpC_of_wpx (by kernel_rfl) (by kernel_rfl) (g' := (⟨g.v, []⟩ : Env).upd (some 0) (.int .i32 x0)) (by rw [env_ds hds, upd_self hg0]) ?_
  have e : (n10 x0 Kn Ke0 Kr h) = wpx none Tryd.prog 119 n9_c1 (Q2 Kn Ke0 Kr) ((⟨g.v, []⟩ : Env).upd (some 0) (.int .i32 x0)) h := by kernel_rfl
  exact e ▸ hS
noncomputable def n11_c1 : Code := cFst n9_c2
noncomputable def n11_c2 : Code := cSnd n9_c2
abbrev T5 := Int → Bool → H → Prop
def E5 (g : Env) (x0 : Int) (x53 : Bool) : Prop := g.v 0 = (.int .i32 x0) ∧ g.v 53 = (.bool x53) ∧ g.ds = []
def D5 (K : T5) (g : Env) (h : H) : Prop := nilDs g.ds (vInt .i32 (g.v 0) fun i31 => vBool (g.v 53) fun b32 => K i31 b32 h)
theorem D5_ok {K : T5} {g : Env} {h : H} (hq : D5 K g h) : ∃ (x0 : Int) (x53 : Bool), E5 g x0 x53 ∧ K x0 x53 h := by
  obtain ⟨hd, hq⟩ := nilDs_ok hq
  obtain ⟨y34, e33, q35⟩ := vInt_ok hq
  obtain ⟨y37, e36, q38⟩ := vBool_ok q35
  exact ⟨y34, y37, ⟨e33, e36, hd⟩, q38⟩
noncomputable def n12_c1 : Code := cFst n11_c2
noncomputable def n12_c2 : Code := cSnd n11_c2
abbrev n13 (x0 : Int) (Kn : T1) (Ke0 : T1) (Kr : T0) (h : H) : Prop :=
  Rng .i32 (x0 + (80 : Int)) ∧ (newx h #[(.int .i32 (x0 + (80 : Int)))] 21 fun a39 h40 => Kr (some a39) 1 1 h40)
theorem n13_ok (x0 : Int) (Kn : T1) (Ke0 : T1) (Kr : T0) (g : Env) (hg : E1 g x0) (h : H) (hS : n13 x0 Kn Ke0 Kr h) : wpC none Tryd.prog 119 n12_c1 (Q2 Kn Ke0 Kr) g h := by
  obtain ⟨hg0, hds⟩ := hg
  refine wpC_of_wpx (by kernel_rfl) (by kernel_rfl) (g' := (⟨g.v, []⟩ : Env).upd (some 0) (.int .i32 x0)) (by rw [env_ds hds, upd_self hg0]) ?_
  have e : (n13 x0 Kn Ke0 Kr h) = wpx none Tryd.prog 119 n12_c1 (Q2 Kn Ke0 Kr) ((⟨g.v, []⟩ : Env).upd (some 0) (.int .i32 x0)) h := by kernel_rfl
  exact e ▸ hS
noncomputable def n14_c1 : Code := cFst n12_c2
noncomputable def n14_c2 : Code := cSnd n12_c2
abbrev T6 := Int → Bool → H → Prop
def E6 (g : Env) (x0 : Int) (x63 : Bool) : Prop := g.v 0 = (.int .i32 x0) ∧ g.v 63 = (.bool x63) ∧ g.ds = []
def D6 (K : T6) (g : Env) (h : H) : Prop := nilDs g.ds (vInt .i32 (g.v 0) fun i41 => vBool (g.v 63) fun b42 => K i41 b42 h)
theorem D6_ok {K : T6} {g : Env} {h : H} (hq : D6 K g h) : ∃ (x0 : Int) (x63 : Bool), E6 g x0 x63 ∧ K x0 x63 h := by
  obtain ⟨hd, hq⟩ := nilDs_ok hq
  obtain ⟨y44, e43, q45⟩ := vInt_ok hq
  obtain ⟨y47, e46, q48⟩ := vBool_ok q45
  exact ⟨y44, y47, ⟨e43, e46, hd⟩, q48⟩
noncomputable def n15_c1 : Code := cFst n14_c2
noncomputable def n15_c2 : Code := cSnd n14_c2
abbrev n16  (Kn : T1) (Ke0 : T1) (Kr : T0) (h : H) : Prop :=
  newx h #[(.int .i32 (963 : Int))] 21 fun a49 h50 => Kr (some a49) 1 1 h50
theorem n16_ok  (Kn : T1) (Ke0 : T1) (Kr : T0) (g : Env) (hg : E3 g ) (h : H) (hS : n16  Kn Ke0 Kr h) : wpC none Tryd.prog 119 n15_c1 (Q2 Kn Ke0 Kr) g h := by
  have hds : g.ds = [] := hg
  refine wpC_of_wpx (by kernel_rfl) (by kernel_rfl) (g' := ⟨g.v, []⟩) (by rw [env_ds hds]) ?_
  have e : (n16  Kn Ke0 Kr h) = wpx none Tryd.prog 119 n15_c1 (Q2 Kn Ke0 Kr) (⟨g.v, []⟩) h := by kernel_rfl
  exact e ▸ hS
noncomputable def n17_c1 : Code := cFst n15_c2
noncomputable def n17_c2 : Code := cSnd n15_c2
abbrev T7 := Int → Bool → H → Prop
def E7 (g : Env) (x0 : Int) (x67 : Bool) : Prop := g.v 0 = (.int .i32 x0) ∧ g.v 67 = (.bool x67) ∧ g.ds = []
def D7 (K : T7) (g : Env) (h : H) : Prop := nilDs g.ds (vInt .i32 (g.v 0) fun i51 => vBool (g.v 67) fun b52 => K i51 b52 h)
theorem D7_ok {K : T7} {g : Env} {h : H} (hq : D7 K g h) : ∃ (x0 : Int) (x67 : Bool), E7 g x0 x67 ∧ K x0 x67 h := by
  obtain ⟨hd, hq⟩ := nilDs_ok hq
  obtain ⟨y54, e53, q55⟩ := vInt_ok hq
  obtain ⟨y57, e56, q58⟩ := vBool_ok q55
  exact ⟨y54, y57, ⟨e53, e56, hd⟩, q58⟩
noncomputable def n18_c1 : Code := cFst n17_c2
noncomputable def n18_c2 : Code := cSnd n17_c2
abbrev n19 (x0 : Int) (Kn : T1) (Ke0 : T1) (Kr : T0) (h : H) : Prop :=
  (2 : Int) ≠ 0 ∧ (Spl ((Int.tmod x0 (2 : Int)) = (0 : Int)) (Rng .i32 (x0 + (1 : Int)) ∧ (newx h #[(.int .i32 (x0 + (1 : Int)))] 21 fun a59 h60 => Kr (some a59) 1 1 h60)) (Kn x0 h))
theorem n19_ok (x0 : Int) (Kn : T1) (Ke0 : T1) (Kr : T0) (g : Env) (hg : E1 g x0) (h : H) (hS : n19 x0 Kn Ke0 Kr h) : wpC none Tryd.prog 119 n18_c1 (Q2 Kn Ke0 Kr) g h := by
  obtain ⟨hg0, hds⟩ := hg
  refine wpC_of_wpx (by kernel_rfl) (by kernel_rfl) (g' := (⟨g.v, []⟩ : Env).upd (some 0) (.int .i32 x0)) (by rw [env_ds hds, upd_self hg0]) ?_
  have e : (n19 x0 Kn Ke0 Kr h) = wpx none Tryd.prog 119 n18_c1 (Q2 Kn Ke0 Kr) ((⟨g.v, []⟩ : Env).upd (some 0) (.int .i32 x0)) h := by kernel_rfl
  exact e ▸ hS
noncomputable def n20_c1 : Code := cFst n18_c2
noncomputable def n20_c2 : Code := cSnd n18_c2
abbrev T8 := Int → Bool → H → Prop
def E8 (g : Env) (x0 : Int) (x96 : Bool) : Prop := g.v 0 = (.int .i32 x0) ∧ g.v 96 = (.bool x96) ∧ g.ds = []
def D8 (K : T8) (g : Env) (h : H) : Prop := nilDs g.ds (vInt .i32 (g.v 0) fun i61 => vBool (g.v 96) fun b62 => K i61 b62 h)
theorem D8_ok {K : T8} {g : Env} {h : H} (hq : D8 K g h) : ∃ (x0 : Int) (x96 : Bool), E8 g x0 x96 ∧ K x0 x96 h := by
  obtain ⟨hd, hq⟩ := nilDs_ok hq
  obtain ⟨y64, e63, q65⟩ := vInt_ok hq
  obtain ⟨y67, e66, q68⟩ := vBool_ok q65
  exact ⟨y64, y67, ⟨e63, e66, hd⟩, q68⟩
abbrev n21 (x0 : Int) (x96 : Bool) (Kn : T1) (Ke0 : T1) (Kr : T0) (h : H) : Prop :=
  cond x96 ((2 : Int) ≠ 0 ∧ (Spl ((Int.tmod x0 (2 : Int)) = (1 : Int)) (Rng .i32 (x0 + (1 : Int)) ∧ (newx h #[(.int .i32 (x0 + (1 : Int)))] 21 fun a69 h70 => Kr (some a69) 1 1 h70)) (Kn x0 h))) (Kn x0 h)
theorem n21_ok (x0 : Int) (x96 : Bool) (Kn : T1) (Ke0 : T1) (Kr : T0) (g : Env) (hg : E8 g x0 x96) (h : H) (hS : n21 x0 x96 Kn Ke0 Kr h) : wpC none Tryd.prog 119 n20_c2 (Q2 Kn Ke0 Kr) g h := by
  obtain ⟨hg0, hg96, hds⟩ := hg
  refine wpC_of_wpx (by kernel_rfl) (by kernel_rfl) (g' := ((⟨g.v, []⟩ : Env).upd (some 0) (.int .i32 x0)).upd (some 96) (.bool x96)) (by rw [env_ds hds, upd_self hg0, upd_self hg96]) ?_
  have e : (n21 x0 x96 Kn Ke0 Kr h) = wpx none Tryd.prog 119 n20_c2 (Q2 Kn Ke0 Kr) (((⟨g.v, []⟩ : Env).upd (some 0) (.int .i32 x0)).upd (some 96) (.bool x96)) h := by kernel_rfl
  exact e ▸ hS
def Q3 (Kn : T8) (Ke0 : T1) (Kr : T0) : XPost
  | .normal, g, h => D8 Kn g h
  | .ret, g, h => D0 Kr g h
  | .exit id, g, h => cond (Nat.beq id 0) (D1 Ke0 g h) (False)
  | _, _, _ => False
abbrev n20 (x0 : Int) (Kn : T1) (Ke0 : T1) (Kr : T0) (h : H) : Prop :=
  Spl (x0 ≥ (313 : Int)) (Spl (x0 ≤ (328 : Int)) (n21 x0 true Kn Ke0 Kr h) (Spl (x0 ≥ (377 : Int)) (Spl (x0 ≤ (382 : Int)) (n21 x0 true Kn Ke0 Kr h) (n21 x0 false Kn Ke0 Kr h)) (n21 x0 false Kn Ke0 Kr h))) (Spl (x0 ≥ (377 : Int)) (Spl (x0 ≤ (382 : Int)) (n21 x0 true Kn Ke0 Kr h) (n21 x0 false Kn Ke0 Kr h)) (n21 x0 false Kn Ke0 Kr h))
theorem n20_ok (x0 : Int) (Kn : T1) (Ke0 : T1) (Kr : T0) (g : Env) (hg : E1 g x0) (h : H) (hS : n20 x0 Kn Ke0 Kr h) : wpC none Tryd.prog 119 n18_c2 (Q2 Kn Ke0 Kr) g h := by
  obtain ⟨hg0, hds⟩ := hg
  refine wpC_seq' (x := n20_c1) (y := n20_c2) (Q' := (Q3 (fun z0 z96 h => n21 z0 z96 Kn Ke0 Kr h) Ke0 Kr)) (by kernel_rfl) ?_ ?_
  · refine wpC_of_wpx (by kernel_rfl) (by kernel_rfl) (g' := (⟨g.v, []⟩ : Env).upd (some 0) (.int .i32 x0)) (by rw [env_ds hds, upd_self hg0]) ?_
    have e : (n20 x0 Kn Ke0 Kr h) = wpx none Tryd.prog 119 n20_c1 (Q3 (fun z0 z96 h => n21 z0 z96 Kn Ke0 Kr h) Ke0 Kr) ((⟨g.v, []⟩ : Env).upd (some 0) (.int .i32 x0)) h := by kernel_rfl
    exact e ▸ hS
  · intro e g' h' hq
    cases e with
    | normal =>
      have hq : D8 (fun z0 z96 h => n21 z0 z96 Kn Ke0 Kr h) g' h' := hq
      obtain ⟨y0, y96, hg', hq⟩ := D8_ok hq
      exact n21_ok y0 y96 Kn Ke0 Kr g' hg' h' hq
    | _ => exact hq
abbrev n18 (x0 : Int) (x67 : Bool) (Kn : T1) (Ke0 : T1) (Kr : T0) (h : H) : Prop := cond x67 (n19 x0 Kn Ke0 Kr h) (n20 x0 Kn Ke0 Kr h)
theorem n18_ok (x0 : Int) (x67 : Bool) (Kn : T1) (Ke0 : T1) (Kr : T0) (g : Env) (hg : E7 g x0 x67) (h : H) (hS : n18 x0 x67 Kn Ke0 Kr h) : wpC none Tryd.prog 119 n17_c2 (Q2 Kn Ke0 Kr) g h := by
  obtain ⟨hg0, hg67, hds⟩ := hg
  have hx : evalE 119 g (.tmp 67) = .bool x67 := by
    show cond (Nat.blt 67 119) (g.v 67) undef = _
    rw [hg67]; rfl
  unfold n18 at hS
  refine wpC_cond' (o := .tmp 67) (x := n18_c1) (y := n18_c2) (by kernel_rfl) hx (fun hb => ?_) (fun hb => ?_)
  · subst hb
    exact n19_ok x0 Kn Ke0 Kr g ⟨hg0, hds⟩ h hS
  · subst hb
    exact n20_ok x0 Kn Ke0 Kr g ⟨hg0, hds⟩ h hS
def Q4 (Kn : T7) (Ke0 : T1) (Kr : T0) : XPost
  | .normal, g, h => D7 Kn g h
  | .ret, g, h => D0 Kr g h
  | .exit id, g, h => cond (Nat.beq id 0) (D1 Ke0 g h) (False)
  | _, _, _ => False
abbrev n17 (x0 : Int) (Kn : T1) (Ke0 : T1) (Kr : T0) (h : H) : Prop :=
  Spl (x0 ≥ (256 : Int)) (Spl (x0 ≤ (311 : Int)) (n18 x0 true Kn Ke0 Kr h) (Spl (x0 ≥ (330 : Int)) (Spl (x0 ≤ (375 : Int)) (n18 x0 true Kn Ke0 Kr h) (Spl (x0 ≥ (7680 : Int)) (Spl (x0 ≤ (7829 : Int)) (n18 x0 true Kn Ke0 Kr h) (n18 x0 false Kn Ke0 Kr h)) (n18 x0 false Kn Ke0 Kr h))) (Spl (x0 ≥ (7680 : Int)) (Spl (x0 ≤ (7829 : Int)) (n18 x0 true Kn Ke0 Kr h) (n18 x0 false Kn Ke0 Kr h)) (n18 x0 false Kn Ke0 Kr h)))) (Spl (x0 ≥ (330 : Int)) (Spl (x0 ≤ (375 : Int)) (n18 x0 true Kn Ke0 Kr h) (Spl (x0 ≥ (7680 : Int)) (Spl (x0 ≤ (7829 : Int)) (n18 x0 true Kn Ke0 Kr h) (n18 x0 false Kn Ke0 Kr h)) (n18 x0 false Kn Ke0 Kr h))) (Spl (x0 ≥ (7680 : Int)) (Spl (x0 ≤ (7829 : Int)) (n18 x0 true Kn Ke0 Kr h) (n18 x0 false Kn Ke0 Kr h)) (n18 x0 false Kn Ke0 Kr h)))
theorem n17_ok (x0 : Int) (Kn : T1) (Ke0 : T1) (Kr : T0) (g : Env) (hg : E1 g x0) (h : H) (hS : n17 x0 Kn Ke0 Kr h) : wpC none Tryd.prog 119 n15_c2 (Q2 Kn Ke0 Kr) g h := by
  obtain ⟨hg0, hds⟩ := hg
  refine wpC_seq' (x := n17_c1) (y := n17_c2) (Q' := (Q4 (fun z0 z67 h => n18 z0 z67 Kn Ke0 Kr h) Ke0 Kr)) (by kernel_rfl) ?_ ?_
  · refine wpC_of_wpx (by kernel_rfl) (by kernel_rfl) (g' := (⟨g.v, []⟩ : Env).upd (some 0) (.int .i32 x0)) (by rw [env_ds hds, upd_self hg0]) ?_
    have e : (n17 x0 Kn Ke0 Kr h) = wpx none Tryd.prog 119 n17_c1 (Q4 (fun z0 z67 h => n18 z0 z67 Kn Ke0 Kr h) Ke0 Kr) ((⟨g.v, []⟩ : Env).upd (some 0) (.int .i32 x0)) h := by kernel_rfl
    exact e ▸ hS
  · intro e g' h' hq
    cases e with
    | normal =>
      have hq : D7 (fun z0 z67 h => n18 z0 z67 Kn Ke0 Kr h) g' h' := hq
      obtain ⟨y0, y67, hg', hq⟩ := D7_ok hq
      exact n18_ok y0 y67 Kn Ke0 Kr g' hg' h' hq
    | _ => exact hq
abbrev n15 (x0 : Int) (x63 : Bool) (Kn : T1) (Ke0 : T1) (Kr : T0) (h : H) : Prop := cond x63 (n16  Kn Ke0 Kr h) (n17 x0 Kn Ke0 Kr h)
theorem n15_ok (x0 : Int) (x63 : Bool) (Kn : T1) (Ke0 : T1) (Kr : T0) (g : Env) (hg : E6 g x0 x63) (h : H) (hS : n15 x0 x63 Kn Ke0 Kr h) : wpC none Tryd.prog 119 n14_c2 (Q2 Kn Ke0 Kr) g h := by
  obtain ⟨hg0, hg63, hds⟩ := hg
  have hx : evalE 119 g (.tmp 63) = .bool x63 := by
    show cond (Nat.blt 63 119) (g.v 63) undef = _
    rw [hg63]; rfl
  unfold n15 at hS
  refine wpC_cond' (o := .tmp 63) (x := n15_c1) (y := n15_c2) (by kernel_rfl) hx (fun hb => ?_) (fun hb => ?_)
  · subst hb
    exact n16_ok  Kn Ke0 Kr g hds h hS
  · subst hb
    exact n17_ok x0 Kn Ke0 Kr g ⟨hg0, hds⟩ h hS
def Q5 (Kn : T6) (Ke0 : T1) (Kr : T0) : XPost
  | .normal, g, h => D6 Kn g h
  | .ret, g, h => D0 Kr g h
  | .exit id, g, h => cond (Nat.beq id 0) (D1 Ke0 g h) (False)
  | _, _, _ => False
abbrev n14 (x0 : Int) (Kn : T1) (Ke0 : T1) (Kr : T0) (h : H) : Prop :=
  Spl (x0 = (962 : Int)) (n15 x0 true Kn Ke0 Kr h) (n15 x0 false Kn Ke0 Kr h)
theorem n14_ok (x0 : Int) (Kn : T1) (Ke0 : T1) (Kr : T0) (g : Env) (hg : E1 g x0) (h : H) (hS : n14 x0 Kn Ke0 Kr h) : wpC none Tryd.prog 119 n12_c2 (Q2 Kn Ke0 Kr) g h := by
  obtain ⟨hg0, hds⟩ := hg
  refine wpC_seq' (x := n14_c1) (y := n14_c2) (Q' := (Q5 (fun z0 z63 h => n15 z0 z63 Kn Ke0 Kr h) Ke0 Kr)) (by kernel_rfl) ?_ ?_
  · refine wpC_of_wpx (by kernel_rfl) (by kernel_rfl) (g' := (⟨g.v, []⟩ : Env).upd (some 0) (.int .i32 x0)) (by rw [env_ds hds, upd_self hg0]) ?_
    have e : (n14 x0 Kn Ke0 Kr h) = wpx none Tryd.prog 119 n14_c1 (Q5 (fun z0 z63 h => n15 z0 z63 Kn Ke0 Kr h) Ke0 Kr) ((⟨g.v, []⟩ : Env).upd (some 0) (.int .i32 x0)) h := by kernel_rfl
    exact e ▸ hS
  · intro e g' h' hq
    cases e with
    | normal =>
      have hq : D6 (fun z0 z63 h => n15 z0 z63 Kn Ke0 Kr h) g' h' := hq
      obtain ⟨y0, y63, hg', hq⟩ := D6_ok hq
      exact n15_ok y0 y63 Kn Ke0 Kr g' hg' h' hq
    | _ => exact hq
abbrev n12 (x0 : Int) (x53 : Bool) (Kn : T1) (Ke0 : T1) (Kr : T0) (h : H) : Prop := cond x53 (n13 x0 Kn Ke0 Kr h) (n14 x0 Kn Ke0 Kr h)
theorem n12_ok (x0 : Int) (x53 : Bool) (Kn : T1) (Ke0 : T1) (Kr : T0) (g : Env) (hg : E5 g x0 x53) (h : H) (hS : n12 x0 x53 Kn Ke0 Kr h) : wpC none Tryd.prog 119 n11_c2 (Q2 Kn Ke0 Kr) g h := by
  obtain ⟨hg0, hg53, hds⟩ := hg
  have hx : evalE 119 g (.tmp 53) = .bool x53 := by
    show cond (Nat.blt 53 119) (g.v 53) undef = _
    rw [hg53]; rfl
  unfold n12 at hS
  refine wpC_cond' (o := .tmp 53) (x := n12_c1) (y := n12_c2) (by kernel_rfl) hx (fun hb => ?_) (fun hb => ?_)
  · subst hb
    exact n13_ok x0 Kn Ke0 Kr g ⟨hg0, hds⟩ h hS
  · subst hb
    exact n14_ok x0 Kn Ke0 Kr g ⟨hg0, hds⟩ h hS
def Q6 (Kn : T5) (Ke0 : T1) (Kr : T0) : XPost
  | .normal, g, h => D5 Kn g h
  | .ret, g, h => D0 Kr g h
  | .exit id, g, h => cond (Nat.beq id 0) (D1 Ke0 g h) (False)
  | _, _, _ => False
abbrev n11 (x0 : Int) (Kn : T1) (Ke0 : T1) (Kr : T0) (h : H) : Prop :=
  Spl (x0 ≥ (1024 : Int)) (Spl (x0 ≤ (1039 : Int)) (n12 x0 true Kn Ke0 Kr h) (n12 x0 false Kn Ke0 Kr h)) (n12 x0 false Kn Ke0 Kr h)
theorem n11_ok (x0 : Int) (Kn : T1) (Ke0 : T1) (Kr : T0) (g : Env) (hg : E1 g x0) (h : H) (hS : n11 x0 Kn Ke0 Kr h) : wpC none Tryd.prog 119 n9_c2 (Q2 Kn Ke0 Kr) g h := by
  obtain ⟨hg0, hds⟩ := hg
  refine wpC_seq' (x := n11_c1) (y := n11_c2) (Q' := (Q6 (fun z0 z53 h => n12 z0 z53 Kn Ke0 Kr h) Ke0 Kr)) (by kernel_rfl) ?_ ?_
  · refine wpC_of_wpx (by kernel_rfl) (by kernel_rfl) (g' := (⟨g.v, []⟩ : Env).upd (some 0) (.int .i32 x0)) (by rw [env_ds hds, upd_self hg0]) ?_
    have e : (n11 x0 Kn Ke0 Kr h) = wpx none Tryd.prog 119 n11_c1 (Q6 (fun z0 z53 h => n12 z0 z53 Kn Ke0 Kr h) Ke0 Kr) ((⟨g.v, []⟩ : Env).upd (some 0) (.int .i32 x0)) h := by kernel_rfl
    exact e ▸ hS
  · intro e g' h' hq
    cases e with
    | normal =>
      have hq : D5 (fun z0 z53 h => n12 z0 z53 Kn Ke0 Kr h) g' h' := hq
      obtain ⟨y0, y53, hg', hq⟩ := D5_ok hq
      exact n12_ok y0 y53 Kn Ke0 Kr g' hg' h' hq
    | _ => exact hq
abbrev n9 (x0 : Int) (x11 : Bool) (Kn : T1) (Ke0 : T1) (Kr : T0) (h : H) : Prop := cond x11 (n10 x0 Kn Ke0 Kr h) (n11 x0 Kn Ke0 Kr h)
theorem n9_ok (x0 : Int) (x11 : Bool) (Kn : T1) (Ke0 : T1) (Kr : T0) (g : Env) (hg : E4 g x0 x11) (h : H) (hS : n9 x0 x11 Kn Ke0 Kr h) : wpC none Tryd.prog 119 n8_c2 (Q2 Kn Ke0 Kr) g h := by
  obtain ⟨hg0, hg11, hds⟩ := hg
  have hx : evalE 119 g (.tmp 11) = .bool x11 := by
    show cond (Nat.blt 11 119) (g.v 11) undef = _
    rw [hg11]; rfl
  unfold n9 at hS
  refine wpC_cond' (o := .tmp 11) (x := n9_c1) (y := n9_c2) (by kernel_rfl) hx (fun hb => ?_) (fun hb => ?_)
  · subst hb
    exact n10_ok x0 Kn Ke0 Kr g ⟨hg0, hds⟩ h hS
  · subst hb
    exact n11_ok x0 Kn Ke0 Kr g ⟨hg0, hds⟩ h hS
def Q7 (Kn : T4) (Ke0 : T1) (Kr : T0) : XPost
  | .normal, g, h => D4 Kn g h
  | .ret, g, h => D0 Kr g h
  | .exit id, g, h => cond (Nat.beq id 0) (D1 Ke0 g h) (False)
  | _, _, _ => False
abbrev n8 (x0 : Int) (Kn : T1) (Ke0 : T1) (Kr : T0) (h : H) : Prop :=
  Spl (x0 ≥ (65 : Int)) (Spl (x0 ≤ (90 : Int)) (n9 x0 true Kn Ke0 Kr h) (Spl (x0 ≥ (192 : Int)) (Spl (x0 ≤ (222 : Int)) (Spl (x0 = (215 : Int)) (Spl (x0 ≥ (913 : Int)) (Spl (x0 ≤ (937 : Int)) (Spl (x0 = (930 : Int)) (Spl (x0 ≥ (1040 : Int)) (Spl (x0 ≤ (1071 : Int)) (n9 x0 true Kn Ke0 Kr h) (n9 x0 false Kn Ke0 Kr h)) (n9 x0 false Kn Ke0 Kr h)) (n9 x0 true Kn Ke0 Kr h)) (Spl (x0 ≥ (1040 : Int)) (Spl (x0 ≤ (1071 : Int)) (n9 x0 true Kn Ke0 Kr h) (n9 x0 false Kn Ke0 Kr h)) (n9 x0 false Kn Ke0 Kr h))) (Spl (x0 ≥ (1040 : Int)) (Spl (x0 ≤ (1071 : Int)) (n9 x0 true Kn Ke0 Kr h) (n9 x0 false Kn Ke0 Kr h)) (n9 x0 false Kn Ke0 Kr h))) (n9 x0 true Kn Ke0 Kr h)) (Spl (x0 ≥ (913 : Int)) (Spl (x0 ≤ (937 : Int)) (Spl (x0 = (930 : Int)) (Spl (x0 ≥ (1040 : Int)) (Spl (x0 ≤ (1071 : Int)) (n9 x0 true Kn Ke0 Kr h) (n9 x0 false Kn Ke0 Kr h)) (n9 x0 false Kn Ke0 Kr h)) (n9 x0 true Kn Ke0 Kr h)) (Spl (x0 ≥ (1040 : Int)) (Spl (x0 ≤ (1071 : Int)) (n9 x0 true Kn Ke0 Kr h) (n9 x0 false Kn Ke0 Kr h)) (n9 x0 false Kn Ke0 Kr h))) (Spl (x0 ≥ (1040 : Int)) (Spl (x0 ≤ (1071 : Int)) (n9 x0 true Kn Ke0 Kr h) (n9 x0 false Kn Ke0 Kr h)) (n9 x0 false Kn Ke0 Kr h)))) (Spl (x0 ≥ (913 : Int)) (Spl (x0 ≤ (937 : Int)) (Spl (x0 = (930 : Int)) (Spl (x0 ≥ (1040 : Int)) (Spl (x0 ≤ (1071 : Int)) (n9 x0 true Kn Ke0 Kr h) (n9 x0 false Kn Ke0 Kr h)) (n9 x0 false Kn Ke0 Kr h)) (n9 x0 true Kn Ke0 Kr h)) (Spl (x0 ≥ (1040 : Int)) (Spl (x0 ≤ (1071 : Int)) (n9 x0 true Kn Ke0 Kr h) (n9 x0 false Kn Ke0 Kr h)) (n9 x0 false Kn Ke0 Kr h))) (Spl (x0 ≥ (1040 : Int)) (Spl (x0 ≤ (1071 : Int)) (n9 x0 true Kn Ke0 Kr h) (n9 x0 false Kn Ke0 Kr h)) (n9 x0 false Kn Ke0 Kr h))))) (Spl (x0 ≥ (192 : Int)) (Spl (x0 ≤ (222 : Int)) (Spl (x0 = (215 : Int)) (Spl (x0 ≥ (913 : Int)) (Spl (x0 ≤ (937 : Int)) (Spl (x0 = (930 : Int)) (Spl (x0 ≥ (1040 : Int)) (Spl (x0 ≤ (1071 : Int)) (n9 x0 true Kn Ke0 Kr h) (n9 x0 false Kn Ke0 Kr h)) (n9 x0 false Kn Ke0 Kr h)) (n9 x0 true Kn Ke0 Kr h)) (Spl (x0 ≥ (1040 : Int)) (Spl (x0 ≤ (1071 : Int)) (n9 x0 true Kn Ke0 Kr h) (n9 x0 false Kn Ke0 Kr h)) (n9 x0 false Kn Ke0 Kr h))) (Spl (x0 ≥ (1040 : Int)) (Spl (x0 ≤ (1071 : Int)) (n9 x0 true Kn Ke0 Kr h) (n9 x0 false Kn Ke0 Kr h)) (n9 x0 false Kn Ke0 Kr h))) (n9 x0 true Kn Ke0 Kr h)) (Spl (x0 ≥ (913 : Int)) (Spl (x0 ≤ (937 : Int)) (Spl (x0 = (930 : Int)) (Spl (x0 ≥ (1040 : Int)) (Spl (x0 ≤ (1071 : Int)) (n9 x0 true Kn Ke0 Kr h) (n9 x0 false Kn Ke0 Kr h)) (n9 x0 false Kn Ke0 Kr h)) (n9 x0 true Kn Ke0 Kr h)) (Spl (x0 ≥ (1040 : Int)) (Spl (x0 ≤ (1071 : Int)) (n9 x0 true Kn Ke0 Kr h) (n9 x0 false Kn Ke0 Kr h)) (n9 x0 false Kn Ke0 Kr h))) (Spl (x0 ≥ (1040 : Int)) (Spl (x0 ≤ (1071 : Int)) (n9 x0 true Kn Ke0 Kr h) (n9 x0 false Kn Ke0 Kr h)) (n9 x0 false Kn Ke0 Kr h)))) (Spl (x0 ≥ (913 : Int)) (Spl (x0 ≤ (937 : Int)) (Spl (x0 = (930 : Int)) (Spl (x0 ≥ (1040 : Int)) (Spl (x0 ≤ (1071 : Int)) (n9 x0 true Kn Ke0 Kr h) (n9 x0 false Kn Ke0 Kr h)) (n9 x0 false Kn Ke0 Kr h)) (n9 x0 true Kn Ke0 Kr h)) (Spl (x0 ≥ (1040 : Int)) (Spl (x0 ≤ (1071 : Int)) (n9 x0 true Kn Ke0 Kr h) (n9 x0 false Kn Ke0 Kr h)) (n9 x0 false Kn Ke0 Kr h))) (Spl (x0 ≥ (1040 : Int)) (Spl (x0 ≤ (1071 : Int)) (n9 x0 true Kn Ke0 Kr h) (n9 x0 false Kn Ke0 Kr h)) (n9 x0 false Kn Ke0 Kr h))))
theorem n8_ok (x0 : Int) (Kn : T1) (Ke0 : T1) (Kr : T0) (g : Env) (hg : E1 g x0) (h : H) (hS : n8 x0 Kn Ke0 Kr h) : wpC none Tryd.prog 119 n6_c2 (Q2 Kn Ke0 Kr) g h := by
  obtain ⟨hg0, hds⟩ := hg
  refine wpC_seq' (x := n8_c1) (y := n8_c2) (Q' := (Q7 (fun z0 z11 h => n9 z0 z11 Kn Ke0 Kr h) Ke0 Kr)) (by kernel_rfl) ?_ ?_
  · refine wpC_of_wpx (by kernel_rfl) (by kernel_rfl) (g' := (⟨g.v, []⟩ : Env).upd (some 0) (.int .i32 x0)) (by rw [env_ds hds, upd_self hg0]) ?_
    have e : (n8 x0 Kn Ke0 Kr h) = wpx none Tryd.prog 119 n8_c1 (Q7 (fun z0 z11 h => n9 z0 z11 Kn Ke0 Kr h) Ke0 Kr) ((⟨g.v, []⟩ : Env).upd (some 0) (.int .i32 x0)) h := by kernel_rfl
    exact e ▸ hS
  · intro e g' h' hq
    cases e with
    | normal =>
      have hq : D4 (fun z0 z11 h => n9 z0 z11 Kn Ke0 Kr h) g' h' := hq
      obtain ⟨y0, y11, hg', hq⟩ := D4_ok hq
      exact n9_ok y0 y11 Kn Ke0 Kr g' hg' h' hq
    | _ => exact hq
abbrev n6 (x0 : Int) (x3 : Bool) (Kn : T1) (Ke0 : T1) (Kr : T0) (h : H) : Prop := cond x3 (n7  Kn Ke0 Kr h) (n8 x0 Kn Ke0 Kr h)
theorem n6_ok (x0 : Int) (x3 : Bool) (Kn : T1) (Ke0 : T1) (Kr : T0) (g : Env) (hg : E2 g x0 x3) (h : H) (hS : n6 x0 x3 Kn Ke0 Kr h) : wpC none Tryd.prog 119 n5_c2 (Q2 Kn Ke0 Kr) g h := by
  obtain ⟨hg0, hg3, hds⟩ := hg
  have hx : evalE 119 g (.tmp 3) = .bool x3 := by
    show cond (Nat.blt 3 119) (g.v 3) undef = _
    rw [hg3]; rfl
  unfold n6 at hS
  refine wpC_cond' (o := .tmp 3) (x := n6_c1) (y := n6_c2) (by kernel_rfl) hx (fun hb => ?_) (fun hb => ?_)
  · subst hb
    exact n7_ok  Kn Ke0 Kr g hds h hS
  · subst hb
    exact n8_ok x0 Kn Ke0 Kr g ⟨hg0, hds⟩ h hS
def Q8 (Kn : T2) (Ke0 : T1) (Kr : T0) : XPost
  | .normal, g, h => D2 Kn g h
  | .ret, g, h => D0 Kr g h
  | .exit id, g, h => cond (Nat.beq id 0) (D1 Ke0 g h) (False)
  | _, _, _ => False
abbrev n5 (x0 : Int) (Kn : T1) (Ke0 : T1) (Kr : T0) (h : H) : Prop :=
  Spl (x0 = (223 : Int)) (n6 x0 true Kn Ke0 Kr h) (Spl (x0 = (7838 : Int)) (n6 x0 true Kn Ke0 Kr h) (n6 x0 false Kn Ke0 Kr h))
theorem n5_ok (x0 : Int) (Kn : T1) (Ke0 : T1) (Kr : T0) (g : Env) (hg : E1 g x0) (h : H) (hS : n5 x0 Kn Ke0 Kr h) : wpC none Tryd.prog 119 n4_c1 (Q2 Kn Ke0 Kr) g h := by
  obtain ⟨hg0, hds⟩ := hg
  refine wpC_seq' (x := n5_c1) (y := n5_c2) (Q' := (Q8 (fun z0 z3 h => n6 z0 z3 Kn Ke0 Kr h) Ke0 Kr)) (by kernel_rfl) ?_ ?_
  · refine wpC_of_wpx (by kernel_rfl) (by kernel_rfl) (g' := (⟨g.v, []⟩ : Env).upd (some 0) (.int .i32 x0)) (by rw [env_ds hds, upd_self hg0]) ?_
    have e : (n5 x0 Kn Ke0 Kr h) = wpx none Tryd.prog 119 n5_c1 (Q8 (fun z0 z3 h => n6 z0 z3 Kn Ke0 Kr h) Ke0 Kr) ((⟨g.v, []⟩ : Env).upd (some 0) (.int .i32 x0)) h := by kernel_rfl
    exact e ▸ hS
  · intro e g' h' hq
    cases e with
    | normal =>
      have hq : D2 (fun z0 z3 h => n6 z0 z3 Kn Ke0 Kr h) g' h' := hq
      obtain ⟨y0, y3, hg', hq⟩ := D2_ok hq
      exact n6_ok y0 y3 Kn Ke0 Kr g' hg' h' hq
    | _ => exact hq
abbrev n4 (x0 : Int) (Kn : T1) (Kr : T0) (h : H) : Prop := n5 x0 Kn Kn Kr h
theorem n4_ok (x0 : Int) (Kn : T1) (Kr : T0) (g : Env) (hg : E1 g x0) (h : H) (hS : n4 x0 Kn Kr h) : wpC none Tryd.prog 119 n2_c1 (Q1 Kn Kr) g h := by
  refine wpC_block' (id := 0) (x := n4_c1) (by kernel_rfl) (n5_ok x0 Kn Kn Kr g hg h hS) ?_
  intro e g' h' hq
  cases e <;> exact hq
abbrev n2 (x0 : Int) (Kn : T0) (Kr : T0) (h : H) : Prop := n4 x0 (fun z0 h => n3 z0 Kn Kr h) Kr h
theorem n2_ok (x0 : Int) (Kn : T0) (Kr : T0) (g : Env) (hg : E1 g x0) (h : H) (hS : n2 x0 Kn Kr h) : wpC none Tryd.prog 119 n1_c2 (Q0 Kn Kr) g h := by
  refine wpC_seq' (x := n2_c1) (y := n2_c2) (by kernel_rfl) (n4_ok x0 (fun z0 h => n3 z0 Kn Kr h) Kr g hg h hS) ?_
  intro e g' h' hq
  cases e with
  | normal =>
    have hq : D1 (fun z0 h => n3 z0 Kn Kr h) g' h' := hq
    obtain ⟨y0, hg', hq⟩ := D1_ok hq
    exact n3_ok y0 Kn Kr g' hg' h' hq
  | _ => exact hq
abbrev n1 (x0 : Int) (Kn : T0) (Kr : T0) (h : H) : Prop :=
  n2 x0 Kn Kr h
theorem n1_ok (x0 : Int) (Kn : T0) (Kr : T0) (g : Env) (hg : E1 g x0) (h : H) (hS : n1 x0 Kn Kr h) : wpC none Tryd.prog 119 code (Q0 Kn Kr) g h := by
  obtain ⟨hg0, hds⟩ := hg
  refine wpC_seq' (x := n1_c1) (y := n1_c2) (Q' := (Q1 (fun z0 h => n2 z0 Kn Kr h) Kr)) (by kernel_rfl) ?_ ?_
  · refine wpC_of_wpx (by kernel_rfl) (by kernel_rfl) (g' := (⟨g.v, []⟩ : Env).upd (some 0) (.int .i32 x0)) (by rw [env_ds hds, upd_self hg0]) ?_
    have e : (n1 x0 Kn Kr h) = wpx none Tryd.prog 119 n1_c1 (Q1 (fun z0 h => n2 z0 Kn Kr h) Kr) ((⟨g.v, []⟩ : Env).upd (some 0) (.int .i32 x0)) h := by kernel_rfl
    exact e ▸ hS
  · intro e g' h' hq
    cases e with
    | normal =>
      have hq : D1 (fun z0 h => n2 z0 Kn Kr h) g' h' := hq
      obtain ⟨y0, hg', hq⟩ := D1_ok hq
      exact n2_ok y0 Kn Kr g' hg' h' hq
    | _ => exact hq
/-- WHAT tympan/tympanref02.fold ASKS -/
abbrev asks (x0 : Int) (K : Value → H → Prop) (h : H) : Prop := n1 x0 (fun y2b y2n y2c h => K (.slice y2b y2n y2c) h) (fun y2b y2n y2c h => K (.slice y2b y2n y2c) h) h
theorem ok (x0 : Int) (K : Value → H → Prop) (h : H) (hS : asks x0 K h) : HCalls Tryd.prog 37 ⟨[(.int .i32 x0)]⟩ h K := by
  refine calls_of_wpC (c := code) Tryd.func37 (by kernel_rfl) (Nat.le_of_ble_eq_true (by kernel_rfl)) ?_
  refine (n1_ok x0 (fun y2b y2n y2c h => K (.slice y2b y2n y2c) h) (fun y2b y2n y2c h => K (.slice y2b y2n y2c) h) (env0 [(.int .i32 x0)]) ⟨rfl, rfl⟩ h hS).mono ?_
  intro e g' h' hq
  cases e with
  | normal =>
    have hq : D0 (fun y2b y2n y2c h => K (.slice y2b y2n y2c) h) g' h' := hq
    obtain ⟨y2b, y2n, y2c, ⟨hg2, hd⟩, hq⟩ := D0_ok hq
    show leaveX g'.ds h' _
    rw [hd]
    show K (g'.v 2) h'
    rw [hg2]
    exact hq
  | ret =>
    have hq : D0 (fun y2b y2n y2c h => K (.slice y2b y2n y2c) h) g' h' := hq
    obtain ⟨y2b, y2n, y2c, ⟨hg2, hd⟩, hq⟩ := D0_ok hq
    show leaveX g'.ds h' _
    rw [hd]
    show K (g'.v 2) h'
    rw [hg2]
    exact hq
  | _ => exact hq
end Sx.r02_fold

/-! ### tympan/tympanref01.Right -/
namespace Sx.r01_Right
noncomputable def code : Code := bodyOf Tryd.f39
abbrev T0 := Bool → H → Prop
def E0 (g : Env) (x2 : Bool) : Prop := g.v 2 = (.bool x2) ∧ g.ds = []
def D0 (K : T0) (g : Env) (h : H) : Prop := nilDs g.ds (vBool (g.v 2) fun b1 => K b1 h)
theorem D0_ok {K : T0} {g : Env} {h : H} (hq : D0 K g h) : ∃ (x2 : Bool), E0 g x2 ∧ K x2 h := by
  obtain ⟨hd, hq⟩ := nilDs_ok hq
  obtain ⟨y3, e2, q4⟩ := vBool_ok hq
  exact ⟨y3, ⟨e2, hd⟩, q4⟩
def Q0 (Kn : T0) (Kr : T0) : XPost
  | .normal, g, h => D0 Kn g h
  | .ret, g, h => D0 Kr g h
  | _, _, _ => False
abbrev T1 := (List UInt8) → H → Prop
def E1 (g : Env) (x0 : List UInt8) : Prop := g.v 0 = (S x0) ∧ g.ds = []
def D1 (K : T1) (g : Env) (h : H) : Prop := nilDs g.ds (vStr (g.v 0) fun s5 => K s5 h)
theorem D1_ok {K : T1} {g : Env} {h : H} (hq : D1 K g h) : ∃ (x0 : List UInt8), E1 g x0 ∧ K x0 h := by
  obtain ⟨hd, hq⟩ := nilDs_ok hq
  obtain ⟨y7, e6, q8⟩ := vStr_ok hq
  exact ⟨y7, ⟨e6, hd⟩, q8⟩
abbrev n1 (x0 : List UInt8) (Kn : T0) (Kr : T0) (h : H) : Prop :=
  SemH Tryd.prog (convert 9 24 (S x0)) h fun v9 h10 => vSlice v9 fun s11b s11n s11c => HCalls Tryd.prog 32 ⟨[(.slice s11b s11n s11c)]⟩ h10 fun v12 h13 => vStr v12 fun s14 => Spl (s14 = x0) (Kr true h13) (Kr false h13)
theorem n1_ok (x0 : List UInt8) (Kn : T0) (Kr : T0) (g : Env) (hg : E1 g x0) (h : H) (hS : n1 x0 Kn Kr h) : wpC none Tryd.prog 8 code (Q0 Kn Kr) g h := by
  obtain ⟨hg0, hds⟩ := hg
  refine wpC_of_wpx (by kernel_rfl) (by kernel_rfl) (g' := (⟨g.v, []⟩ : Env).upd (some 0) (S x0)) (by rw [env_ds hds, upd_self hg0]) ?_
  have e : (n1 x0 Kn Kr h) = wpx none Tryd.prog 8 code (Q0 Kn Kr) ((⟨g.v, []⟩ : Env).upd (some 0) (S x0)) h := by kernel_rfl
  exact e ▸ hS
/-- WHAT tympan/tympanref01.Right ASKS -/
abbrev asks (x0 : List UInt8) (K : Value → H → Prop) (h : H) : Prop := n1 x0 (fun y2 h => K (.bool y2) h) (fun y2 h => K (.bool y2) h) h
theorem ok (x0 : List UInt8) (K : Value → H → Prop) (h : H) (hS : asks x0 K h) : HCalls Tryd.prog 39 ⟨[(S x0)]⟩ h K := by
  refine calls_of_wpC (c := code) Tryd.func39 (by kernel_rfl) (Nat.le_of_ble_eq_true (by kernel_rfl)) ?_
  refine (n1_ok x0 (fun y2 h => K (.bool y2) h) (fun y2 h => K (.bool y2) h) (env0 [(S x0)]) ⟨rfl, rfl⟩ h hS).mono ?_
  intro e g' h' hq
  cases e with
  | normal =>
    have hq : D0 (fun y2 h => K (.bool y2) h) g' h' := hq
    obtain ⟨y2, ⟨hg2, hd⟩, hq⟩ := D0_ok hq
    show leaveX g'.ds h' _
    rw [hd]
    show K (g'.v 2) h'
    rw [hg2]
    exact hq
  | ret =>
    have hq : D0 (fun y2 h => K (.bool y2) h) g' h' := hq
    obtain ⟨y2, ⟨hg2, hd⟩, hq⟩ := D0_ok hq
    show leaveX g'.ds h' _
    rw [hd]
    show K (g'.v 2) h'
    rw [hg2]
    exact hq
  | _ => exact hq
end Sx.r01_Right

/-! ### tympan/tympanref01.front -/
namespace Sx.r01_front
noncomputable def code : Code := bodyOf Tryd.f43
abbrev T0 := Int → Bool → H → Prop
def E0 (g : Env) (x2 : Int) (x3 : Bool) : Prop := g.v 2 = (.int .i64 x2) ∧ g.v 3 = (.bool x3) ∧ g.ds = []
def D0 (K : T0) (g : Env) (h : H) : Prop := nilDs g.ds (vInt .i64 (g.v 2) fun i1 => vBool (g.v 3) fun b2 => K i1 b2 h)
theorem D0_ok {K : T0} {g : Env} {h : H} (hq : D0 K g h) : ∃ (x2 : Int) (x3 : Bool), E0 g x2 x3 ∧ K x2 x3 h := by
  obtain ⟨hd, hq⟩ := nilDs_ok hq
  obtain ⟨y4, e3, q5⟩ := vInt_ok hq
  obtain ⟨y7, e6, q8⟩ := vBool_ok q5
  exact ⟨y4, y7, ⟨e3, e6, hd⟩, q8⟩
def Q0 (Kn : T0) (Kr : T0) : XPost
  | .normal, g, h => D0 Kn g h
  | .ret, g, h => D0 Kr g h
  | _, _, _ => False
abbrev T1 := (Option Addr) → Nat → Nat → H → Prop
def E1 (g : Env) (x0b : Option Addr) (x0n : Nat) (x0c : Nat) : Prop := g.v 0 = (.slice x0b x0n x0c) ∧ g.ds = []
def D1 (K : T1) (g : Env) (h : H) : Prop := nilDs g.ds (vSlice (g.v 0) fun s9b s9n s9c => K s9b s9n s9c h)
theorem D1_ok {K : T1} {g : Env} {h : H} (hq : D1 K g h) : ∃ (x0b : Option Addr) (x0n : Nat) (x0c : Nat), E1 g x0b x0n x0c ∧ K x0b x0n x0c h := by
  obtain ⟨hd, hq⟩ := nilDs_ok hq
  obtain ⟨y11b, y11n, y11c, e10, q12⟩ := vSlice_ok hq
  exact ⟨y11b, y11n, y11c, ⟨e10, hd⟩, q12⟩
noncomputable def n1_c1 : Code := cFst code
noncomputable def n1_c2 : Code := cSnd code
noncomputable def n2_c1 : Code := cFst n1_c2
noncomputable def n2_c2 : Code := cSnd n1_c2
abbrev T2 := (Option Addr) → Nat → Nat → Int → H → Prop
def E2 (g : Env) (x0b : Option Addr) (x0n : Nat) (x0c : Nat) (x4 : Int) : Prop := g.v 0 = (.slice x0b x0n x0c) ∧ g.v 4 = (.int .i64 x4) ∧ g.ds = []
def D2 (K : T2) (g : Env) (h : H) : Prop := nilDs g.ds (vSlice (g.v 0) fun s13b s13n s13c => vInt .i64 (g.v 4) fun i14 => K s13b s13n s13c i14 h)
theorem D2_ok {K : T2} {g : Env} {h : H} (hq : D2 K g h) : ∃ (x0b : Option Addr) (x0n : Nat) (x0c : Nat) (x4 : Int), E2 g x0b x0n x0c x4 ∧ K x0b x0n x0c x4 h := by
  obtain ⟨hd, hq⟩ := nilDs_ok hq
  obtain ⟨y16b, y16n, y16c, e15, q17⟩ := vSlice_ok hq
  obtain ⟨y19, e18, q20⟩ := vInt_ok q17
  exact ⟨y16b, y16n, y16c, y19, ⟨e15, e18, hd⟩, q20⟩
noncomputable def n3_c1 : Code := cFst n2_c2
noncomputable def n3_c2 : Code := cSnd n2_c2
noncomputable def n4_c1 : Code := cFst n3_c2
noncomputable def n4_c2 : Code := cSnd n3_c2
abbrev T3 := (Option Addr) → Nat → Nat → Int → Int → H → Prop
def E3 (g : Env) (x0b : Option Addr) (x0n : Nat) (x0c : Nat) (x4 : Int) (x5 : Int) : Prop := g.v 0 = (.slice x0b x0n x0c) ∧ g.v 4 = (.int .i64 x4) ∧ g.v 5 = (.int .i64 x5) ∧ g.ds = []
def D3 (K : T3) (g : Env) (h : H) : Prop := nilDs g.ds (vSlice (g.v 0) fun s21b s21n s21c => vInt .i64 (g.v 4) fun i22 => vInt .i64 (g.v 5) fun i23 => K s21b s21n s21c i22 i23 h)
theorem D3_ok {K : T3} {g : Env} {h : H} (hq : D3 K g h) : ∃ (x0b : Option Addr) (x0n : Nat) (x0c : Nat) (x4 : Int) (x5 : Int), E3 g x0b x0n x0c x4 x5 ∧ K x0b x0n x0c x4 x5 h := by
  obtain ⟨hd, hq⟩ := nilDs_ok hq
  obtain ⟨y25b, y25n, y25c, e24, q26⟩ := vSlice_ok hq
  obtain ⟨y28, e27, q29⟩ := vInt_ok q26
  obtain ⟨y31, e30, q32⟩ := vInt_ok q29
  exact ⟨y25b, y25n, y25c, y28, y31, ⟨e24, e27, e30, hd⟩, q32⟩
noncomputable def n5_c1 : Code := cFst n4_c2
noncomputable def n5_c2 : Code := cSnd n4_c2
abbrev T4 := Int → Int → H → Prop
def E4 (g : Env) (x4 : Int) (x5 : Int) : Prop := g.v 4 = (.int .i64 x4) ∧ g.v 5 = (.int .i64 x5) ∧ g.ds = []
def D4 (K : T4) (g : Env) (h : H) : Prop := nilDs g.ds (vInt .i64 (g.v 4) fun i33 => vInt .i64 (g.v 5) fun i34 => K i33 i34 h)
theorem D4_ok {K : T4} {g : Env} {h : H} (hq : D4 K g h) : ∃ (x4 : Int) (x5 : Int), E4 g x4 x5 ∧ K x4 x5 h := by
  obtain ⟨hd, hq⟩ := nilDs_ok hq
  obtain ⟨y36, e35, q37⟩ := vInt_ok hq
  obtain ⟨y39, e38, q40⟩ := vInt_ok q37
  exact ⟨y36, y39, ⟨e35, e38, hd⟩, q40⟩
abbrev n6 (x4 : Int) (x5 : Int) (Kn : T0) (Kr : T0) (h : H) : Prop :=
  Spl (x5 = x4) (Kr x5 true h) (Kr x5 false h)
theorem n6_ok (x4 : Int) (x5 : Int) (Kn : T0) (Kr : T0) (g : Env) (hg : E4 g x4 x5) (h : H) (hS : n6 x4 x5 Kn Kr h) : wpC none Tryd.prog 58 n5_c2 (Q0 Kn Kr) g h := by
  obtain ⟨hg4, hg5, hds⟩ := hg
  refine wpC_of_wpx (by kernel_rfl) (by kernel_rfl) (g' := ((⟨g.v, []⟩ : Env).upd (some 4) (.int .i64 x4)).upd (some 5) (.int .i64 x5)) (by rw [env_ds hds, upd_self hg4, upd_self hg5]) ?_
  have e : (n6 x4 x5 Kn Kr h) = wpx none Tryd.prog 58 n5_c2 (Q0 Kn Kr) (((⟨g.v, []⟩ : Env).upd (some 4) (.int .i64 x4)).upd (some 5) (.int .i64 x5)) h := by kernel_rfl
  exact e ▸ hS
def Q1 (Kn : T4) (Kr : T0) : XPost
  | .normal, g, h => D4 Kn g h
  | .ret, g, h => D0 Kr g h
  | _, _, _ => False
noncomputable def n7_c1 : Code := cFst n5_c1
def Q2 (Kn : T4) (Ke0 : T4) (Kr : T0) : XPost
  | .normal, g, h => D4 Kn g h
  | .ret, g, h => D0 Kr g h
  | .exit id, g, h => cond (Nat.beq id 0) (D4 Ke0 g h) (False)
  | _, _, _ => False
noncomputable def n8_c1 : Code := cFst n7_c1
def Q3 (Kn : T3) (Ke0 : T4) (Kr : T0) : XPost
  | .normal, g, h => D3 Kn g h
  | .ret, g, h => D0 Kr g h
  | .exit id, g, h => cond (Nat.beq id 0) (D4 Ke0 g h) (False)
  | _, _, _ => False
noncomputable def n9_c1 : Code := cFst n8_c1
noncomputable def n9_c2 : Code := cSnd n8_c1
noncomputable def n10_c1 : Code := cFst n9_c2
def Q4 (Kn : T3) (Ke1 : T3) (Ke0 : T4) (Kr : T0) : XPost
  | .normal, g, h => D3 Kn g h
  | .ret, g, h => D0 Kr g h
  | .exit id, g, h => cond (Nat.beq id 1) (D3 Ke1 g h) (cond (Nat.beq id 0) (D4 Ke0 g h) (False))
  | _, _, _ => False
noncomputable def n11_c1 : Code := cFst n10_c1
noncomputable def n11_c2 : Code := cSnd n10_c1
abbrev n12 (x0b : Option Addr) (x0n : Nat) (x0c : Nat) (x4 : Int) (x5 : Int) (Kn : T3) (Ke1 : T3) (Ke0 : T4) (Kr : T0) (h : H) : Prop :=
  Rng .i64 (x5 + (1 : Int)) ∧ (Kn x0b x0n x0c x4 (x5 + (1 : Int)) h)
theorem n12_ok (x0b : Option Addr) (x0n : Nat) (x0c : Nat) (x4 : Int) (x5 : Int) (Kn : T3) (Ke1 : T3) (Ke0 : T4) (Kr : T0) (g : Env) (hg : E3 g x0b x0n x0c x4 x5) (h : H) (hS : n12 x0b x0n x0c x4 x5 Kn Ke1 Ke0 Kr h) : wpC none Tryd.prog 58 n11_c2 (Q4 Kn Ke1 Ke0 Kr) g h := by
  obtain ⟨hg0, hg4, hg5, hds⟩ := hg
  refine wpC_of_wpx (by kernel_rfl) (by kernel_rfl) (g' := (((⟨g.v, []⟩ : Env).upd (some 0) (.slice x0b x0n x0c)).upd (some 4) (.int .i64 x4)).upd (some 5) (.int .i64 x5)) (by rw [env_ds hds, upd_self hg0, upd_self hg4, upd_self hg5]) ?_
  have e : (n12 x0b x0n x0c x4 x5 Kn Ke1 Ke0 Kr h) = wpx none Tryd.prog 58 n11_c2 (Q4 Kn Ke1 Ke0 Kr) ((((⟨g.v, []⟩ : Env).upd (some 0) (.slice x0b x0n x0c)).upd (some 4) (.int .i64 x4)).upd (some 5) (.int .i64 x5)) h := by kernel_rfl
  exact e ▸ hS
noncomputable def n13_c1 : Code := cFst n11_c1
noncomputable def n13_c2 : Code := cSnd n11_c1
abbrev T5 := (Option Addr) → Nat → Nat → Int → Int → Bool → H → Prop
def E5 (g : Env) (x0b : Option Addr) (x0n : Nat) (x0c : Nat) (x4 : Int) (x5 : Int) (x50 : Bool) : Prop := g.v 0 = (.slice x0b x0n x0c) ∧ g.v 4 = (.int .i64 x4) ∧ g.v 5 = (.int .i64 x5) ∧ g.v 50 = (.bool x50) ∧ g.ds = []
def D5 (K : T5) (g : Env) (h : H) : Prop := nilDs g.ds (vSlice (g.v 0) fun s41b s41n s41c => vInt .i64 (g.v 4) fun i42 => vInt .i64 (g.v 5) fun i43 => vBool (g.v 50) fun b44 => K s41b s41n s41c i42 i43 b44 h)
theorem D5_ok {K : T5} {g : Env} {h : H} (hq : D5 K g h) : ∃ (x0b : Option Addr) (x0n : Nat) (x0c : Nat) (x4 : Int) (x5 : Int) (x50 : Bool), E5 g x0b x0n x0c x4 x5 x50 ∧ K x0b x0n x0c x4 x5 x50 h := by
  obtain ⟨hd, hq⟩ := nilDs_ok hq
  obtain ⟨y46b, y46n, y46c, e45, q47⟩ := vSlice_ok hq
  obtain ⟨y49, e48, q50⟩ := vInt_ok q47
  obtain ⟨y52, e51, q53⟩ := vInt_ok q50
  obtain ⟨y55, e54, q56⟩ := vBool_ok q53
  exact ⟨y46b, y46n, y46c, y49, y52, y55, ⟨e45, e48, e51, e54, hd⟩, q56⟩
abbrev n14 (x0b : Option Addr) (x0n : Nat) (x0c : Nat) (x4 : Int) (x5 : Int) (x50 : Bool) (Kn : T3) (Ke1 : T3) (Ke0 : T4) (Kr : T0) (h : H) : Prop :=
  cond x50 (Kr x5 false h) (Kn x0b x0n x0c x4 x5 h)
theorem n14_ok (x0b : Option Addr) (x0n : Nat) (x0c : Nat) (x4 : Int) (x5 : Int) (x50 : Bool) (Kn : T3) (Ke1 : T3) (Ke0 : T4) (Kr : T0) (g : Env) (hg : E5 g x0b x0n x0c x4 x5 x50) (h : H) (hS : n14 x0b x0n x0c x4 x5 x50 Kn Ke1 Ke0 Kr h) : wpC none Tryd.prog 58 n13_c2 (Q4 Kn Ke1 Ke0 Kr) g h := by
  obtain ⟨hg0, hg4, hg5, hg50, hds⟩ := hg
  refine wpC_of_wpx (by kernel_rfl) (by kernel_rfl) (g' := ((((⟨g.v, []⟩ : Env).upd (some 0) (.slice x0b x0n x0c)).upd (some 4) (.int .i64 x4)).upd (some 5) (.int .i64 x5)).upd (some 50) (.bool x50)) (by rw [env_ds hds, upd_self hg0, upd_self hg4, upd_self hg5, upd_self hg50]) ?_
  have e : (n14 x0b x0n x0c x4 x5 x50 Kn Ke1 Ke0 Kr h) = wpx none Tryd.prog 58 n13_c2 (Q4 Kn Ke1 Ke0 Kr) (((((⟨g.v, []⟩ : Env).upd (some 0) (.slice x0b x0n x0c)).upd (some 4) (.int .i64 x4)).upd (some 5) (.int .i64 x5)).upd (some 50) (.bool x50)) h := by kernel_rfl
  exact e ▸ hS
def Q5 (Kn : T5) (Ke1 : T3) (Ke0 : T4) (Kr : T0) : XPost
  | .normal, g, h => D5 Kn g h
  | .ret, g, h => D0 Kr g h
  | .exit id, g, h => cond (Nat.beq id 1) (D3 Ke1 g h) (cond (Nat.beq id 0) (D4 Ke0 g h) (False))
  | _, _, _ => False
abbrev n13 (x0b : Option Addr) (x0n : Nat) (x0c : Nat) (x4 : Int) (x5 : Int) (Kn : T3) (Ke1 : T3) (Ke0 : T4) (Kr : T0) (h : H) : Prop :=
  Spl (x5 = (1 : Int)) ((0 ≤ (0 : Int) ∧ (0 : Int) < (x0n : Int)) ∧ (vSome x0b fun a57 => ∃ i58, cell h (a57.add (Int.toNat (0 : Int) * 1)) = some (.int .u8 i58) ∧ ((0 ≤ (1 : Int) ∧ (1 : Int) < (x0n : Int)) ∧ (vSome x0b fun a59 => ∃ i60, cell h (a59.add (Int.toNat (1 : Int) * 1)) = some (.int .u8 i60) ∧ (HCalls Tryd.prog 50 ⟨[(.int .u8 i58), (.int .u8 i60)]⟩ h fun v61 h62 => vBool v61 fun b63 => cond b63 (Spl (x5 > (1 : Int)) ((0 ≤ x5 ∧ x5 < (x0n : Int)) ∧ (vSome x0b fun a64 => ∃ i65, cell h62 (a64.add (Int.toNat x5 * 1)) = some (.int .u8 i65) ∧ (Spl (i65 < (128 : Int)) (n14 x0b x0n x0c x4 x5 true Kn Ke1 Ke0 Kr h62) ((0 ≤ x5 ∧ x5 < (x0n : Int)) ∧ (vSome x0b fun a66 => ∃ i67, cell h62 (a66.add (Int.toNat x5 * 1)) = some (.int .u8 i67) ∧ (Spl (i67 > (191 : Int)) (n14 x0b x0n x0c x4 x5 true Kn Ke1 Ke0 Kr h62) (n14 x0b x0n x0c x4 x5 false Kn Ke1 Ke0 Kr h62))))))) (n14 x0b x0n x0c x4 x5 false Kn Ke1 Ke0 Kr h62)) (n14 x0b x0n x0c x4 x5 true Kn Ke1 Ke0 Kr h62)))))) (Spl (x5 > (1 : Int)) ((0 ≤ x5 ∧ x5 < (x0n : Int)) ∧ (vSome x0b fun a68 => ∃ i69, cell h (a68.add (Int.toNat x5 * 1)) = some (.int .u8 i69) ∧ (Spl (i69 < (128 : Int)) (n14 x0b x0n x0c x4 x5 true Kn Ke1 Ke0 Kr h) ((0 ≤ x5 ∧ x5 < (x0n : Int)) ∧ (vSome x0b fun a70 => ∃ i71, cell h (a70.add (Int.toNat x5 * 1)) = some (.int .u8 i71) ∧ (Spl (i71 > (191 : Int)) (n14 x0b x0n x0c x4 x5 true Kn Ke1 Ke0 Kr h) (n14 x0b x0n x0c x4 x5 false Kn Ke1 Ke0 Kr h))))))) (n14 x0b x0n x0c x4 x5 false Kn Ke1 Ke0 Kr h))
theorem n13_ok (x0b : Option Addr) (x0n : Nat) (x0c : Nat) (x4 : Int) (x5 : Int) (Kn : T3) (Ke1 : T3) (Ke0 : T4) (Kr : T0) (g : Env) (hg : E3 g x0b x0n x0c x4 x5) (h : H) (hS : n13 x0b x0n x0c x4 x5 Kn Ke1 Ke0 Kr h) : wpC none Tryd.prog 58 n11_c1 (Q4 Kn Ke1 Ke0 Kr) g h := by
  obtain ⟨hg0, hg4, hg5, hds⟩ := hg
  refine wpC_seq' (x := n13_c1) (y := n13_c2) (Q' := (Q5 (fun z0b z0n z0c z4 z5 z50 h => n14 z0b z0n z0c z4 z5 z50 Kn Ke1 Ke0 Kr h) Ke1 Ke0 Kr)) (by kernel_rfl) ?_ ?_
  · refine wpC_of_wpx (by kernel_rfl) (by kernel_rfl) (g' := (((⟨g.v, []⟩ : Env).upd (some 0) (.slice x0b x0n x0c)).upd (some 4) (.int .i64 x4)).upd (some 5) (.int .i64 x5)) (by rw [env_ds hds, upd_self hg0, upd_self hg4, upd_self hg5]) ?_
    have e : (n13 x0b x0n x0c x4 x5 Kn Ke1 Ke0 Kr h) = wpx none Tryd.prog 58 n13_c1 (Q5 (fun z0b z0n z0c z4 z5 z50 h => n14 z0b z0n z0c z4 z5 z50 Kn Ke1 Ke0 Kr h) Ke1 Ke0 Kr) ((((⟨g.v, []⟩ : Env).upd (some 0) (.slice x0b x0n x0c)).upd (some 4) (.int .i64 x4)).upd (some 5) (.int .i64 x5)) h := by kernel_rfl
    exact e ▸ hS
  · intro e g' h' hq
    cases e with
    | normal =>
      have hq : D5 (fun z0b z0n z0c z4 z5 z50 h => n14 z0b z0n z0c z4 z5 z50 Kn Ke1 Ke0 Kr h) g' h' := hq
      obtain ⟨y0b, y0n, y0c, y4, y5, y50, hg', hq⟩ := D5_ok hq
      exact n14_ok y0b y0n y0c y4 y5 y50 Kn Ke1 Ke0 Kr g' hg' h' hq
    | _ => exact hq
abbrev n11 (x0b : Option Addr) (x0n : Nat) (x0c : Nat) (x4 : Int) (x5 : Int) (Kn : T3) (Ke1 : T3) (Ke0 : T4) (Kr : T0) (h : H) : Prop := n13 x0b x0n x0c x4 x5 (fun z0b z0n z0c z4 z5 h => n12 z0b z0n z0c z4 z5 Kn Ke1 Ke0 Kr h) Ke1 Ke0 Kr h
theorem n11_ok (x0b : Option Addr) (x0n : Nat) (x0c : Nat) (x4 : Int) (x5 : Int) (Kn : T3) (Ke1 : T3) (Ke0 : T4) (Kr : T0) (g : Env) (hg : E3 g x0b x0n x0c x4 x5) (h : H) (hS : n11 x0b x0n x0c x4 x5 Kn Ke1 Ke0 Kr h) : wpC none Tryd.prog 58 n10_c1 (Q4 Kn Ke1 Ke0 Kr) g h := by
  refine wpC_seq' (x := n11_c1) (y := n11_c2) (by kernel_rfl) (n13_ok x0b x0n x0c x4 x5 (fun z0b z0n z0c z4 z5 h => n12 z0b z0n z0c z4 z5 Kn Ke1 Ke0 Kr h) Ke1 Ke0 Kr g hg h hS) ?_
  intro e g' h' hq
  cases e with
  | normal =>
    have hq : D3 (fun z0b z0n z0c z4 z5 h => n12 z0b z0n z0c z4 z5 Kn Ke1 Ke0 Kr h) g' h' := hq
    obtain ⟨y0b, y0n, y0c, y4, y5, hg', hq⟩ := D3_ok hq
    exact n12_ok y0b y0n y0c y4 y5 Kn Ke1 Ke0 Kr g' hg' h' hq
  | _ => exact hq
abbrev n10 (x0b : Option Addr) (x0n : Nat) (x0c : Nat) (x4 : Int) (x5 : Int) (Kn : T3) (Ke0 : T4) (Kr : T0) (h : H) : Prop := n11 x0b x0n x0c x4 x5 Kn Kn Ke0 Kr h
theorem n10_ok (x0b : Option Addr) (x0n : Nat) (x0c : Nat) (x4 : Int) (x5 : Int) (Kn : T3) (Ke0 : T4) (Kr : T0) (g : Env) (hg : E3 g x0b x0n x0c x4 x5) (h : H) (hS : n10 x0b x0n x0c x4 x5 Kn Ke0 Kr h) : wpC none Tryd.prog 58 n9_c2 (Q3 Kn Ke0 Kr) g h := by
  refine wpC_block' (id := 1) (x := n10_c1) (by kernel_rfl) (n11_ok x0b x0n x0c x4 x5 Kn Kn Ke0 Kr g hg h hS) ?_
  intro e g' h' hq
  cases e <;> exact hq
abbrev n9 (x0b : Option Addr) (x0n : Nat) (x0c : Nat) (x4 : Int) (x5 : Int) (Kn : T3) (Ke0 : T4) (Kr : T0) (h : H) : Prop :=
  Spl (x5 < x4) (Spl (x5 < (x0n : Int)) (n10 x0b x0n x0c x4 x5 Kn Ke0 Kr h) (Ke0 x4 x5 h)) (Ke0 x4 x5 h)
theorem n9_ok (x0b : Option Addr) (x0n : Nat) (x0c : Nat) (x4 : Int) (x5 : Int) (Kn : T3) (Ke0 : T4) (Kr : T0) (g : Env) (hg : E3 g x0b x0n x0c x4 x5) (h : H) (hS : n9 x0b x0n x0c x4 x5 Kn Ke0 Kr h) : wpC none Tryd.prog 58 n8_c1 (Q3 Kn Ke0 Kr) g h := by
  obtain ⟨hg0, hg4, hg5, hds⟩ := hg
  refine wpC_seq' (x := n9_c1) (y := n9_c2) (Q' := (Q3 (fun z0b z0n z0c z4 z5 h => n10 z0b z0n z0c z4 z5 Kn Ke0 Kr h) Ke0 Kr)) (by kernel_rfl) ?_ ?_
  · refine wpC_of_wpx (by kernel_rfl) (by kernel_rfl) (g' := (((⟨g.v, []⟩ : Env).upd (some 0) (.slice x0b x0n x0c)).upd (some 4) (.int .i64 x4)).upd (some 5) (.int .i64 x5)) (by rw [env_ds hds, upd_self hg0, upd_self hg4, upd_self hg5]) ?_
    have e : (n9 x0b x0n x0c x4 x5 Kn Ke0 Kr h) = wpx none Tryd.prog 58 n9_c1 (Q3 (fun z0b z0n z0c z4 z5 h => n10 z0b z0n z0c z4 z5 Kn Ke0 Kr h) Ke0 Kr) ((((⟨g.v, []⟩ : Env).upd (some 0) (.slice x0b x0n x0c)).upd (some 4) (.int .i64 x4)).upd (some 5) (.int .i64 x5)) h := by kernel_rfl
    exact e ▸ hS
  · intro e g' h' hq
    cases e with
    | normal =>
      have hq : D3 (fun z0b z0n z0c z4 z5 h => n10 z0b z0n z0c z4 z5 Kn Ke0 Kr h) g' h' := hq
      obtain ⟨y0b, y0n, y0c, y4, y5, hg', hq⟩ := D3_ok hq
      exact n10_ok y0b y0n y0c y4 y5 Kn Ke0 Kr g' hg' h' hq
    | _ => exact hq
def n8_L (Kn : T4) (Ke0 : T4) (Kr : T0) : Nat → (Option Addr) → Nat → Nat → Int → Int → H → Prop
  | 0 => fun _ _ _ _ _ _ => False
  | N + 1 => fun x0b x0n x0c x4 x5 h => n9 x0b x0n x0c x4 x5 (fun z0b z0n z0c z4 z5 h => n8_L Kn Ke0 Kr N z0b z0n z0c z4 z5 h) Ke0 Kr h
abbrev n8 (x0b : Option Addr) (x0n : Nat) (x0c : Nat) (x4 : Int) (x5 : Int) (Kn : T4) (Ke0 : T4) (Kr : T0) (h : H) : Prop := ∃ N, n8_L Kn Ke0 Kr N x0b x0n x0c x4 x5 h
theorem n8_ok (x0b : Option Addr) (x0n : Nat) (x0c : Nat) (x4 : Int) (x5 : Int) (Kn : T4) (Ke0 : T4) (Kr : T0) (g : Env) (hg : E3 g x0b x0n x0c x4 x5) (h : H) (hS : n8 x0b x0n x0c x4 x5 Kn Ke0 Kr h) : wpC none Tryd.prog 58 n7_c1 (Q2 Kn Ke0 Kr) g h := by
  obtain ⟨N0, hS⟩ := hS
  refine wpC_loop' (x := n8_c1) (by kernel_rfl) (fun k g h => ∃ (x0b : Option Addr) (x0n : Nat) (x0c : Nat) (x4 : Int) (x5 : Int), E3 g x0b x0n x0c x4 x5 ∧ n8_L Kn Ke0 Kr k x0b x0n x0c x4 x5 h) (fun g h hr => ?_) (fun N g h hr => ?_) N0 ⟨x0b, x0n, x0c, x4, x5, hg, hS⟩
  · obtain ⟨x0b, x0n, x0c, x4, x5, hg, hS⟩ := hr
    exact hS.elim
  · obtain ⟨x0b, x0n, x0c, x4, x5, hg, hS⟩ := hr
    refine (n9_ok x0b x0n x0c x4 x5 (fun z0b z0n z0c z4 z5 h => n8_L Kn Ke0 Kr N z0b z0n z0c z4 z5 h) Ke0 Kr g hg h hS).mono ?_
    intro e g' h' hq
    cases e with
    | normal => exact D3_ok (K := (fun z0b z0n z0c z4 z5 h => n8_L Kn Ke0 Kr N z0b z0n z0c z4 z5 h)) hq
    | _ => exact hq
abbrev n7 (x0b : Option Addr) (x0n : Nat) (x0c : Nat) (x4 : Int) (x5 : Int) (Kn : T4) (Kr : T0) (h : H) : Prop := n8 x0b x0n x0c x4 x5 Kn Kn Kr h
theorem n7_ok (x0b : Option Addr) (x0n : Nat) (x0c : Nat) (x4 : Int) (x5 : Int) (Kn : T4) (Kr : T0) (g : Env) (hg : E3 g x0b x0n x0c x4 x5) (h : H) (hS : n7 x0b x0n x0c x4 x5 Kn Kr h) : wpC none Tryd.prog 58 n5_c1 (Q1 Kn Kr) g h := by
  refine wpC_block' (id := 0) (x := n7_c1) (by kernel_rfl) (n8_ok x0b x0n x0c x4 x5 Kn Kn Kr g hg h hS) ?_
  intro e g' h' hq
  cases e <;> exact hq
abbrev n5 (x0b : Option Addr) (x0n : Nat) (x0c : Nat) (x4 : Int) (x5 : Int) (Kn : T0) (Kr : T0) (h : H) : Prop := n7 x0b x0n x0c x4 x5 (fun z4 z5 h => n6 z4 z5 Kn Kr h) Kr h
theorem n5_ok (x0b : Option Addr) (x0n : Nat) (x0c : Nat) (x4 : Int) (x5 : Int) (Kn : T0) (Kr : T0) (g : Env) (hg : E3 g x0b x0n x0c x4 x5) (h : H) (hS : n5 x0b x0n x0c x4 x5 Kn Kr h) : wpC none Tryd.prog 58 n4_c2 (Q0 Kn Kr) g h := by
  refine wpC_seq' (x := n5_c1) (y := n5_c2) (by kernel_rfl) (n7_ok x0b x0n x0c x4 x5 (fun z4 z5 h => n6 z4 z5 Kn Kr h) Kr g hg h hS) ?_
  intro e g' h' hq
  cases e with
  | normal =>
    have hq : D4 (fun z4 z5 h => n6 z4 z5 Kn Kr h) g' h' := hq
    obtain ⟨y4, y5, hg', hq⟩ := D4_ok hq
    exact n6_ok y4 y5 Kn Kr g' hg' h' hq
  | _ => exact hq
def Q6 (Kn : T3) (Kr : T0) : XPost
  | .normal, g, h => D3 Kn g h
  | .ret, g, h => D0 Kr g h
  | _, _, _ => False
abbrev n4 (x0b : Option Addr) (x0n : Nat) (x0c : Nat) (x4 : Int) (Kn : T0) (Kr : T0) (h : H) : Prop :=
  n5 x0b x0n x0c x4 (1 : Int) Kn Kr h
theorem n4_ok (x0b : Option Addr) (x0n : Nat) (x0c : Nat) (x4 : Int) (Kn : T0) (Kr : T0) (g : Env) (hg : E2 g x0b x0n x0c x4) (h : H) (hS : n4 x0b x0n x0c x4 Kn Kr h) : wpC none Tryd.prog 58 n3_c2 (Q0 Kn Kr) g h := by
  obtain ⟨hg0, hg4, hds⟩ := hg
  refine wpC_seq' (x := n4_c1) (y := n4_c2) (Q' := (Q6 (fun z0b z0n z0c z4 z5 h => n5 z0b z0n z0c z4 z5 Kn Kr h) Kr)) (by kernel_rfl) ?_ ?_
  · refine wpC_of_wpx (by kernel_rfl) (by kernel_rfl) (g' := ((⟨g.v, []⟩ : Env).upd (some 0) (.slice x0b x0n x0c)).upd (some 4) (.int .i64 x4)) (by rw [env_ds hds, upd_self hg0, upd_self hg4]) ?_
    have e : (n4 x0b x0n x0c x4 Kn Kr h) = wpx none Tryd.prog 58 n4_c1 (Q6 (fun z0b z0n z0c z4 z5 h => n5 z0b z0n z0c z4 z5 Kn Kr h) Kr) (((⟨g.v, []⟩ : Env).upd (some 0) (.slice x0b x0n x0c)).upd (some 4) (.int .i64 x4)) h := by kernel_rfl
    exact e ▸ hS
  · intro e g' h' hq
    cases e with
    | normal =>
      have hq : D3 (fun z0b z0n z0c z4 z5 h => n5 z0b z0n z0c z4 z5 Kn Kr h) g' h' := hq
      obtain ⟨y0b, y0n, y0c, y4, y5, hg', hq⟩ := D3_ok hq
      exact n5_ok y0b y0n y0c y4 y5 Kn Kr g' hg' h' hq
    | _ => exact hq
def Q7 (Kn : T2) (Kr : T0) : XPost
  | .normal, g, h => D2 Kn g h
  | .ret, g, h => D0 Kr g h
  | _, _, _ => False
abbrev n3 (x0b : Option Addr) (x0n : Nat) (x0c : Nat) (x4 : Int) (Kn : T0) (Kr : T0) (h : H) : Prop :=
  Spl (x4 = (0 : Int)) (Kr (1 : Int) false h) (n4 x0b x0n x0c x4 Kn Kr h)
theorem n3_ok (x0b : Option Addr) (x0n : Nat) (x0c : Nat) (x4 : Int) (Kn : T0) (Kr : T0) (g : Env) (hg : E2 g x0b x0n x0c x4) (h : H) (hS : n3 x0b x0n x0c x4 Kn Kr h) : wpC none Tryd.prog 58 n2_c2 (Q0 Kn Kr) g h := by
  obtain ⟨hg0, hg4, hds⟩ := hg
  refine wpC_seq' (x := n3_c1) (y := n3_c2) (Q' := (Q7 (fun z0b z0n z0c z4 h => n4 z0b z0n z0c z4 Kn Kr h) Kr)) (by kernel_rfl) ?_ ?_
  · refine wpC_of_wpx (by kernel_rfl) (by kernel_rfl) (g' := ((⟨g.v, []⟩ : Env).upd (some 0) (.slice x0b x0n x0c)).upd (some 4) (.int .i64 x4)) (by rw [env_ds hds, upd_self hg0, upd_self hg4]) ?_
    have e : (n3 x0b x0n x0c x4 Kn Kr h) = wpx none Tryd.prog 58 n3_c1 (Q7 (fun z0b z0n z0c z4 h => n4 z0b z0n z0c z4 Kn Kr h) Kr) (((⟨g.v, []⟩ : Env).upd (some 0) (.slice x0b x0n x0c)).upd (some 4) (.int .i64 x4)) h := by kernel_rfl
    exact e ▸ hS
  · intro e g' h' hq
    cases e with
    | normal =>
      have hq : D2 (fun z0b z0n z0c z4 h => n4 z0b z0n z0c z4 Kn Kr h) g' h' := hq
      obtain ⟨y0b, y0n, y0c, y4, hg', hq⟩ := D2_ok hq
      exact n4_ok y0b y0n y0c y4 Kn Kr g' hg' h' hq
    | _ => exact hq
abbrev n2 (x0b : Option Addr) (x0n : Nat) (x0c : Nat) (Kn : T0) (Kr : T0) (h : H) : Prop :=
  (0 ≤ (0 : Int) ∧ (0 : Int) < (x0n : Int)) ∧ (vSome x0b fun a72 => ∃ i73, cell h (a72.add (Int.toNat (0 : Int) * 1)) = some (.int .u8 i73) ∧ (HCalls Tryd.prog 49 ⟨[(.int .u8 i73)]⟩ h fun v74 h75 => vInt .i64 v74 fun i76 => n3 x0b x0n x0c i76 Kn Kr h75))
theorem n2_ok (x0b : Option Addr) (x0n : Nat) (x0c : Nat) (Kn : T0) (Kr : T0) (g : Env) (hg : E1 g x0b x0n x0c) (h : H) (hS : n2 x0b x0n x0c Kn Kr h) : wpC none Tryd.prog 58 n1_c2 (Q0 Kn Kr) g h := by
  obtain ⟨hg0, hds⟩ := hg
  refine wpC_seq' (x := n2_c1) (y := n2_c2) (Q' := (Q7 (fun z0b z0n z0c z4 h => n3 z0b z0n z0c z4 Kn Kr h) Kr)) (by kernel_rfl) ?_ ?_
  · refine wpC_of_wpx (by kernel_rfl) (by kernel_rfl) (g' := (⟨g.v, []⟩ : Env).upd (some 0) (.slice x0b x0n x0c)) (by rw [env_ds hds, upd_self hg0]) ?_
    have e : (n2 x0b x0n x0c Kn Kr h) = wpx none Tryd.prog 58 n2_c1 (Q7 (fun z0b z0n z0c z4 h => n3 z0b z0n z0c z4 Kn Kr h) Kr) ((⟨g.v, []⟩ : Env).upd (some 0) (.slice x0b x0n x0c)) h := by kernel_rfl
    exact e ▸ hS
  · intro e g' h' hq
    cases e with
    | normal =>
      have hq : D2 (fun z0b z0n z0c z4 h => n3 z0b z0n z0c z4 Kn Kr h) g' h' := hq
      obtain ⟨y0b, y0n, y0c, y4, hg', hq⟩ := D2_ok hq
      exact n3_ok y0b y0n y0c y4 Kn Kr g' hg' h' hq
    | _ => exact hq
def Q8 (Kn : T1) (Kr : T0) : XPost
  | .normal, g, h => D1 Kn g h
  | .ret, g, h => D0 Kr g h
  | _, _, _ => False
abbrev n1 (x0b : Option Addr) (x0n : Nat) (x0c : Nat) (Kn : T0) (Kr : T0) (h : H) : Prop :=
  n2 x0b x0n x0c Kn Kr h
theorem n1_ok (x0b : Option Addr) (x0n : Nat) (x0c : Nat) (Kn : T0) (Kr : T0) (g : Env) (hg : E1 g x0b x0n x0c) (h : H) (hS : n1 x0b x0n x0c Kn Kr h) : wpC none Tryd.prog 58 code (Q0 Kn Kr) g h := by
  obtain ⟨hg0, hds⟩ := hg
  refine wpC_seq' (x := n1_c1) (y := n1_c2) (Q' := (Q8 (fun z0b z0n z0c h => n2 z0b z0n z0c Kn Kr h) Kr)) (by kernel_rfl) ?_ ?_
  · refine wpC_of_wpx (by kernel_rfl) (by kernel_rfl) (g' := (⟨g.v, []⟩ : Env).upd (some 0) (.slice x0b x0n x0c)) (by rw [env_ds hds, upd_self hg0]) ?_
    have e : (n1 x0b x0n x0c Kn Kr h) = wpx none Tryd.prog 58 n1_c1 (Q8 (fun z0b z0n z0c h => n2 z0b z0n z0c Kn Kr h) Kr) ((⟨g.v, []⟩ : Env).upd (some 0) (.slice x0b x0n x0c)) h := by kernel_rfl
    exact e ▸ hS
  · intro e g' h' hq
    cases e with
    | normal =>
      have hq : D1 (fun z0b z0n z0c h => n2 z0b z0n z0c Kn Kr h) g' h' := hq
      obtain ⟨y0b, y0n, y0c, hg', hq⟩ := D1_ok hq
      exact n2_ok y0b y0n y0c Kn Kr g' hg' h' hq
    | _ => exact hq
/-- WHAT tympan/tympanref01.front ASKS -/
abbrev asks (x0b : Option Addr) (x0n : Nat) (x0c : Nat) (K : Value → H → Prop) (h : H) : Prop := n1 x0b x0n x0c (fun y2 y3 h => K (.tuple ⟨[(.int .i64 y2), (.bool y3)]⟩) h) (fun y2 y3 h => K (.tuple ⟨[(.int .i64 y2), (.bool y3)]⟩) h) h
theorem ok (x0b : Option Addr) (x0n : Nat) (x0c : Nat) (K : Value → H → Prop) (h : H) (hS : asks x0b x0n x0c K h) : HCalls Tryd.prog 43 ⟨[(.slice x0b x0n x0c)]⟩ h K := by
  refine calls_of_wpC (c := code) Tryd.func43 (by kernel_rfl) (Nat.le_of_ble_eq_true (by kernel_rfl)) ?_
  refine (n1_ok x0b x0n x0c (fun y2 y3 h => K (.tuple ⟨[(.int .i64 y2), (.bool y3)]⟩) h) (fun y2 y3 h => K (.tuple ⟨[(.int .i64 y2), (.bool y3)]⟩) h) (env0 [(.slice x0b x0n x0c)]) ⟨rfl, rfl⟩ h hS).mono ?_
  intro e g' h' hq
  cases e with
  | normal =>
    have hq : D0 (fun y2 y3 h => K (.tuple ⟨[(.int .i64 y2), (.bool y3)]⟩) h) g' h' := hq
    obtain ⟨y2, y3, ⟨hg2, hg3, hd⟩, hq⟩ := D0_ok hq
    show leaveX g'.ds h' _
    rw [hd]
    show K (.tuple ⟨[(g'.v 2), (g'.v 3)]⟩) h'
    rw [hg2, hg3]
    exact hq
  | ret =>
    have hq : D0 (fun y2 y3 h => K (.tuple ⟨[(.int .i64 y2), (.bool y3)]⟩) h) g' h' := hq
    obtain ⟨y2, y3, ⟨hg2, hg3, hd⟩, hq⟩ := D0_ok hq
    show leaveX g'.ds h' _
    rw [hd]
    show K (.tuple ⟨[(g'.v 2), (g'.v 3)]⟩) h'
    rw [hg2, hg3]
    exact hq
  | _ => exact hq
end Sx.r01_front

/-! ### tympan/tympanref01.many -/
namespace Sx.r01_many
noncomputable def code : Code := bodyOf Tryd.f49
abbrev T0 := Int → H → Prop
def E0 (g : Env) (x2 : Int) : Prop := g.v 2 = (.int .i64 x2) ∧ g.ds = []
def D0 (K : T0) (g : Env) (h : H) : Prop := nilDs g.ds (vInt .i64 (g.v 2) fun i1 => K i1 h)
theorem D0_ok {K : T0} {g : Env} {h : H} (hq : D0 K g h) : ∃ (x2 : Int), E0 g x2 ∧ K x2 h := by
  obtain ⟨hd, hq⟩ := nilDs_ok hq
  obtain ⟨y3, e2, q4⟩ := vInt_ok hq
  exact ⟨y3, ⟨e2, hd⟩, q4⟩
def Q0 (Kn : T0) (Kr : T0) : XPost
  | .normal, g, h => D0 Kn g h
  | .ret, g, h => D0 Kr g h
  | _, _, _ => False
abbrev T1 := Int → H → Prop
def E1 (g : Env) (x0 : Int) : Prop := g.v 0 = (.int .u8 x0) ∧ g.ds = []
def D1 (K : T1) (g : Env) (h : H) : Prop := nilDs g.ds (vInt .u8 (g.v 0) fun i5 => K i5 h)
theorem D1_ok {K : T1} {g : Env} {h : H} (hq : D1 K g h) : ∃ (x0 : Int), E1 g x0 ∧ K x0 h := by
  obtain ⟨hd, hq⟩ := nilDs_ok hq
  obtain ⟨y7, e6, q8⟩ := vInt_ok hq
  exact ⟨y7, ⟨e6, hd⟩, q8⟩
noncomputable def n1_c1 : Code := cFst code
noncomputable def n1_c2 : Code := cSnd code
noncomputable def n2_c1 : Code := cFst n1_c2
noncomputable def n2_c2 : Code := cSnd n1_c2
abbrev T2 := H → Prop
def E2 (g : Env)  : Prop := g.ds = []
def D2 (K : T2) (g : Env) (h : H) : Prop := nilDs g.ds (K h)
theorem D2_ok {K : T2} {g : Env} {h : H} (hq : D2 K g h) : E2 g  ∧ K  h := by
  obtain ⟨hd, hq⟩ := nilDs_ok hq
  skip
  exact ⟨hd, hq⟩
abbrev n3  (Kn : T0) (Kr : T0) (h : H) : Prop :=
  Kr (0 : Int) h
theorem n3_ok  (Kn : T0) (Kr : T0) (g : Env) (hg : E2 g ) (h : H) (hS : n3  Kn Kr h) : wpC none Tryd.prog 27 n2_c2 (Q0 Kn Kr) g h := by
  have hds : g.ds = [] := hg
  refine wpC_of_wpx (by kernel_rfl) (by kernel_rfl) (g' := ⟨g.v, []⟩) (by rw [env_ds hds]) ?_
  have e : (n3  Kn Kr h) = wpx none Tryd.prog 27 n2_c2 (Q0 Kn Kr) (⟨g.v, []⟩) h := by kernel_rfl
  exact e ▸ hS
def Q1 (Kn : T2) (Kr : T0) : XPost
  | .normal, g, h => D2 Kn g h
  | .ret, g, h => D0 Kr g h
  | _, _, _ => False
noncomputable def n4_c1 : Code := cFst n2_c1
def Q2 (Kn : T2) (Ke0 : T2) (Kr : T0) : XPost
  | .normal, g, h => D2 Kn g h
  | .ret, g, h => D0 Kr g h
  | .exit id, g, h => cond (Nat.beq id 0) (D2 Ke0 g h) (False)
  | _, _, _ => False
noncomputable def n5_c1 : Code := cFst n4_c1
noncomputable def n5_c2 : Code := cSnd n4_c1
abbrev T3 := Int → Bool → H → Prop
def E3 (g : Env) (x0 : Int) (x3 : Bool) : Prop := g.v 0 = (.int .u8 x0) ∧ g.v 3 = (.bool x3) ∧ g.ds = []
def D3 (K : T3) (g : Env) (h : H) : Prop := nilDs g.ds (vInt .u8 (g.v 0) fun i9 => vBool (g.v 3) fun b10 => K i9 b10 h)
theorem D3_ok {K : T3} {g : Env} {h : H} (hq : D3 K g h) : ∃ (x0 : Int) (x3 : Bool), E3 g x0 x3 ∧ K x0 x3 h := by
  obtain ⟨hd, hq⟩ := nilDs_ok hq
  obtain ⟨y12, e11, q13⟩ := vInt_ok hq
  obtain ⟨y15, e14, q16⟩ := vBool_ok q13
  exact ⟨y12, y15, ⟨e11, e14, hd⟩, q16⟩
noncomputable def n6_c1 : Code := cFst n5_c2
noncomputable def n6_c2 : Code := cSnd n5_c2
abbrev n7  (Kn : T2) (Ke0 : T2) (Kr : T0) (h : H) : Prop :=
  Kr (1 : Int) h
theorem n7_ok  (Kn : T2) (Ke0 : T2) (Kr : T0) (g : Env) (hg : E2 g ) (h : H) (hS : n7  Kn Ke0 Kr h) : wpC none Tryd.prog 27 n6_c1 (Q2 Kn Ke0 Kr) g h := by
  have hds : g.ds = [] := hg
  refine wpC_of_wpx (by kernel_rfl) (by kernel_rfl) (g' := ⟨g.v, []⟩) (by rw [env_ds hds]) ?_
  have e : (n7  Kn Ke0 Kr h) = wpx none Tryd.prog 27 n6_c1 (Q2 Kn Ke0 Kr) (⟨g.v, []⟩) h := by kernel_rfl
  exact e ▸ hS
noncomputable def n8_c1 : Code := cFst n6_c2
noncomputable def n8_c2 : Code := cSnd n6_c2
abbrev T4 := Int → Bool → H → Prop
def E4 (g : Env) (x0 : Int) (x6 : Bool) : Prop := g.v 0 = (.int .u8 x0) ∧ g.v 6 = (.bool x6) ∧ g.ds = []
def D4 (K : T4) (g : Env) (h : H) : Prop := nilDs g.ds (vInt .u8 (g.v 0) fun i17 => vBool (g.v 6) fun b18 => K i17 b18 h)
theorem D4_ok {K : T4} {g : Env} {h : H} (hq : D4 K g h) : ∃ (x0 : Int) (x6 : Bool), E4 g x0 x6 ∧ K x0 x6 h := by
  obtain ⟨hd, hq⟩ := nilDs_ok hq
  obtain ⟨y20, e19, q21⟩ := vInt_ok hq
  obtain ⟨y23, e22, q24⟩ := vBool_ok q21
  exact ⟨y20, y23, ⟨e19, e22, hd⟩, q24⟩
noncomputable def n9_c1 : Code := cFst n8_c2
noncomputable def n9_c2 : Code := cSnd n8_c2
abbrev n10  (Kn : T2) (Ke0 : T2) (Kr : T0) (h : H) : Prop :=
  Kr (2 : Int) h
theorem n10_ok  (Kn : T2) (Ke0 : T2) (Kr : T0) (g : Env) (hg : E2 g ) (h : H) (hS : n10  Kn Ke0 Kr h) : wpC none Tryd.prog 27 n9_c1 (Q2 Kn Ke0 Kr) g h := by
  have hds : g.ds = [] := hg
  refine wpC_of_wpx (by kernel_rfl) (by kernel_rfl) (g' := ⟨g.v, []⟩) (by rw [env_ds hds]) ?_
  have e : (n10  Kn Ke0 Kr h) = wpx none Tryd.prog 27 n9_c1 (Q2 Kn Ke0 Kr) (⟨g.v, []⟩) h := by kernel_rfl
  exact e ▸ hS
noncomputable def n11_c1 : Code := cFst n9_c2
noncomputable def n11_c2 : Code := cSnd n9_c2
abbrev T5 := Int → Bool → H → Prop
def E5 (g : Env) (x0 : Int) (x13 : Bool) : Prop := g.v 0 = (.int .u8 x0) ∧ g.v 13 = (.bool x13) ∧ g.ds = []
def D5 (K : T5) (g : Env) (h : H) : Prop := nilDs g.ds (vInt .u8 (g.v 0) fun i25 => vBool (g.v 13) fun b26 => K i25 b26 h)
theorem D5_ok {K : T5} {g : Env} {h : H} (hq : D5 K g h) : ∃ (x0 : Int) (x13 : Bool), E5 g x0 x13 ∧ K x0 x13 h := by
  obtain ⟨hd, hq⟩ := nilDs_ok hq
  obtain ⟨y28, e27, q29⟩ := vInt_ok hq
  obtain ⟨y31, e30, q32⟩ := vBool_ok q29
  exact ⟨y28, y31, ⟨e27, e30, hd⟩, q32⟩
abbrev n12 (x0 : Int) (x13 : Bool) (Kn : T2) (Ke0 : T2) (Kr : T0) (h : H) : Prop :=
  cond x13 (Kr (3 : Int) h) (Spl (x0 ≥ (240 : Int)) (Spl (x0 ≤ (244 : Int)) (Kr (4 : Int) h) (Kn h)) (Kn h))
theorem n12_ok (x0 : Int) (x13 : Bool) (Kn : T2) (Ke0 : T2) (Kr : T0) (g : Env) (hg : E5 g x0 x13) (h : H) (hS : n12 x0 x13 Kn Ke0 Kr h) : wpC none Tryd.prog 27 n11_c2 (Q2 Kn Ke0 Kr) g h := by
  obtain ⟨hg0, hg13, hds⟩ := hg
  refine wpC_of_wpx (by kernel_rfl) (by kernel_rfl) (g' := ((⟨g.v, []⟩ : Env).upd (some 0) (.int .u8 x0)).upd (some 13) (.bool x13)) (by rw [env_ds hds, upd_self hg0, upd_self hg13]) ?_
  have e : (n12 x0 x13 Kn Ke0 Kr h) = wpx none Tryd.prog 27 n11_c2 (Q2 Kn Ke0 Kr) (((⟨g.v, []⟩ : Env).upd (some 0) (.int .u8 x0)).upd (some 13) (.bool x13)) h := by kernel_rfl
  exact e ▸ hS
def Q3 (Kn : T5) (Ke0 : T2) (Kr : T0) : XPost
  | .normal, g, h => D5 Kn g h
  | .ret, g, h => D0 Kr g h
  | .exit id, g, h => cond (Nat.beq id 0) (D2 Ke0 g h) (False)
  | _, _, _ => False
abbrev n11 (x0 : Int) (Kn : T2) (Ke0 : T2) (Kr : T0) (h : H) : Prop :=
  Spl (x0 ≥ (224 : Int)) (Spl (x0 ≤ (239 : Int)) (n12 x0 true Kn Ke0 Kr h) (n12 x0 false Kn Ke0 Kr h)) (n12 x0 false Kn Ke0 Kr h)
theorem n11_ok (x0 : Int) (Kn : T2) (Ke0 : T2) (Kr : T0) (g : Env) (hg : E1 g x0) (h : H) (hS : n11 x0 Kn Ke0 Kr h) : wpC none Tryd.prog 27 n9_c2 (Q2 Kn Ke0 Kr) g h := by
  obtain ⟨hg0, hds⟩ := hg
  refine wpC_seq' (x := n11_c1) (y := n11_c2) (Q' := (Q3 (fun z0 z13 h => n12 z0 z13 Kn Ke0 Kr h) Ke0 Kr)) (by kernel_rfl) ?_ ?_
  · refine wpC_of_wpx (by kernel_rfl) (by kernel_rfl) (g' := (⟨g.v, []⟩ : Env).upd (some 0) (.int .u8 x0)) (by rw [env_ds hds, upd_self hg0]) ?_
    have e : (n11 x0 Kn Ke0 Kr h) = wpx none Tryd.prog 27 n11_c1 (Q3 (fun z0 z13 h => n12 z0 z13 Kn Ke0 Kr h) Ke0 Kr) ((⟨g.v, []⟩ : Env).upd (some 0) (.int .u8 x0)) h := by kernel_rfl
    exact e ▸ hS
  · intro e g' h' hq
    cases e with
    | normal =>
      have hq : D5 (fun z0 z13 h => n12 z0 z13 Kn Ke0 Kr h) g' h' := hq
      obtain ⟨y0, y13, hg', hq⟩ := D5_ok hq
      exact n12_ok y0 y13 Kn Ke0 Kr g' hg' h' hq
    | _ => exact hq
abbrev n9 (x0 : Int) (x6 : Bool) (Kn : T2) (Ke0 : T2) (Kr : T0) (h : H) : Prop := cond x6 (n10  Kn Ke0 Kr h) (n11 x0 Kn Ke0 Kr h)
theorem n9_ok (x0 : Int) (x6 : Bool) (Kn : T2) (Ke0 : T2) (Kr : T0) (g : Env) (hg : E4 g x0 x6) (h : H) (hS : n9 x0 x6 Kn Ke0 Kr h) : wpC none Tryd.prog 27 n8_c2 (Q2 Kn Ke0 Kr) g h := by
  obtain ⟨hg0, hg6, hds⟩ := hg
  have hx : evalE 27 g (.tmp 6) = .bool x6 := by
    show cond (Nat.blt 6 27) (g.v 6) undef = _
    rw [hg6]; rfl
  unfold n9 at hS
  refine wpC_cond' (o := .tmp 6) (x := n9_c1) (y := n9_c2) (by kernel_rfl) hx (fun hb => ?_) (fun hb => ?_)
  · subst hb
    exact n10_ok  Kn Ke0 Kr g hds h hS
  · subst hb
    exact n11_ok x0 Kn Ke0 Kr g ⟨hg0, hds⟩ h hS
def Q4 (Kn : T4) (Ke0 : T2) (Kr : T0) : XPost
  | .normal, g, h => D4 Kn g h
  | .ret, g, h => D0 Kr g h
  | .exit id, g, h => cond (Nat.beq id 0) (D2 Ke0 g h) (False)
  | _, _, _ => False
abbrev n8 (x0 : Int) (Kn : T2) (Ke0 : T2) (Kr : T0) (h : H) : Prop :=
  Spl (x0 ≥ (194 : Int)) (Spl (x0 ≤ (223 : Int)) (n9 x0 true Kn Ke0 Kr h) (n9 x0 false Kn Ke0 Kr h)) (n9 x0 false Kn Ke0 Kr h)
theorem n8_ok (x0 : Int) (Kn : T2) (Ke0 : T2) (Kr : T0) (g : Env) (hg : E1 g x0) (h : H) (hS : n8 x0 Kn Ke0 Kr h) : wpC none Tryd.prog 27 n6_c2 (Q2 Kn Ke0 Kr) g h := by
  obtain ⟨hg0, hds⟩ := hg
  refine wpC_seq' (x := n8_c1) (y := n8_c2) (Q' := (Q4 (fun z0 z6 h => n9 z0 z6 Kn Ke0 Kr h) Ke0 Kr)) (by kernel_rfl) ?_ ?_
  · refine wpC_of_wpx (by kernel_rfl) (by kernel_rfl) (g' := (⟨g.v, []⟩ : Env).upd (some 0) (.int .u8 x0)) (by rw [env_ds hds, upd_self hg0]) ?_
    have e : (n8 x0 Kn Ke0 Kr h) = wpx none Tryd.prog 27 n8_c1 (Q4 (fun z0 z6 h => n9 z0 z6 Kn Ke0 Kr h) Ke0 Kr) ((⟨g.v, []⟩ : Env).upd (some 0) (.int .u8 x0)) h := by kernel_rfl
    exact e ▸ hS
  · intro e g' h' hq
    cases e with
    | normal =>
      have hq : D4 (fun z0 z6 h => n9 z0 z6 Kn Ke0 Kr h) g' h' := hq
      obtain ⟨y0, y6, hg', hq⟩ := D4_ok hq
      exact n9_ok y0 y6 Kn Ke0 Kr g' hg' h' hq
    | _ => exact hq
abbrev n6 (x0 : Int) (x3 : Bool) (Kn : T2) (Ke0 : T2) (Kr : T0) (h : H) : Prop := cond x3 (n7  Kn Ke0 Kr h) (n8 x0 Kn Ke0 Kr h)
theorem n6_ok (x0 : Int) (x3 : Bool) (Kn : T2) (Ke0 : T2) (Kr : T0) (g : Env) (hg : E3 g x0 x3) (h : H) (hS : n6 x0 x3 Kn Ke0 Kr h) : wpC none Tryd.prog 27 n5_c2 (Q2 Kn Ke0 Kr) g h := by
  obtain ⟨hg0, hg3, hds⟩ := hg
  have hx : evalE 27 g (.tmp 3) = .bool x3 := by
    show cond (Nat.blt 3 27) (g.v 3) undef = _
    rw [hg3]; rfl
  unfold n6 at hS
  refine wpC_cond' (o := .tmp 3) (x := n6_c1) (y := n6_c2) (by kernel_rfl) hx (fun hb => ?_) (fun hb => ?_)
  · subst hb
    exact n7_ok  Kn Ke0 Kr g hds h hS
  · subst hb
    exact n8_ok x0 Kn Ke0 Kr g ⟨hg0, hds⟩ h hS
def Q5 (Kn : T3) (Ke0 : T2) (Kr : T0) : XPost
  | .normal, g, h => D3 Kn g h
  | .ret, g, h => D0 Kr g h
  | .exit id, g, h => cond (Nat.beq id 0) (D2 Ke0 g h) (False)
  | _, _, _ => False
abbrev n5 (x0 : Int) (Kn : T2) (Ke0 : T2) (Kr : T0) (h : H) : Prop :=
  Spl (x0 < (128 : Int)) (n6 x0 true Kn Ke0 Kr h) (n6 x0 false Kn Ke0 Kr h)
theorem n5_ok (x0 : Int) (Kn : T2) (Ke0 : T2) (Kr : T0) (g : Env) (hg : E1 g x0) (h : H) (hS : n5 x0 Kn Ke0 Kr h) : wpC none Tryd.prog 27 n4_c1 (Q2 Kn Ke0 Kr) g h := by
  obtain ⟨hg0, hds⟩ := hg
  refine wpC_seq' (x := n5_c1) (y := n5_c2) (Q' := (Q5 (fun z0 z3 h => n6 z0 z3 Kn Ke0 Kr h) Ke0 Kr)) (by kernel_rfl) ?_ ?_
  · refine wpC_of_wpx (by kernel_rfl) (by kernel_rfl) (g' := (⟨g.v, []⟩ : Env).upd (some 0) (.int .u8 x0)) (by rw [env_ds hds, upd_self hg0]) ?_
    have e : (n5 x0 Kn Ke0 Kr h) = wpx none Tryd.prog 27 n5_c1 (Q5 (fun z0 z3 h => n6 z0 z3 Kn Ke0 Kr h) Ke0 Kr) ((⟨g.v, []⟩ : Env).upd (some 0) (.int .u8 x0)) h := by kernel_rfl
    exact e ▸ hS
  · intro e g' h' hq
    cases e with
    | normal =>
      have hq : D3 (fun z0 z3 h => n6 z0 z3 Kn Ke0 Kr h) g' h' := hq
      obtain ⟨y0, y3, hg', hq⟩ := D3_ok hq
      exact n6_ok y0 y3 Kn Ke0 Kr g' hg' h' hq
    | _ => exact hq
abbrev n4 (x0 : Int) (Kn : T2) (Kr : T0) (h : H) : Prop := n5 x0 Kn Kn Kr h
theorem n4_ok (x0 : Int) (Kn : T2) (Kr : T0) (g : Env) (hg : E1 g x0) (h : H) (hS : n4 x0 Kn Kr h) : wpC none Tryd.prog 27 n2_c1 (Q1 Kn Kr) g h := by
  refine wpC_block' (id := 0) (x := n4_c1) (by kernel_rfl) (n5_ok x0 Kn Kn Kr g hg h hS) ?_
  intro e g' h' hq
  cases e <;> exact hq
abbrev n2 (x0 : Int) (Kn : T0) (Kr : T0) (h : H) : Prop := n4 x0 (fun  h => n3 Kn Kr h) Kr h
theorem n2_ok (x0 : Int) (Kn : T0) (Kr : T0) (g : Env) (hg : E1 g x0) (h : H) (hS : n2 x0 Kn Kr h) : wpC none Tryd.prog 27 n1_c2 (Q0 Kn Kr) g h := by
  refine wpC_seq' (x := n2_c1) (y := n2_c2) (by kernel_rfl) (n4_ok x0 (fun  h => n3 Kn Kr h) Kr g hg h hS) ?_
  intro e g' h' hq
  cases e with
  | normal =>
    have hq : D2 (fun  h => n3 Kn Kr h) g' h' := hq
    obtain ⟨hg', hq⟩ := D2_ok hq
    exact n3_ok  Kn Kr g' hg' h' hq
  | _ => exact hq
def Q6 (Kn : T1) (Kr : T0) : XPost
  | .normal, g, h => D1 Kn g h
  | .ret, g, h => D0 Kr g h
  | _, _, _ => False
abbrev n1 (x0 : Int) (Kn : T0) (Kr : T0) (h : H) : Prop :=
  n2 x0 Kn Kr h
theorem n1_ok (x0 : Int) (Kn : T0) (Kr : T0) (g : Env) (hg : E1 g x0) (h : H) (hS : n1 x0 Kn Kr h) : wpC none Tryd.prog 27 code (Q0 Kn Kr) g h := by
  obtain ⟨hg0, hds⟩ := hg
  refine wpC_seq' (x := n1_c1) (y := n1_c2) (Q' := (Q6 (fun z0 h => n2 z0 Kn Kr h) Kr)) (by kernel_rfl) ?_ ?_
  · refine wpC_of_wpx (by kernel_rfl) (by kernel_rfl) (g' := (⟨g.v, []⟩ : Env).upd (some 0) (.int .u8 x0)) (by rw [env_ds hds, upd_self hg0]) ?_
    have e : (n1 x0 Kn Kr h) = wpx none Tryd.prog 27 n1_c1 (Q6 (fun z0 h => n2 z0 Kn Kr h) Kr) ((⟨g.v, []⟩ : Env).upd (some 0) (.int .u8 x0)) h := by kernel_rfl
    exact e ▸ hS
  · intro e g' h' hq
    cases e with
    | normal =>
      have hq : D1 (fun z0 h => n2 z0 Kn Kr h) g' h' := hq
      obtain ⟨y0, hg', hq⟩ := D1_ok hq
      exact n2_ok y0 Kn Kr g' hg' h' hq
    | _ => exact hq
/-- WHAT tympan/tympanref01.many ASKS -/
abbrev asks (x0 : Int) (K : Value → H → Prop) (h : H) : Prop := n1 x0 (fun y2 h => K (.int .i64 y2) h) (fun y2 h => K (.int .i64 y2) h) h
theorem ok (x0 : Int) (K : Value → H → Prop) (h : H) (hS : asks x0 K h) : HCalls Tryd.prog 49 ⟨[(.int .u8 x0)]⟩ h K := by
  refine calls_of_wpC (c := code) Tryd.func49 (by kernel_rfl) (Nat.le_of_ble_eq_true (by kernel_rfl)) ?_
  refine (n1_ok x0 (fun y2 h => K (.int .i64 y2) h) (fun y2 h => K (.int .i64 y2) h) (env0 [(.int .u8 x0)]) ⟨rfl, rfl⟩ h hS).mono ?_
  intro e g' h' hq
  cases e with
  | normal =>
    have hq : D0 (fun y2 h => K (.int .i64 y2) h) g' h' := hq
    obtain ⟨y2, ⟨hg2, hd⟩, hq⟩ := D0_ok hq
    show leaveX g'.ds h' _
    rw [hd]
    show K (g'.v 2) h'
    rw [hg2]
    exact hq
  | ret =>
    have hq : D0 (fun y2 h => K (.int .i64 y2) h) g' h' := hq
    obtain ⟨y2, ⟨hg2, hd⟩, hq⟩ := D0_ok hq
    show leaveX g'.ds h' _
    rw [hd]
    show K (g'.v 2) h'
    rw [hg2]
    exact hq
  | _ => exact hq
end Sx.r01_many

/-! ### tympan/tympanref01.second -/
namespace Sx.r01_second
noncomputable def code : Code := bodyOf Tryd.f50
abbrev T0 := Bool → H → Prop
def E0 (g : Env) (x4 : Bool) : Prop := g.v 4 = (.bool x4) ∧ g.ds = []
def D0 (K : T0) (g : Env) (h : H) : Prop := nilDs g.ds (vBool (g.v 4) fun b1 => K b1 h)
theorem D0_ok {K : T0} {g : Env} {h : H} (hq : D0 K g h) : ∃ (x4 : Bool), E0 g x4 ∧ K x4 h := by
  obtain ⟨hd, hq⟩ := nilDs_ok hq
  obtain ⟨y3, e2, q4⟩ := vBool_ok hq
  exact ⟨y3, ⟨e2, hd⟩, q4⟩
def Q0 (Kn : T0) (Kr : T0) : XPost
  | .normal, g, h => D0 Kn g h
  | .ret, g, h => D0 Kr g h
  | _, _, _ => False
abbrev T1 := Int → Int → H → Prop
def E1 (g : Env) (x0 : Int) (x1 : Int) : Prop := g.v 0 = (.int .u8 x0) ∧ g.v 1 = (.int .u8 x1) ∧ g.ds = []
def D1 (K : T1) (g : Env) (h : H) : Prop := nilDs g.ds (vInt .u8 (g.v 0) fun i5 => vInt .u8 (g.v 1) fun i6 => K i5 i6 h)
theorem D1_ok {K : T1} {g : Env} {h : H} (hq : D1 K g h) : ∃ (x0 : Int) (x1 : Int), E1 g x0 x1 ∧ K x0 x1 h := by
  obtain ⟨hd, hq⟩ := nilDs_ok hq
  obtain ⟨y8, e7, q9⟩ := vInt_ok hq
  obtain ⟨y11, e10, q12⟩ := vInt_ok q9
  exact ⟨y8, y11, ⟨e7, e10, hd⟩, q12⟩
noncomputable def n1_c1 : Code := cFst code
noncomputable def n1_c2 : Code := cSnd code
noncomputable def n2_c1 : Code := cFst n1_c2
noncomputable def n2_c2 : Code := cSnd n1_c2
abbrev T2 := Int → H → Prop
def E2 (g : Env) (x1 : Int) : Prop := g.v 1 = (.int .u8 x1) ∧ g.ds = []
def D2 (K : T2) (g : Env) (h : H) : Prop := nilDs g.ds (vInt .u8 (g.v 1) fun i13 => K i13 h)
theorem D2_ok {K : T2} {g : Env} {h : H} (hq : D2 K g h) : ∃ (x1 : Int), E2 g x1 ∧ K x1 h := by
  obtain ⟨hd, hq⟩ := nilDs_ok hq
  obtain ⟨y15, e14, q16⟩ := vInt_ok hq
  exact ⟨y15, ⟨e14, hd⟩, q16⟩
abbrev n3 (x1 : Int) (Kn : T0) (Kr : T0) (h : H) : Prop :=
  Spl (x1 ≥ (128 : Int)) (Spl (x1 ≤ (191 : Int)) (Kr true h) (Kr false h)) (Kr false h)
theorem n3_ok (x1 : Int) (Kn : T0) (Kr : T0) (g : Env) (hg : E2 g x1) (h : H) (hS : n3 x1 Kn Kr h) : wpC none Tryd.prog 47 n2_c2 (Q0 Kn Kr) g h := by
  obtain ⟨hg1, hds⟩ := hg
  refine wpC_of_wpx (by kernel_rfl) (by kernel_rfl) (g' := (⟨g.v, []⟩ : Env).upd (some 1) (.int .u8 x1)) (by rw [env_ds hds, upd_self hg1]) ?_
  have e : (n3 x1 Kn Kr h) = wpx none Tryd.prog 47 n2_c2 (Q0 Kn Kr) ((⟨g.v, []⟩ : Env).upd (some 1) (.int .u8 x1)) h := by kernel_rfl
  exact e ▸ hS
def Q1 (Kn : T2) (Kr : T0) : XPost
  | .normal, g, h => D2 Kn g h
  | .ret, g, h => D0 Kr g h
  | _, _, _ => False
noncomputable def n4_c1 : Code := cFst n2_c1
def Q2 (Kn : T2) (Ke0 : T2) (Kr : T0) : XPost
  | .normal, g, h => D2 Kn g h
  | .ret, g, h => D0 Kr g h
  | .exit id, g, h => cond (Nat.beq id 0) (D2 Ke0 g h) (False)
  | _, _, _ => False
noncomputable def n5_c1 : Code := cFst n4_c1
noncomputable def n5_c2 : Code := cSnd n4_c1
abbrev T3 := Int → Int → Bool → H → Prop
def E3 (g : Env) (x0 : Int) (x1 : Int) (x5 : Bool) : Prop := g.v 0 = (.int .u8 x0) ∧ g.v 1 = (.int .u8 x1) ∧ g.v 5 = (.bool x5) ∧ g.ds = []
def D3 (K : T3) (g : Env) (h : H) : Prop := nilDs g.ds (vInt .u8 (g.v 0) fun i17 => vInt .u8 (g.v 1) fun i18 => vBool (g.v 5) fun b19 => K i17 i18 b19 h)
theorem D3_ok {K : T3} {g : Env} {h : H} (hq : D3 K g h) : ∃ (x0 : Int) (x1 : Int) (x5 : Bool), E3 g x0 x1 x5 ∧ K x0 x1 x5 h := by
  obtain ⟨hd, hq⟩ := nilDs_ok hq
  obtain ⟨y21, e20, q22⟩ := vInt_ok hq
  obtain ⟨y24, e23, q25⟩ := vInt_ok q22
  obtain ⟨y27, e26, q28⟩ := vBool_ok q25
  exact ⟨y21, y24, y27, ⟨e20, e23, e26, hd⟩, q28⟩
noncomputable def n6_c1 : Code := cFst n5_c2
noncomputable def n6_c2 : Code := cSnd n5_c2
abbrev n7 (x1 : Int) (Kn : T2) (Ke0 : T2) (Kr : T0) (h : H) : Prop :=
  Spl (x1 ≥ (160 : Int)) (Spl (x1 ≤ (191 : Int)) (Kr true h) (Kr false h)) (Kr false h)
theorem n7_ok (x1 : Int) (Kn : T2) (Ke0 : T2) (Kr : T0) (g : Env) (hg : E2 g x1) (h : H) (hS : n7 x1 Kn Ke0 Kr h) : wpC none Tryd.prog 47 n6_c1 (Q2 Kn Ke0 Kr) g h := by
  obtain ⟨hg1, hds⟩ := hg
  refine wpC_of_wpx (by kernel_rfl) (by kernel_rfl) (g' := (⟨g.v, []⟩ : Env).upd (some 1) (.int .u8 x1)) (by rw [env_ds hds, upd_self hg1]) ?_
  have e : (n7 x1 Kn Ke0 Kr h) = wpx none Tryd.prog 47 n6_c1 (Q2 Kn Ke0 Kr) ((⟨g.v, []⟩ : Env).upd (some 1) (.int .u8 x1)) h := by kernel_rfl
  exact e ▸ hS
noncomputable def n8_c1 : Code := cFst n6_c2
noncomputable def n8_c2 : Code := cSnd n6_c2
abbrev T4 := Int → Int → Bool → H → Prop
def E4 (g : Env) (x0 : Int) (x1 : Int) (x14 : Bool) : Prop := g.v 0 = (.int .u8 x0) ∧ g.v 1 = (.int .u8 x1) ∧ g.v 14 = (.bool x14) ∧ g.ds = []
def D4 (K : T4) (g : Env) (h : H) : Prop := nilDs g.ds (vInt .u8 (g.v 0) fun i29 => vInt .u8 (g.v 1) fun i30 => vBool (g.v 14) fun b31 => K i29 i30 b31 h)
theorem D4_ok {K : T4} {g : Env} {h : H} (hq : D4 K g h) : ∃ (x0 : Int) (x1 : Int) (x14 : Bool), E4 g x0 x1 x14 ∧ K x0 x1 x14 h := by
  obtain ⟨hd, hq⟩ := nilDs_ok hq
  obtain ⟨y33, e32, q34⟩ := vInt_ok hq
  obtain ⟨y36, e35, q37⟩ := vInt_ok q34
  obtain ⟨y39, e38, q40⟩ := vBool_ok q37
  exact ⟨y33, y36, y39, ⟨e32, e35, e38, hd⟩, q40⟩
noncomputable def n9_c1 : Code := cFst n8_c2
noncomputable def n9_c2 : Code := cSnd n8_c2
abbrev n10 (x1 : Int) (Kn : T2) (Ke0 : T2) (Kr : T0) (h : H) : Prop :=
  Spl (x1 ≥ (128 : Int)) (Spl (x1 ≤ (159 : Int)) (Kr true h) (Kr false h)) (Kr false h)
theorem n10_ok (x1 : Int) (Kn : T2) (Ke0 : T2) (Kr : T0) (g : Env) (hg : E2 g x1) (h : H) (hS : n10 x1 Kn Ke0 Kr h) : wpC none Tryd.prog 47 n9_c1 (Q2 Kn Ke0 Kr) g h := by
  obtain ⟨hg1, hds⟩ := hg
  refine wpC_of_wpx (by kernel_rfl) (by kernel_rfl) (g' := (⟨g.v, []⟩ : Env).upd (some 1) (.int .u8 x1)) (by rw [env_ds hds, upd_self hg1]) ?_
  have e : (n10 x1 Kn Ke0 Kr h) = wpx none Tryd.prog 47 n9_c1 (Q2 Kn Ke0 Kr) ((⟨g.v, []⟩ : Env).upd (some 1) (.int .u8 x1)) h := by kernel_rfl
  exact e ▸ hS
noncomputable def n11_c1 : Code := cFst n9_c2
noncomputable def n11_c2 : Code := cSnd n9_c2
abbrev T5 := Int → Int → Bool → H → Prop
def E5 (g : Env) (x0 : Int) (x1 : Int) (x23 : Bool) : Prop := g.v 0 = (.int .u8 x0) ∧ g.v 1 = (.int .u8 x1) ∧ g.v 23 = (.bool x23) ∧ g.ds = []
def D5 (K : T5) (g : Env) (h : H) : Prop := nilDs g.ds (vInt .u8 (g.v 0) fun i41 => vInt .u8 (g.v 1) fun i42 => vBool (g.v 23) fun b43 => K i41 i42 b43 h)
theorem D5_ok {K : T5} {g : Env} {h : H} (hq : D5 K g h) : ∃ (x0 : Int) (x1 : Int) (x23 : Bool), E5 g x0 x1 x23 ∧ K x0 x1 x23 h := by
  obtain ⟨hd, hq⟩ := nilDs_ok hq
  obtain ⟨y45, e44, q46⟩ := vInt_ok hq
  obtain ⟨y48, e47, q49⟩ := vInt_ok q46
  obtain ⟨y51, e50, q52⟩ := vBool_ok q49
  exact ⟨y45, y48, y51, ⟨e44, e47, e50, hd⟩, q52⟩
abbrev n12 (x0 : Int) (x1 : Int) (x23 : Bool) (Kn : T2) (Ke0 : T2) (Kr : T0) (h : H) : Prop :=
  cond x23 (Spl (x1 ≥ (144 : Int)) (Spl (x1 ≤ (191 : Int)) (Kr true h) (Kr false h)) (Kr false h)) (Spl (x0 = (244 : Int)) (Spl (x1 ≥ (128 : Int)) (Spl (x1 ≤ (143 : Int)) (Kr true h) (Kr false h)) (Kr false h)) (Kn x1 h))
theorem n12_ok (x0 : Int) (x1 : Int) (x23 : Bool) (Kn : T2) (Ke0 : T2) (Kr : T0) (g : Env) (hg : E5 g x0 x1 x23) (h : H) (hS : n12 x0 x1 x23 Kn Ke0 Kr h) : wpC none Tryd.prog 47 n11_c2 (Q2 Kn Ke0 Kr) g h := by
  obtain ⟨hg0, hg1, hg23, hds⟩ := hg
  refine wpC_of_wpx (by kernel_rfl) (by kernel_rfl) (g' := (((⟨g.v, []⟩ : Env).upd (some 0) (.int .u8 x0)).upd (some 1) (.int .u8 x1)).upd (some 23) (.bool x23)) (by rw [env_ds hds, upd_self hg0, upd_self hg1, upd_self hg23]) ?_
  have e : (n12 x0 x1 x23 Kn Ke0 Kr h) = wpx none Tryd.prog 47 n11_c2 (Q2 Kn Ke0 Kr) ((((⟨g.v, []⟩ : Env).upd (some 0) (.int .u8 x0)).upd (some 1) (.int .u8 x1)).upd (some 23) (.bool x23)) h := by kernel_rfl
  exact e ▸ hS
def Q3 (Kn : T5) (Ke0 : T2) (Kr : T0) : XPost
  | .normal, g, h => D5 Kn g h
  | .ret, g, h => D0 Kr g h
  | .exit id, g, h => cond (Nat.beq id 0) (D2 Ke0 g h) (False)
  | _, _, _ => False
abbrev n11 (x0 : Int) (x1 : Int) (Kn : T2) (Ke0 : T2) (Kr : T0) (h : H) : Prop :=
  Spl (x0 = (240 : Int)) (n12 x0 x1 true Kn Ke0 Kr h) (n12 x0 x1 false Kn Ke0 Kr h)
theorem n11_ok (x0 : Int) (x1 : Int) (Kn : T2) (Ke0 : T2) (Kr : T0) (g : Env) (hg : E1 g x0 x1) (h : H) (hS : n11 x0 x1 Kn Ke0 Kr h) : wpC none Tryd.prog 47 n9_c2 (Q2 Kn Ke0 Kr) g h := by
  obtain ⟨hg0, hg1, hds⟩ := hg
  refine wpC_seq' (x := n11_c1) (y := n11_c2) (Q' := (Q3 (fun z0 z1 z23 h => n12 z0 z1 z23 Kn Ke0 Kr h) Ke0 Kr)) (by kernel_rfl) ?_ ?_
  · refine wpC_of_wpx (by kernel_rfl) (by kernel_rfl) (g' := ((⟨g.v, []⟩ : Env).upd (some 0) (.int .u8 x0)).upd (some 1) (.int .u8 x1)) (by rw [env_ds hds, upd_self hg0, upd_self hg1]) ?_
    have e : (n11 x0 x1 Kn Ke0 Kr h) = wpx none Tryd.prog 47 n11_c1 (Q3 (fun z0 z1 z23 h => n12 z0 z1 z23 Kn Ke0 Kr h) Ke0 Kr) (((⟨g.v, []⟩ : Env).upd (some 0) (.int .u8 x0)).upd (some 1) (.int .u8 x1)) h := by kernel_rfl
    exact e ▸ hS
  · intro e g' h' hq
    cases e with
    | normal =>
      have hq : D5 (fun z0 z1 z23 h => n12 z0 z1 z23 Kn Ke0 Kr h) g' h' := hq
      obtain ⟨y0, y1, y23, hg', hq⟩ := D5_ok hq
      exact n12_ok y0 y1 y23 Kn Ke0 Kr g' hg' h' hq
    | _ => exact hq
abbrev n9 (x0 : Int) (x1 : Int) (x14 : Bool) (Kn : T2) (Ke0 : T2) (Kr : T0) (h : H) : Prop := cond x14 (n10 x1 Kn Ke0 Kr h) (n11 x0 x1 Kn Ke0 Kr h)
theorem n9_ok (x0 : Int) (x1 : Int) (x14 : Bool) (Kn : T2) (Ke0 : T2) (Kr : T0) (g : Env) (hg : E4 g x0 x1 x14) (h : H) (hS : n9 x0 x1 x14 Kn Ke0 Kr h) : wpC none Tryd.prog 47 n8_c2 (Q2 Kn Ke0 Kr) g h := by
  obtain ⟨hg0, hg1, hg14, hds⟩ := hg
  have hx : evalE 47 g (.tmp 14) = .bool x14 := by
    show cond (Nat.blt 14 47) (g.v 14) undef = _
    rw [hg14]; rfl
  unfold n9 at hS
  refine wpC_cond' (o := .tmp 14) (x := n9_c1) (y := n9_c2) (by kernel_rfl) hx (fun hb => ?_) (fun hb => ?_)
  · subst hb
    exact n10_ok x1 Kn Ke0 Kr g ⟨hg1, hds⟩ h hS
  · subst hb
    exact n11_ok x0 x1 Kn Ke0 Kr g ⟨hg0, hg1, hds⟩ h hS
def Q4 (Kn : T4) (Ke0 : T2) (Kr : T0) : XPost
  | .normal, g, h => D4 Kn g h
  | .ret, g, h => D0 Kr g h
  | .exit id, g, h => cond (Nat.beq id 0) (D2 Ke0 g h) (False)
  | _, _, _ => False
abbrev n8 (x0 : Int) (x1 : Int) (Kn : T2) (Ke0 : T2) (Kr : T0) (h : H) : Prop :=
  Spl (x0 = (237 : Int)) (n9 x0 x1 true Kn Ke0 Kr h) (n9 x0 x1 false Kn Ke0 Kr h)
theorem n8_ok (x0 : Int) (x1 : Int) (Kn : T2) (Ke0 : T2) (Kr : T0) (g : Env) (hg : E1 g x0 x1) (h : H) (hS : n8 x0 x1 Kn Ke0 Kr h) : wpC none Tryd.prog 47 n6_c2 (Q2 Kn Ke0 Kr) g h := by
  obtain ⟨hg0, hg1, hds⟩ := hg
  refine wpC_seq' (x := n8_c1) (y := n8_c2) (Q' := (Q4 (fun z0 z1 z14 h => n9 z0 z1 z14 Kn Ke0 Kr h) Ke0 Kr)) (by kernel_rfl) ?_ ?_
  · refine wpC_of_wpx (by kernel_rfl) (by kernel_rfl) (g' := ((⟨g.v, []⟩ : Env).upd (some 0) (.int .u8 x0)).upd (some 1) (.int .u8 x1)) (by rw [env_ds hds, upd_self hg0, upd_self hg1]) ?_
    have e : (n8 x0 x1 Kn Ke0 Kr h) = wpx none Tryd.prog 47 n8_c1 (Q4 (fun z0 z1 z14 h => n9 z0 z1 z14 Kn Ke0 Kr h) Ke0 Kr) (((⟨g.v, []⟩ : Env).upd (some 0) (.int .u8 x0)).upd (some 1) (.int .u8 x1)) h := by kernel_rfl
    exact e ▸ hS
  · intro e g' h' hq
    cases e with
    | normal =>
      have hq : D4 (fun z0 z1 z14 h => n9 z0 z1 z14 Kn Ke0 Kr h) g' h' := hq
      obtain ⟨y0, y1, y14, hg', hq⟩ := D4_ok hq
      exact n9_ok y0 y1 y14 Kn Ke0 Kr g' hg' h' hq
    | _ => exact hq
abbrev n6 (x0 : Int) (x1 : Int) (x5 : Bool) (Kn : T2) (Ke0 : T2) (Kr : T0) (h : H) : Prop := cond x5 (n7 x1 Kn Ke0 Kr h) (n8 x0 x1 Kn Ke0 Kr h)
theorem n6_ok (x0 : Int) (x1 : Int) (x5 : Bool) (Kn : T2) (Ke0 : T2) (Kr : T0) (g : Env) (hg : E3 g x0 x1 x5) (h : H) (hS : n6 x0 x1 x5 Kn Ke0 Kr h) : wpC none Tryd.prog 47 n5_c2 (Q2 Kn Ke0 Kr) g h := by
  obtain ⟨hg0, hg1, hg5, hds⟩ := hg
  have hx : evalE 47 g (.tmp 5) = .bool x5 := by
    show cond (Nat.blt 5 47) (g.v 5) undef = _
    rw [hg5]; rfl
  unfold n6 at hS
  refine wpC_cond' (o := .tmp 5) (x := n6_c1) (y := n6_c2) (by kernel_rfl) hx (fun hb => ?_) (fun hb => ?_)
  · subst hb
    exact n7_ok x1 Kn Ke0 Kr g ⟨hg1, hds⟩ h hS
  · subst hb
    exact n8_ok x0 x1 Kn Ke0 Kr g ⟨hg0, hg1, hds⟩ h hS
def Q5 (Kn : T3) (Ke0 : T2) (Kr : T0) : XPost
  | .normal, g, h => D3 Kn g h
  | .ret, g, h => D0 Kr g h
  | .exit id, g, h => cond (Nat.beq id 0) (D2 Ke0 g h) (False)
  | _, _, _ => False
abbrev n5 (x0 : Int) (x1 : Int) (Kn : T2) (Ke0 : T2) (Kr : T0) (h : H) : Prop :=
  Spl (x0 = (224 : Int)) (n6 x0 x1 true Kn Ke0 Kr h) (n6 x0 x1 false Kn Ke0 Kr h)
theorem n5_ok (x0 : Int) (x1 : Int) (Kn : T2) (Ke0 : T2) (Kr : T0) (g : Env) (hg : E1 g x0 x1) (h : H) (hS : n5 x0 x1 Kn Ke0 Kr h) : wpC none Tryd.prog 47 n4_c1 (Q2 Kn Ke0 Kr) g h := by
  obtain ⟨hg0, hg1, hds⟩ := hg
  refine wpC_seq' (x := n5_c1) (y := n5_c2) (Q' := (Q5 (fun z0 z1 z5 h => n6 z0 z1 z5 Kn Ke0 Kr h) Ke0 Kr)) (by kernel_rfl) ?_ ?_
  · refine wpC_of_wpx (by kernel_rfl) (by kernel_rfl) (g' := ((⟨g.v, []⟩ : Env).upd (some 0) (.int .u8 x0)).upd (some 1) (.int .u8 x1)) (by rw [env_ds hds, upd_self hg0, upd_self hg1]) ?_
    have e : (n5 x0 x1 Kn Ke0 Kr h) = wpx none Tryd.prog 47 n5_c1 (Q5 (fun z0 z1 z5 h => n6 z0 z1 z5 Kn Ke0 Kr h) Ke0 Kr) (((⟨g.v, []⟩ : Env).upd (some 0) (.int .u8 x0)).upd (some 1) (.int .u8 x1)) h := by kernel_rfl
    exact e ▸ hS
  · intro e g' h' hq
    cases e with
    | normal =>
      have hq : D3 (fun z0 z1 z5 h => n6 z0 z1 z5 Kn Ke0 Kr h) g' h' := hq
      obtain ⟨y0, y1, y5, hg', hq⟩ := D3_ok hq
      exact n6_ok y0 y1 y5 Kn Ke0 Kr g' hg' h' hq
    | _ => exact hq
abbrev n4 (x0 : Int) (x1 : Int) (Kn : T2) (Kr : T0) (h : H) : Prop := n5 x0 x1 Kn Kn Kr h
theorem n4_ok (x0 : Int) (x1 : Int) (Kn : T2) (Kr : T0) (g : Env) (hg : E1 g x0 x1) (h : H) (hS : n4 x0 x1 Kn Kr h) : wpC none Tryd.prog 47 n2_c1 (Q1 Kn Kr) g h := by
  refine wpC_block' (id := 0) (x := n4_c1) (by kernel_rfl) (n5_ok x0 x1 Kn Kn Kr g hg h hS) ?_
  intro e g' h' hq
  cases e <;> exact hq
abbrev n2 (x0 : Int) (x1 : Int) (Kn : T0) (Kr : T0) (h : H) : Prop := n4 x0 x1 (fun z1 h => n3 z1 Kn Kr h) Kr h
theorem n2_ok (x0 : Int) (x1 : Int) (Kn : T0) (Kr : T0) (g : Env) (hg : E1 g x0 x1) (h : H) (hS : n2 x0 x1 Kn Kr h) : wpC none Tryd.prog 47 n1_c2 (Q0 Kn Kr) g h := by
  refine wpC_seq' (x := n2_c1) (y := n2_c2) (by kernel_rfl) (n4_ok x0 x1 (fun z1 h => n3 z1 Kn Kr h) Kr g hg h hS) ?_
  intro e g' h' hq
  cases e with
  | normal =>
    have hq : D2 (fun z1 h => n3 z1 Kn Kr h) g' h' := hq
    obtain ⟨y1, hg', hq⟩ := D2_ok hq
    exact n3_ok y1 Kn Kr g' hg' h' hq
  | _ => exact hq
def Q6 (Kn : T1) (Kr : T0) : XPost
  | .normal, g, h => D1 Kn g h
  | .ret, g, h => D0 Kr g h
  | _, _, _ => False
abbrev n1 (x0 : Int) (x1 : Int) (Kn : T0) (Kr : T0) (h : H) : Prop :=
  n2 x0 x1 Kn Kr h
theorem n1_ok (x0 : Int) (x1 : Int) (Kn : T0) (Kr : T0) (g : Env) (hg : E1 g x0 x1) (h : H) (hS : n1 x0 x1 Kn Kr h) : wpC none Tryd.prog 47 code (Q0 Kn Kr) g h := by
  obtain ⟨hg0, hg1, hds⟩ := hg
  refine wpC_seq' (x := n1_c1) (y := n1_c2) (Q' := (Q6 (fun z0 z1 h => n2 z0 z1 Kn Kr h) Kr)) (by kernel_rfl) ?_ ?_
  · refine wpC_of_wpx (by kernel_rfl) (by kernel_rfl) (g' := ((⟨g.v, []⟩ : Env).upd (some 0) (.int .u8 x0)).upd (some 1) (.int .u8 x1)) (by rw [env_ds hds, upd_self hg0, upd_self hg1]) ?_
    have e : (n1 x0 x1 Kn Kr h) = wpx none Tryd.prog 47 n1_c1 (Q6 (fun z0 z1 h => n2 z0 z1 Kn Kr h) Kr) (((⟨g.v, []⟩ : Env).upd (some 0) (.int .u8 x0)).upd (some 1) (.int .u8 x1)) h := by kernel_rfl
    exact e ▸ hS
  · intro e g' h' hq
    cases e with
    | normal =>
      have hq : D1 (fun z0 z1 h => n2 z0 z1 Kn Kr h) g' h' := hq
      obtain ⟨y0, y1, hg', hq⟩ := D1_ok hq
      exact n2_ok y0 y1 Kn Kr g' hg' h' hq
    | _ => exact hq
/-- WHAT tympan/tympanref01.second ASKS -/
abbrev asks (x0 : Int) (x1 : Int) (K : Value → H → Prop) (h : H) : Prop := n1 x0 x1 (fun y4 h => K (.bool y4) h) (fun y4 h => K (.bool y4) h) h
theorem ok (x0 : Int) (x1 : Int) (K : Value → H → Prop) (h : H) (hS : asks x0 x1 K h) : HCalls Tryd.prog 50 ⟨[(.int .u8 x0), (.int .u8 x1)]⟩ h K := by
  refine calls_of_wpC (c := code) Tryd.func50 (by kernel_rfl) (Nat.le_of_ble_eq_true (by kernel_rfl)) ?_
  refine (n1_ok x0 x1 (fun y4 h => K (.bool y4) h) (fun y4 h => K (.bool y4) h) (env0 [(.int .u8 x0), (.int .u8 x1)]) ⟨rfl, rfl, rfl⟩ h hS).mono ?_
  intro e g' h' hq
  cases e with
  | normal =>
    have hq : D0 (fun y4 h => K (.bool y4) h) g' h' := hq
    obtain ⟨y4, ⟨hg4, hd⟩, hq⟩ := D0_ok hq
    show leaveX g'.ds h' _
    rw [hd]
    show K (g'.v 4) h'
    rw [hg4]
    exact hq
  | ret =>
    have hq : D0 (fun y4 h => K (.bool y4) h) g' h' := hq
    obtain ⟨y4, ⟨hg4, hd⟩, hq⟩ := D0_ok hq
    show leaveX g'.ds h' _
    rw [hd]
    show K (g'.v 4) h'
    rw [hg4]
    exact hq
  | _ => exact hq
end Sx.r01_second
end Go.Proofs
