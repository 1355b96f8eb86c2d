/- The shallow forms of functions, printed by sh.py out of the translation; each with its proof. No condition. -/
import Derived.Test.YtpkicfcnhgnejaaDoorShJ
import Derived.Test.YtpkicfcnhgnejaaDoorProg
namespace Go.Proofs
open Go Go.Sh
set_option linter.unusedVariables false
set_option maxRecDepth 100000

/-! ### tympan/auto.found -/
namespace Sx.auto_found
noncomputable def code : Code := bodyOf Tryd.f10
abbrev T0 := Value → H → Prop
def E0 (g : Env) (x2 : Value) : Prop := g.v 2 = x2 ∧ g.ds = []
def D0 (K : T0) (g : Env) (h : H) : Prop := nilDs g.ds (K (g.v 2) h)
theorem D0_ok {K : T0} {g : Env} {h : H} (hq : D0 K g h) : ∃ (x2 : Value), E0 g x2 ∧ K x2 h := by
  obtain ⟨hd, hq⟩ := nilDs_ok hq
  skip
  exact ⟨(g.v 2), ⟨rfl, hd⟩, hq⟩
def Q0 (Kn : T0) (Kr : T0) : XPost
  | .normal, g, h => D0 Kn g h
  | .ret, g, h => D0 Kr g h
  | _, _, _ => False
abbrev T1 := (List UInt8) → H → Prop
def E1 (g : Env) (x0 : List UInt8) : Prop := g.v 0 = (S x0) ∧ g.ds = []
def D1 (K : T1) (g : Env) (h : H) : Prop := nilDs g.ds (vStr (g.v 0) fun s1 => K s1 h)
theorem D1_ok {K : T1} {g : Env} {h : H} (hq : D1 K g h) : ∃ (x0 : List UInt8), E1 g x0 ∧ K x0 h := by
  obtain ⟨hd, hq⟩ := nilDs_ok hq
  obtain ⟨y3, e2, q4⟩ := vStr_ok hq
  exact ⟨y3, ⟨e2, hd⟩, q4⟩
abbrev n1 (x0 : List UInt8) (Kn : T0) (Kr : T0) (h : H) : Prop :=
  newx h #[(S x0)] 9 fun a5 h6 => Kr (.func (.func 16) ⟨[]⟩ ⟨[(.pointer (some a5))]⟩) h6
theorem n1_ok (x0 : List UInt8) (Kn : T0) (Kr : T0) (g : Env) (hg : E1 g x0) (h : H) (hS : n1 x0 Kn Kr h) : wpC none Tryd.prog 4 code (Q0 Kn Kr) g h := by
  obtain ⟨hg0, hds⟩ := hg
  refine wpC_of_wpx (by kernel_rfl) (by kernel_rfl) (g' := (⟨g.v, []⟩ : Env).upd (some 0) (S x0)) (by rw [env_ds hds, upd_self hg0]) ?_
  have e : (n1 x0 Kn Kr h) = wpx none Tryd.prog 4 code (Q0 Kn Kr) ((⟨g.v, []⟩ : Env).upd (some 0) (S x0)) h := by kernel_rfl
  exact e ▸ hS
/-- WHAT tympan/auto.found ASKS -/
abbrev asks (x0 : List UInt8) (K : Value → H → Prop) (h : H) : Prop := n1 x0 (fun y2 h => K y2 h) (fun y2 h => K y2 h) h
theorem ok (x0 : List UInt8) (K : Value → H → Prop) (h : H) (hS : asks x0 K h) : HCalls Tryd.prog 10 ⟨[(S x0)]⟩ h K := by
  refine calls_of_wpC (c := code) Tryd.func10 (by kernel_rfl) (Nat.le_of_ble_eq_true (by kernel_rfl)) ?_
  refine (n1_ok x0 (fun y2 h => K y2 h) (fun y2 h => K y2 h) (env0 [(S x0)]) ⟨rfl, rfl⟩ h hS).mono ?_
  intro e g' h' hq
  cases e with
  | normal =>
    have hq : D0 (fun y2 h => K y2 h) g' h' := hq
    obtain ⟨y2, ⟨hg2, hd⟩, hq⟩ := D0_ok hq
    show leaveX g'.ds h' _
    rw [hd]
    show K (g'.v 2) h'
    rw [hg2]
    exact hq
  | ret =>
    have hq : D0 (fun y2 h => K y2 h) g' h' := hq
    obtain ⟨y2, ⟨hg2, hd⟩, hq⟩ := D0_ok hq
    show leaveX g'.ds h' _
    rw [hd]
    show K (g'.v 2) h'
    rw [hg2]
    exact hq
  | _ => exact hq
end Sx.auto_found

/-! ### tympan/tympanref02.Prev -/
namespace Sx.r02_Prev
noncomputable def code : Code := bodyOf Tryd.f11
abbrev T0 := Int → H → Prop
def E0 (g : Env) (x4 : Int) : Prop := g.v 4 = (.int .i32 x4) ∧ g.ds = []
def D0 (K : T0) (g : Env) (h : H) : Prop := nilDs g.ds (vInt .i32 (g.v 4) fun i1 => K i1 h)
theorem D0_ok {K : T0} {g : Env} {h : H} (hq : D0 K g h) : ∃ (x4 : Int), E0 g x4 ∧ K x4 h := by
  obtain ⟨hd, hq⟩ := nilDs_ok hq
  obtain ⟨y3, e2, q4⟩ := vInt_ok hq
  exact ⟨y3, ⟨e2, hd⟩, q4⟩
def Q0 (Kn : T0) (Kr : T0) : XPost
  | .normal, g, h => D0 Kn g h
  | .ret, g, h => D0 Kr g h
  | _, _, _ => False
abbrev T1 := (List UInt8) → Int → H → Prop
def E1 (g : Env) (x0 : List UInt8) (x1 : Int) : Prop := g.v 0 = (S x0) ∧ g.v 1 = (.int .i64 x1) ∧ g.ds = []
def D1 (K : T1) (g : Env) (h : H) : Prop := nilDs g.ds (vStr (g.v 0) fun s5 => vInt .i64 (g.v 1) fun i6 => K s5 i6 h)
theorem D1_ok {K : T1} {g : Env} {h : H} (hq : D1 K g h) : ∃ (x0 : List UInt8) (x1 : Int), E1 g x0 x1 ∧ K x0 x1 h := by
  obtain ⟨hd, hq⟩ := nilDs_ok hq
  obtain ⟨y8, e7, q9⟩ := vStr_ok hq
  obtain ⟨y11, e10, q12⟩ := vInt_ok q9
  exact ⟨y8, y11, ⟨e7, e10, hd⟩, q12⟩
abbrev n1 (x0 : List UInt8) (x1 : Int) (Kn : T0) (Kr : T0) (h : H) : Prop :=
  Spl (x1 ≤ (0 : Int)) (Kr (10 : Int) h) (Spl (x1 > (x0.length : Int)) (Kr (10 : Int) h) ((0 ≤ (0 : Int) ∧ (0 : Int) ≤ x1 ∧ x1 ≤ (x0.length : Int)) ∧ (SemH Tryd.prog (convert 9 45 (S (sub x0 (0 : Int) x1))) h fun v13 h14 => vSlice v13 fun s15b s15n s15c => Rng .i64 ((s15n : Int) - (1 : Int)) ∧ ((0 ≤ ((s15n : Int) - (1 : Int)) ∧ ((s15n : Int) - (1 : Int)) < (s15n : Int)) ∧ (vSome s15b fun a16 => ∃ i17, cell h14 (a16.add (Int.toNat ((s15n : Int) - (1 : Int)) * 1)) = some (.int .i32 i17) ∧ (Kr i17 h14))))))
theorem n1_ok (x0 : List UInt8) (x1 : Int) (Kn : T0) (Kr : T0) (g : Env) (hg : E1 g x0 x1) (h : H) (hS : n1 x0 x1 Kn Kr h) : wpC none Tryd.prog 24 code (Q0 Kn Kr) g h := by
  obtain ⟨hg0, hg1, hds⟩ := hg
  refine wpC_of_wpx (by kernel_rfl) (by kernel_rfl) (g' := ((⟨g.v, []⟩ : Env).upd (some 0) (S x0)).upd (some 1) (.int .i64 x1)) (by rw [env_ds hds, upd_self hg0, upd_self hg1]) ?_
  have e : (n1 x0 x1 Kn Kr h) = wpx none Tryd.prog 24 code (Q0 Kn Kr) (((⟨g.v, []⟩ : Env).upd (some 0) (S x0)).upd (some 1) (.int .i64 x1)) h := by kernel_rfl
  exact e ▸ hS
/-- WHAT tympan/tympanref02.Prev ASKS -/
abbrev asks (x0 : List UInt8) (x1 : Int) (K : Value → H → Prop) (h : H) : Prop := n1 x0 x1 (fun y4 h => K (.int .i32 y4) h) (fun y4 h => K (.int .i32 y4) h) h
theorem ok (x0 : List UInt8) (x1 : Int) (K : Value → H → Prop) (h : H) (hS : asks x0 x1 K h) : HCalls Tryd.prog 11 ⟨[(S x0), (.int .i64 x1)]⟩ h K := by
  refine calls_of_wpC (c := code) Tryd.func11 (by kernel_rfl) (Nat.le_of_ble_eq_true (by kernel_rfl)) ?_
  refine (n1_ok x0 x1 (fun y4 h => K (.int .i32 y4) h) (fun y4 h => K (.int .i32 y4) h) (env0 [(S x0), (.int .i64 x1)]) ⟨rfl, rfl, rfl⟩ h hS).mono ?_
  intro e g' h' hq
  cases e with
  | normal =>
    have hq : D0 (fun y4 h => K (.int .i32 y4) h) g' h' := hq
    obtain ⟨y4, ⟨hg4, hd⟩, hq⟩ := D0_ok hq
    show leaveX g'.ds h' _
    rw [hd]
    show K (g'.v 4) h'
    rw [hg4]
    exact hq
  | ret =>
    have hq : D0 (fun y4 h => K (.int .i32 y4) h) g' h' := hq
    obtain ⟨y4, ⟨hg4, hd⟩, hq⟩ := D0_ok hq
    show leaveX g'.ds h' _
    rw [hd]
    show K (g'.v 4) h'
    rw [hg4]
    exact hq
  | _ => exact hq
end Sx.r02_Prev

/-! ### tympan/tympanref02.Blank -/
namespace Sx.r02_Blank
noncomputable def code : Code := bodyOf Tryd.f12
abbrev T0 := Bool → H → Prop
def E0 (g : Env) (x2 : Bool) : Prop := g.v 2 = (.bool x2) ∧ g.ds = []
def D0 (K : T0) (g : Env) (h : H) : Prop := nilDs g.ds (vBool (g.v 2) fun b1 => K b1 h)
theorem D0_ok {K : T0} {g : Env} {h : H} (hq : D0 K g h) : ∃ (x2 : Bool), E0 g x2 ∧ K x2 h := by
  obtain ⟨hd, hq⟩ := nilDs_ok hq
  obtain ⟨y3, e2, q4⟩ := vBool_ok hq
  exact ⟨y3, ⟨e2, hd⟩, q4⟩
def Q0 (Kn : T0) (Kr : T0) : XPost
  | .normal, g, h => D0 Kn g h
  | .ret, g, h => D0 Kr g h
  | _, _, _ => False
abbrev T1 := Int → H → Prop
def E1 (g : Env) (x0 : Int) : Prop := g.v 0 = (.int .i32 x0) ∧ g.ds = []
def D1 (K : T1) (g : Env) (h : H) : Prop := nilDs g.ds (vInt .i32 (g.v 0) fun i5 => K i5 h)
theorem D1_ok {K : T1} {g : Env} {h : H} (hq : D1 K g h) : ∃ (x0 : Int), E1 g x0 ∧ K x0 h := by
  obtain ⟨hd, hq⟩ := nilDs_ok hq
  obtain ⟨y7, e6, q8⟩ := vInt_ok hq
  exact ⟨y7, ⟨e6, hd⟩, q8⟩
abbrev n1 (x0 : Int) (Kn : T0) (Kr : T0) (h : H) : Prop :=
  Spl (x0 = (9 : Int)) (Kr true h) (Spl (x0 = (10 : Int)) (Kr true h) (Spl (x0 = (12 : Int)) (Kr true h) (Spl (x0 = (13 : Int)) (Kr true h) (Spl (x0 = (32 : Int)) (Kr true h) (Spl (x0 = (160 : Int)) (Kr true h) (Spl (x0 = (5760 : Int)) (Kr true h) (Spl (x0 ≥ (8192 : Int)) (Spl (x0 ≤ (8202 : Int)) (Kr true h) (Spl (x0 = (8239 : Int)) (Kr true h) (Spl (x0 = (8287 : Int)) (Kr true h) (Spl (x0 = (12288 : Int)) (Kr true h) (Kr false h))))) (Spl (x0 = (8239 : Int)) (Kr true h) (Spl (x0 = (8287 : Int)) (Kr true h) (Spl (x0 = (12288 : Int)) (Kr true h) (Kr false h)))))))))))
theorem n1_ok (x0 : Int) (Kn : T0) (Kr : T0) (g : Env) (hg : E1 g x0) (h : H) (hS : n1 x0 Kn Kr h) : wpC none Tryd.prog 47 code (Q0 Kn Kr) g h := by
  obtain ⟨hg0, hds⟩ := hg
  refine wpC_of_wpx (by kernel_rfl) (by kernel_rfl) (g' := (⟨g.v, []⟩ : Env).upd (some 0) (.int .i32 x0)) (by rw [env_ds hds, upd_self hg0]) ?_
  have e : (n1 x0 Kn Kr h) = wpx none Tryd.prog 47 code (Q0 Kn Kr) ((⟨g.v, []⟩ : Env).upd (some 0) (.int .i32 x0)) h := by kernel_rfl
  exact e ▸ hS
/-- WHAT tympan/tympanref02.Blank ASKS -/
abbrev asks (x0 : Int) (K : Value → H → Prop) (h : H) : Prop := n1 x0 (fun y2 h => K (.bool y2) h) (fun y2 h => K (.bool y2) h) h
theorem ok (x0 : Int) (K : Value → H → Prop) (h : H) (hS : asks x0 K h) : HCalls Tryd.prog 12 ⟨[(.int .i32 x0)]⟩ h K := by
  refine calls_of_wpC (c := code) Tryd.func12 (by kernel_rfl) (Nat.le_of_ble_eq_true (by kernel_rfl)) ?_
  refine (n1_ok x0 (fun y2 h => K (.bool y2) h) (fun y2 h => K (.bool y2) h) (env0 [(.int .i32 x0)]) ⟨rfl, rfl⟩ h hS).mono ?_
  intro e g' h' hq
  cases e with
  | normal =>
    have hq : D0 (fun y2 h => K (.bool y2) h) g' h' := hq
    obtain ⟨y2, ⟨hg2, hd⟩, hq⟩ := D0_ok hq
    show leaveX g'.ds h' _
    rw [hd]
    show K (g'.v 2) h'
    rw [hg2]
    exact hq
  | ret =>
    have hq : D0 (fun y2 h => K (.bool y2) h) g' h' := hq
    obtain ⟨y2, ⟨hg2, hd⟩, hq⟩ := D0_ok hq
    show leaveX g'.ds h' _
    rw [hd]
    show K (g'.v 2) h'
    rw [hg2]
    exact hq
  | _ => exact hq
end Sx.r02_Blank

/-! ### tympan/class.Prev -/
namespace Sx.class_Prev
noncomputable def code : Code := bodyOf Tryd.f17
abbrev T0 := Int → H → Prop
def E0 (g : Env) (x4 : Int) : Prop := g.v 4 = (.int .i32 x4) ∧ g.ds = []
def D0 (K : T0) (g : Env) (h : H) : Prop := nilDs g.ds (vInt .i32 (g.v 4) fun i1 => K i1 h)
theorem D0_ok {K : T0} {g : Env} {h : H} (hq : D0 K g h) : ∃ (x4 : Int), E0 g x4 ∧ K x4 h := by
  obtain ⟨hd, hq⟩ := nilDs_ok hq
  obtain ⟨y3, e2, q4⟩ := vInt_ok hq
  exact ⟨y3, ⟨e2, hd⟩, q4⟩
def Q0 (Kn : T0) (Kr : T0) : XPost
  | .normal, g, h => D0 Kn g h
  | .ret, g, h => D0 Kr g h
  | _, _, _ => False
abbrev T1 := (List UInt8) → Int → H → Prop
def E1 (g : Env) (x0 : List UInt8) (x1 : Int) : Prop := g.v 0 = (S x0) ∧ g.v 1 = (.int .i64 x1) ∧ g.ds = []
def D1 (K : T1) (g : Env) (h : H) : Prop := nilDs g.ds (vStr (g.v 0) fun s5 => vInt .i64 (g.v 1) fun i6 => K s5 i6 h)
theorem D1_ok {K : T1} {g : Env} {h : H} (hq : D1 K g h) : ∃ (x0 : List UInt8) (x1 : Int), E1 g x0 x1 ∧ K x0 x1 h := by
  obtain ⟨hd, hq⟩ := nilDs_ok hq
  obtain ⟨y8, e7, q9⟩ := vStr_ok hq
  obtain ⟨y11, e10, q12⟩ := vInt_ok q9
  exact ⟨y8, y11, ⟨e7, e10, hd⟩, q12⟩
abbrev n1 (x0 : List UInt8) (x1 : Int) (Kn : T0) (Kr : T0) (h : H) : Prop :=
  Spl (x1 ≤ (0 : Int)) (Kr (10 : Int) h) (Spl (x1 > (x0.length : Int)) (Kr (10 : Int) h) ((0 ≤ (0 : Int) ∧ (0 : Int) ≤ x1 ∧ x1 ≤ (x0.length : Int)) ∧ (HCalls Tryd.prog 31 ⟨[(S (sub x0 (0 : Int) x1))]⟩ h fun v13 h14 => vTup v13 fun l15 => uncons l15 fun e16 l17 => vInt .i32 e16 fun i18 => uncons l17 fun e19 l20 => vInt .i64 e19 fun i21 => unnil l20 (Kr i18 h14))))
theorem n1_ok (x0 : List UInt8) (x1 : Int) (Kn : T0) (Kr : T0) (g : Env) (hg : E1 g x0 x1) (h : H) (hS : n1 x0 x1 Kn Kr h) : wpC none Tryd.prog 23 code (Q0 Kn Kr) g h := by
  obtain ⟨hg0, hg1, hds⟩ := hg
  refine wpC_of_wpx (by kernel_rfl) (by kernel_rfl) (g' := ((⟨g.v, []⟩ : Env).upd (some 0) (S x0)).upd (some 1) (.int .i64 x1)) (by rw [env_ds hds, upd_self hg0, upd_self hg1]) ?_
  have e : (n1 x0 x1 Kn Kr h) = wpx none Tryd.prog 23 code (Q0 Kn Kr) (((⟨g.v, []⟩ : Env).upd (some 0) (S x0)).upd (some 1) (.int .i64 x1)) h := by kernel_rfl
  exact e ▸ hS
/-- WHAT tympan/class.Prev ASKS -/
abbrev asks (x0 : List UInt8) (x1 : Int) (K : Value → H → Prop) (h : H) : Prop := n1 x0 x1 (fun y4 h => K (.int .i32 y4) h) (fun y4 h => K (.int .i32 y4) h) h
theorem ok (x0 : List UInt8) (x1 : Int) (K : Value → H → Prop) (h : H) (hS : asks x0 x1 K h) : HCalls Tryd.prog 17 ⟨[(S x0), (.int .i64 x1)]⟩ h K := by
  refine calls_of_wpC (c := code) Tryd.func17 (by kernel_rfl) (Nat.le_of_ble_eq_true (by kernel_rfl)) ?_
  refine (n1_ok x0 x1 (fun y4 h => K (.int .i32 y4) h) (fun y4 h => K (.int .i32 y4) h) (env0 [(S x0), (.int .i64 x1)]) ⟨rfl, rfl, rfl⟩ h hS).mono ?_
  intro e g' h' hq
  cases e with
  | normal =>
    have hq : D0 (fun y4 h => K (.int .i32 y4) h) g' h' := hq
    obtain ⟨y4, ⟨hg4, hd⟩, hq⟩ := D0_ok hq
    show leaveX g'.ds h' _
    rw [hd]
    show K (g'.v 4) h'
    rw [hg4]
    exact hq
  | ret =>
    have hq : D0 (fun y4 h => K (.int .i32 y4) h) g' h' := hq
    obtain ⟨y4, ⟨hg4, hd⟩, hq⟩ := D0_ok hq
    show leaveX g'.ds h' _
    rw [hd]
    show K (g'.v 4) h'
    rw [hg4]
    exact hq
  | _ => exact hq
end Sx.class_Prev

/-! ### tympan/class.Blank -/
namespace Sx.class_Blank
noncomputable def code : Code := bodyOf Tryd.f18
abbrev T0 := Bool → H → Prop
def E0 (g : Env) (x2 : Bool) : Prop := g.v 2 = (.bool x2) ∧ g.ds = []
def D0 (K : T0) (g : Env) (h : H) : Prop := nilDs g.ds (vBool (g.v 2) fun b1 => K b1 h)
theorem D0_ok {K : T0} {g : Env} {h : H} (hq : D0 K g h) : ∃ (x2 : Bool), E0 g x2 ∧ K x2 h := by
  obtain ⟨hd, hq⟩ := nilDs_ok hq
  obtain ⟨y3, e2, q4⟩ := vBool_ok hq
  exact ⟨y3, ⟨e2, hd⟩, q4⟩
def Q0 (Kn : T0) (Kr : T0) : XPost
  | .normal, g, h => D0 Kn g h
  | .ret, g, h => D0 Kr g h
  | _, _, _ => False
abbrev T1 := Int → H → Prop
def E1 (g : Env) (x0 : Int) : Prop := g.v 0 = (.int .i32 x0) ∧ g.ds = []
def D1 (K : T1) (g : Env) (h : H) : Prop := nilDs g.ds (vInt .i32 (g.v 0) fun i5 => K i5 h)
theorem D1_ok {K : T1} {g : Env} {h : H} (hq : D1 K g h) : ∃ (x0 : Int), E1 g x0 ∧ K x0 h := by
  obtain ⟨hd, hq⟩ := nilDs_ok hq
  obtain ⟨y7, e6, q8⟩ := vInt_ok hq
  exact ⟨y7, ⟨e6, hd⟩, q8⟩
noncomputable def n1_c1 : Code := cFst code
noncomputable def n1_c2 : Code := cSnd code
noncomputable def n2_c1 : Code := cFst n1_c2
noncomputable def n2_c2 : Code := cSnd n1_c2
abbrev n3 (x0 : Int) (Kn : T0) (Kr : T0) (h : H) : Prop :=
  Spl (x0 ≥ (8192 : Int)) (Spl (x0 ≤ (8202 : Int)) (Kr true h) (Kr false h)) (Kr false h)
theorem n3_ok (x0 : Int) (Kn : T0) (Kr : T0) (g : Env) (hg : E1 g x0) (h : H) (hS : n3 x0 Kn Kr h) : wpC none Tryd.prog 21 n2_c2 (Q0 Kn Kr) g h := by
  obtain ⟨hg0, hds⟩ := hg
  refine wpC_of_wpx (by kernel_rfl) (by kernel_rfl) (g' := (⟨g.v, []⟩ : Env).upd (some 0) (.int .i32 x0)) (by rw [env_ds hds, upd_self hg0]) ?_
  have e : (n3 x0 Kn Kr h) = wpx none Tryd.prog 21 n2_c2 (Q0 Kn Kr) ((⟨g.v, []⟩ : Env).upd (some 0) (.int .i32 x0)) h := by kernel_rfl
  exact e ▸ hS
def Q1 (Kn : T1) (Kr : T0) : XPost
  | .normal, g, h => D1 Kn g h
  | .ret, g, h => D0 Kr g h
  | _, _, _ => False
noncomputable def n4_c1 : Code := cFst n2_c1
noncomputable def n4_c2 : Code := cSnd n2_c1
abbrev T2 := Int → Int → H → Prop
def E2 (g : Env) (x0 : Int) (x3 : Int) : Prop := g.v 0 = (.int .i32 x0) ∧ g.v 3 = (.int .i32 x3) ∧ g.ds = []
def D2 (K : T2) (g : Env) (h : H) : Prop := nilDs g.ds (vInt .i32 (g.v 0) fun i9 => vInt .i32 (g.v 3) fun i10 => K i9 i10 h)
theorem D2_ok {K : T2} {g : Env} {h : H} (hq : D2 K g h) : ∃ (x0 : Int) (x3 : Int), E2 g x0 x3 ∧ K x0 x3 h := by
  obtain ⟨hd, hq⟩ := nilDs_ok hq
  obtain ⟨y12, e11, q13⟩ := vInt_ok hq
  obtain ⟨y15, e14, q16⟩ := vInt_ok q13
  exact ⟨y12, y15, ⟨e11, e14, hd⟩, q16⟩
noncomputable def n5_c1 : Code := cFst n4_c2
def Q2 (Kn : T1) (Ke0 : T1) (Kr : T0) : XPost
  | .normal, g, h => D1 Kn g h
  | .ret, g, h => D0 Kr g h
  | .exit id, g, h => cond (Nat.beq id 0) (D1 Ke0 g h) (False)
  | _, _, _ => False
noncomputable def n6_c1 : Code := cFst n5_c1
noncomputable def n6_c2 : Code := cSnd n5_c1
abbrev T3 := Int → Bool → H → Prop
def E3 (g : Env) (x0 : Int) (x4 : Bool) : Prop := g.v 0 = (.int .i32 x0) ∧ g.v 4 = (.bool x4) ∧ g.ds = []
def D3 (K : T3) (g : Env) (h : H) : Prop := nilDs g.ds (vInt .i32 (g.v 0) fun i17 => vBool (g.v 4) fun b18 => K i17 b18 h)
theorem D3_ok {K : T3} {g : Env} {h : H} (hq : D3 K g h) : ∃ (x0 : Int) (x4 : Bool), E3 g x0 x4 ∧ K x0 x4 h := by
  obtain ⟨hd, hq⟩ := nilDs_ok hq
  obtain ⟨y20, e19, q21⟩ := vInt_ok hq
  obtain ⟨y23, e22, q24⟩ := vBool_ok q21
  exact ⟨y20, y23, ⟨e19, e22, hd⟩, q24⟩
abbrev n7 (x0 : Int) (x4 : Bool) (Kn : T1) (Ke0 : T1) (Kr : T0) (h : H) : Prop :=
  cond x4 (Kr true h) (Kn x0 h)
theorem n7_ok (x0 : Int) (x4 : Bool) (Kn : T1) (Ke0 : T1) (Kr : T0) (g : Env) (hg : E3 g x0 x4) (h : H) (hS : n7 x0 x4 Kn Ke0 Kr h) : wpC none Tryd.prog 21 n6_c2 (Q2 Kn Ke0 Kr) g h := by
  obtain ⟨hg0, hg4, hds⟩ := hg
  refine wpC_of_wpx (by kernel_rfl) (by kernel_rfl) (g' := ((⟨g.v, []⟩ : Env).upd (some 0) (.int .i32 x0)).upd (some 4) (.bool x4)) (by rw [env_ds hds, upd_self hg0, upd_self hg4]) ?_
  have e : (n7 x0 x4 Kn Ke0 Kr h) = wpx none Tryd.prog 21 n6_c2 (Q2 Kn Ke0 Kr) (((⟨g.v, []⟩ : Env).upd (some 0) (.int .i32 x0)).upd (some 4) (.bool x4)) h := by kernel_rfl
  exact e ▸ hS
def Q3 (Kn : T3) (Ke0 : T1) (Kr : T0) : XPost
  | .normal, g, h => D3 Kn g h
  | .ret, g, h => D0 Kr g h
  | .exit id, g, h => cond (Nat.beq id 0) (D1 Ke0 g h) (False)
  | _, _, _ => False
noncomputable def n8_c1 : Code := cFst n6_c1
noncomputable def n8_c2 : Code := cSnd n6_c1
abbrev T4 := Int → Int → Bool → H → Prop
def E4 (g : Env) (x0 : Int) (x3 : Int) (x4 : Bool) : Prop := g.v 0 = (.int .i32 x0) ∧ g.v 3 = (.int .i32 x3) ∧ g.v 4 = (.bool x4) ∧ g.ds = []
def D4 (K : T4) (g : Env) (h : H) : Prop := nilDs g.ds (vInt .i32 (g.v 0) fun i25 => vInt .i32 (g.v 3) fun i26 => vBool (g.v 4) fun b27 => K i25 i26 b27 h)
theorem D4_ok {K : T4} {g : Env} {h : H} (hq : D4 K g h) : ∃ (x0 : Int) (x3 : Int) (x4 : Bool), E4 g x0 x3 x4 ∧ K x0 x3 x4 h := by
  obtain ⟨hd, hq⟩ := nilDs_ok hq
  obtain ⟨y29, e28, q30⟩ := vInt_ok hq
  obtain ⟨y32, e31, q33⟩ := vInt_ok q30
  obtain ⟨y35, e34, q36⟩ := vBool_ok q33
  exact ⟨y29, y32, y35, ⟨e28, e31, e34, hd⟩, q36⟩
noncomputable def n9_c1 : Code := cFst n8_c2
noncomputable def n9_c2 : Code := cSnd n8_c2
abbrev n10 (x0 : Int) (x4 : Bool) (Kn : T3) (Ke0 : T1) (Kr : T0) (h : H) : Prop :=
  Kn x0 x4 h
theorem n10_ok (x0 : Int) (x4 : Bool) (Kn : T3) (Ke0 : T1) (Kr : T0) (g : Env) (hg : E3 g x0 x4) (h : H) (hS : n10 x0 x4 Kn Ke0 Kr h) : wpC none Tryd.prog 21 n9_c1 (Q3 Kn Ke0 Kr) g h := by
  obtain ⟨hg0, hg4, hds⟩ := hg
  refine wpC_of_wpx (by kernel_rfl) (by kernel_rfl) (g' := ((⟨g.v, []⟩ : Env).upd (some 0) (.int .i32 x0)).upd (some 4) (.bool x4)) (by rw [env_ds hds, upd_self hg0, upd_self hg4]) ?_
  have e : (n10 x0 x4 Kn Ke0 Kr h) = wpx none Tryd.prog 21 n9_c1 (Q3 Kn Ke0 Kr) (((⟨g.v, []⟩ : Env).upd (some 0) (.int .i32 x0)).upd (some 4) (.bool x4)) h := by kernel_rfl
  exact e ▸ hS
noncomputable def n11_c1 : Code := cFst n9_c2
noncomputable def n11_c2 : Code := cSnd n9_c2
noncomputable def n12_c1 : Code := cFst n11_c2
noncomputable def n12_c2 : Code := cSnd n11_c2
abbrev n13 (x0 : Int) (x4 : Bool) (Kn : T3) (Ke0 : T1) (Kr : T0) (h : H) : Prop :=
  Kn x0 x4 h
theorem n13_ok (x0 : Int) (x4 : Bool) (Kn : T3) (Ke0 : T1) (Kr : T0) (g : Env) (hg : E3 g x0 x4) (h : H) (hS : n13 x0 x4 Kn Ke0 Kr h) : wpC none Tryd.prog 21 n12_c1 (Q3 Kn Ke0 Kr) g h := by
  obtain ⟨hg0, hg4, hds⟩ := hg
  refine wpC_of_wpx (by kernel_rfl) (by kernel_rfl) (g' := ((⟨g.v, []⟩ : Env).upd (some 0) (.int .i32 x0)).upd (some 4) (.bool x4)) (by rw [env_ds hds, upd_self hg0, upd_self hg4]) ?_
  have e : (n13 x0 x4 Kn Ke0 Kr h) = wpx none Tryd.prog 21 n12_c1 (Q3 Kn Ke0 Kr) (((⟨g.v, []⟩ : Env).upd (some 0) (.int .i32 x0)).upd (some 4) (.bool x4)) h := by kernel_rfl
  exact e ▸ hS
noncomputable def n14_c1 : Code := cFst n12_c2
noncomputable def n14_c2 : Code := cSnd n12_c2
noncomputable def n15_c1 : Code := cFst n14_c2
noncomputable def n15_c2 : Code := cSnd n14_c2
abbrev n16 (x0 : Int) (x4 : Bool) (Kn : T3) (Ke0 : T1) (Kr : T0) (h : H) : Prop :=
  Kn x0 x4 h
theorem n16_ok (x0 : Int) (x4 : Bool) (Kn : T3) (Ke0 : T1) (Kr : T0) (g : Env) (hg : E3 g x0 x4) (h : H) (hS : n16 x0 x4 Kn Ke0 Kr h) : wpC none Tryd.prog 21 n15_c1 (Q3 Kn Ke0 Kr) g h := by
  obtain ⟨hg0, hg4, hds⟩ := hg
  refine wpC_of_wpx (by kernel_rfl) (by kernel_rfl) (g' := ((⟨g.v, []⟩ : Env).upd (some 0) (.int .i32 x0)).upd (some 4) (.bool x4)) (by rw [env_ds hds, upd_self hg0, upd_self hg4]) ?_
  have e : (n16 x0 x4 Kn Ke0 Kr h) = wpx none Tryd.prog 21 n15_c1 (Q3 Kn Ke0 Kr) (((⟨g.v, []⟩ : Env).upd (some 0) (.int .i32 x0)).upd (some 4) (.bool x4)) h := by kernel_rfl
  exact e ▸ hS
noncomputable def n17_c1 : Code := cFst n15_c2
noncomputable def n17_c2 : Code := cSnd n15_c2
noncomputable def n18_c1 : Code := cFst n17_c2
noncomputable def n18_c2 : Code := cSnd n17_c2
abbrev n19 (x0 : Int) (x4 : Bool) (Kn : T3) (Ke0 : T1) (Kr : T0) (h : H) : Prop :=
  Kn x0 x4 h
theorem n19_ok (x0 : Int) (x4 : Bool) (Kn : T3) (Ke0 : T1) (Kr : T0) (g : Env) (hg : E3 g x0 x4) (h : H) (hS : n19 x0 x4 Kn Ke0 Kr h) : wpC none Tryd.prog 21 n18_c1 (Q3 Kn Ke0 Kr) g h := by
  obtain ⟨hg0, hg4, hds⟩ := hg
  refine wpC_of_wpx (by kernel_rfl) (by kernel_rfl) (g' := ((⟨g.v, []⟩ : Env).upd (some 0) (.int .i32 x0)).upd (some 4) (.bool x4)) (by rw [env_ds hds, upd_self hg0, upd_self hg4]) ?_
  have e : (n19 x0 x4 Kn Ke0 Kr h) = wpx none Tryd.prog 21 n18_c1 (Q3 Kn Ke0 Kr) (((⟨g.v, []⟩ : Env).upd (some 0) (.int .i32 x0)).upd (some 4) (.bool x4)) h := by kernel_rfl
  exact e ▸ hS
noncomputable def n20_c1 : Code := cFst n18_c2
noncomputable def n20_c2 : Code := cSnd n18_c2
noncomputable def n21_c1 : Code := cFst n20_c2
noncomputable def n21_c2 : Code := cSnd n20_c2
abbrev n22 (x0 : Int) (x4 : Bool) (Kn : T3) (Ke0 : T1) (Kr : T0) (h : H) : Prop :=
  Kn x0 x4 h
theorem n22_ok (x0 : Int) (x4 : Bool) (Kn : T3) (Ke0 : T1) (Kr : T0) (g : Env) (hg : E3 g x0 x4) (h : H) (hS : n22 x0 x4 Kn Ke0 Kr h) : wpC none Tryd.prog 21 n21_c1 (Q3 Kn Ke0 Kr) g h := by
  obtain ⟨hg0, hg4, hds⟩ := hg
  refine wpC_of_wpx (by kernel_rfl) (by kernel_rfl) (g' := ((⟨g.v, []⟩ : Env).upd (some 0) (.int .i32 x0)).upd (some 4) (.bool x4)) (by rw [env_ds hds, upd_self hg0, upd_self hg4]) ?_
  have e : (n22 x0 x4 Kn Ke0 Kr h) = wpx none Tryd.prog 21 n21_c1 (Q3 Kn Ke0 Kr) (((⟨g.v, []⟩ : Env).upd (some 0) (.int .i32 x0)).upd (some 4) (.bool x4)) h := by kernel_rfl
  exact e ▸ hS
noncomputable def n23_c1 : Code := cFst n21_c2
noncomputable def n23_c2 : Code := cSnd n21_c2
abbrev n24 (x0 : Int) (x3 : Int) (x4 : Bool) (Kn : T3) (Ke0 : T1) (Kr : T0) (h : H) : Prop :=
  cond x4 (Kn x0 x4 h) (Spl (x3 = (5760 : Int)) (Kn x0 true h) (Spl (x3 = (8239 : Int)) (Kn x0 true h) (Spl (x3 = (8287 : Int)) (Kn x0 true h) (Spl (x3 = (12288 : Int)) (Kn x0 true h) (Kn x0 false h)))))
theorem n24_ok (x0 : Int) (x3 : Int) (x4 : Bool) (Kn : T3) (Ke0 : T1) (Kr : T0) (g : Env) (hg : E4 g x0 x3 x4) (h : H) (hS : n24 x0 x3 x4 Kn Ke0 Kr h) : wpC none Tryd.prog 21 n23_c2 (Q3 Kn Ke0 Kr) g h := by
  obtain ⟨hg0, hg3, hg4, hds⟩ := hg
  refine wpC_of_wpx (by kernel_rfl) (by kernel_rfl) (g' := (((⟨g.v, []⟩ : Env).upd (some 0) (.int .i32 x0)).upd (some 3) (.int .i32 x3)).upd (some 4) (.bool x4)) (by rw [env_ds hds, upd_self hg0, upd_self hg3, upd_self hg4]) ?_
  have e : (n24 x0 x3 x4 Kn Ke0 Kr h) = wpx none Tryd.prog 21 n23_c2 (Q3 Kn Ke0 Kr) ((((⟨g.v, []⟩ : Env).upd (some 0) (.int .i32 x0)).upd (some 3) (.int .i32 x3)).upd (some 4) (.bool x4)) h := by kernel_rfl
  exact e ▸ hS
def Q4 (Kn : T4) (Ke0 : T1) (Kr : T0) : XPost
  | .normal, g, h => D4 Kn g h
  | .ret, g, h => D0 Kr g h
  | .exit id, g, h => cond (Nat.beq id 0) (D1 Ke0 g h) (False)
  | _, _, _ => False
abbrev n23 (x0 : Int) (x3 : Int) (Kn : T3) (Ke0 : T1) (Kr : T0) (h : H) : Prop :=
  Spl (x3 = (160 : Int)) (n24 x0 x3 true Kn Ke0 Kr h) (n24 x0 x3 false Kn Ke0 Kr h)
theorem n23_ok (x0 : Int) (x3 : Int) (Kn : T3) (Ke0 : T1) (Kr : T0) (g : Env) (hg : E2 g x0 x3) (h : H) (hS : n23 x0 x3 Kn Ke0 Kr h) : wpC none Tryd.prog 21 n21_c2 (Q3 Kn Ke0 Kr) g h := by
  obtain ⟨hg0, hg3, hds⟩ := hg
  refine wpC_seq' (x := n23_c1) (y := n23_c2) (Q' := (Q4 (fun z0 z3 z4 h => n24 z0 z3 z4 Kn Ke0 Kr h) Ke0 Kr)) (by kernel_rfl) ?_ ?_
  · refine wpC_of_wpx (by kernel_rfl) (by kernel_rfl) (g' := ((⟨g.v, []⟩ : Env).upd (some 0) (.int .i32 x0)).upd (some 3) (.int .i32 x3)) (by rw [env_ds hds, upd_self hg0, upd_self hg3]) ?_
    have e : (n23 x0 x3 Kn Ke0 Kr h) = wpx none Tryd.prog 21 n23_c1 (Q4 (fun z0 z3 z4 h => n24 z0 z3 z4 Kn Ke0 Kr h) Ke0 Kr) (((⟨g.v, []⟩ : Env).upd (some 0) (.int .i32 x0)).upd (some 3) (.int .i32 x3)) h := by kernel_rfl
    exact e ▸ hS
  · intro e g' h' hq
    cases e with
    | normal =>
      have hq : D4 (fun z0 z3 z4 h => n24 z0 z3 z4 Kn Ke0 Kr h) g' h' := hq
      obtain ⟨y0, y3, y4, hg', hq⟩ := D4_ok hq
      exact n24_ok y0 y3 y4 Kn Ke0 Kr g' hg' h' hq
    | _ => exact hq
abbrev n21 (x0 : Int) (x3 : Int) (x4 : Bool) (Kn : T3) (Ke0 : T1) (Kr : T0) (h : H) : Prop := cond x4 (n22 x0 true Kn Ke0 Kr h) (n23 x0 x3 Kn Ke0 Kr h)
theorem n21_ok (x0 : Int) (x3 : Int) (x4 : Bool) (Kn : T3) (Ke0 : T1) (Kr : T0) (g : Env) (hg : E4 g x0 x3 x4) (h : H) (hS : n21 x0 x3 x4 Kn Ke0 Kr h) : wpC none Tryd.prog 21 n20_c2 (Q3 Kn Ke0 Kr) g h := by
  obtain ⟨hg0, hg3, hg4, hds⟩ := hg
  have hx : evalE 21 g (.tmp 4) = .bool x4 := by
    show cond (Nat.blt 4 21) (g.v 4) undef = _
    rw [hg4]; rfl
  unfold n21 at hS
  refine wpC_cond' (o := .tmp 4) (x := n21_c1) (y := n21_c2) (by kernel_rfl) hx (fun hb => ?_) (fun hb => ?_)
  · subst hb
    exact n22_ok x0 true Kn Ke0 Kr g ⟨hg0, hg4, hds⟩ h hS
  · subst hb
    exact n23_ok x0 x3 Kn Ke0 Kr g ⟨hg0, hg3, hds⟩ h hS
abbrev n20 (x0 : Int) (x3 : Int) (Kn : T3) (Ke0 : T1) (Kr : T0) (h : H) : Prop :=
  Spl (x3 = (32 : Int)) (n21 x0 x3 true Kn Ke0 Kr h) (n21 x0 x3 false Kn Ke0 Kr h)
theorem n20_ok (x0 : Int) (x3 : Int) (Kn : T3) (Ke0 : T1) (Kr : T0) (g : Env) (hg : E2 g x0 x3) (h : H) (hS : n20 x0 x3 Kn Ke0 Kr h) : wpC none Tryd.prog 21 n18_c2 (Q3 Kn Ke0 Kr) g h := by
  obtain ⟨hg0, hg3, hds⟩ := hg
  refine wpC_seq' (x := n20_c1) (y := n20_c2) (Q' := (Q4 (fun z0 z3 z4 h => n21 z0 z3 z4 Kn Ke0 Kr h) Ke0 Kr)) (by kernel_rfl) ?_ ?_
  · refine wpC_of_wpx (by kernel_rfl) (by kernel_rfl) (g' := ((⟨g.v, []⟩ : Env).upd (some 0) (.int .i32 x0)).upd (some 3) (.int .i32 x3)) (by rw [env_ds hds, upd_self hg0, upd_self hg3]) ?_
    have e : (n20 x0 x3 Kn Ke0 Kr h) = wpx none Tryd.prog 21 n20_c1 (Q4 (fun z0 z3 z4 h => n21 z0 z3 z4 Kn Ke0 Kr h) Ke0 Kr) (((⟨g.v, []⟩ : Env).upd (some 0) (.int .i32 x0)).upd (some 3) (.int .i32 x3)) h := by kernel_rfl
    exact e ▸ hS
  · intro e g' h' hq
    cases e with
    | normal =>
      have hq : D4 (fun z0 z3 z4 h => n21 z0 z3 z4 Kn Ke0 Kr h) g' h' := hq
      obtain ⟨y0, y3, y4, hg', hq⟩ := D4_ok hq
      exact n21_ok y0 y3 y4 Kn Ke0 Kr g' hg' h' hq
    | _ => exact hq
abbrev n18 (x0 : Int) (x3 : Int) (x4 : Bool) (Kn : T3) (Ke0 : T1) (Kr : T0) (h : H) : Prop := cond x4 (n19 x0 true Kn Ke0 Kr h) (n20 x0 x3 Kn Ke0 Kr h)
theorem n18_ok (x0 : Int) (x3 : Int) (x4 : Bool) (Kn : T3) (Ke0 : T1) (Kr : T0) (g : Env) (hg : E4 g x0 x3 x4) (h : H) (hS : n18 x0 x3 x4 Kn Ke0 Kr h) : wpC none Tryd.prog 21 n17_c2 (Q3 Kn Ke0 Kr) g h := by
  obtain ⟨hg0, hg3, hg4, hds⟩ := hg
  have hx : evalE 21 g (.tmp 4) = .bool x4 := by
    show cond (Nat.blt 4 21) (g.v 4) undef = _
    rw [hg4]; rfl
  unfold n18 at hS
  refine wpC_cond' (o := .tmp 4) (x := n18_c1) (y := n18_c2) (by kernel_rfl) hx (fun hb => ?_) (fun hb => ?_)
  · subst hb
    exact n19_ok x0 true Kn Ke0 Kr g ⟨hg0, hg4, hds⟩ h hS
  · subst hb
    exact n20_ok x0 x3 Kn Ke0 Kr g ⟨hg0, hg3, hds⟩ h hS
abbrev n17 (x0 : Int) (x3 : Int) (Kn : T3) (Ke0 : T1) (Kr : T0) (h : H) : Prop :=
  Spl (x3 = (13 : Int)) (n18 x0 x3 true Kn Ke0 Kr h) (n18 x0 x3 false Kn Ke0 Kr h)
theorem n17_ok (x0 : Int) (x3 : Int) (Kn : T3) (Ke0 : T1) (Kr : T0) (g : Env) (hg : E2 g x0 x3) (h : H) (hS : n17 x0 x3 Kn Ke0 Kr h) : wpC none Tryd.prog 21 n15_c2 (Q3 Kn Ke0 Kr) g h := by
  obtain ⟨hg0, hg3, hds⟩ := hg
  refine wpC_seq' (x := n17_c1) (y := n17_c2) (Q' := (Q4 (fun z0 z3 z4 h => n18 z0 z3 z4 Kn Ke0 Kr h) Ke0 Kr)) (by kernel_rfl) ?_ ?_
  · refine wpC_of_wpx (by kernel_rfl) (by kernel_rfl) (g' := ((⟨g.v, []⟩ : Env).upd (some 0) (.int .i32 x0)).upd (some 3) (.int .i32 x3)) (by rw [env_ds hds, upd_self hg0, upd_self hg3]) ?_
    have e : (n17 x0 x3 Kn Ke0 Kr h) = wpx none Tryd.prog 21 n17_c1 (Q4 (fun z0 z3 z4 h => n18 z0 z3 z4 Kn Ke0 Kr h) Ke0 Kr) (((⟨g.v, []⟩ : Env).upd (some 0) (.int .i32 x0)).upd (some 3) (.int .i32 x3)) h := by kernel_rfl
    exact e ▸ hS
  · intro e g' h' hq
    cases e with
    | normal =>
      have hq : D4 (fun z0 z3 z4 h => n18 z0 z3 z4 Kn Ke0 Kr h) g' h' := hq
      obtain ⟨y0, y3, y4, hg', hq⟩ := D4_ok hq
      exact n18_ok y0 y3 y4 Kn Ke0 Kr g' hg' h' hq
    | _ => exact hq
abbrev n15 (x0 : Int) (x3 : Int) (x4 : Bool) (Kn : T3) (Ke0 : T1) (Kr : T0) (h : H) : Prop := cond x4 (n16 x0 true Kn Ke0 Kr h) (n17 x0 x3 Kn Ke0 Kr h)
theorem n15_ok (x0 : Int) (x3 : Int) (x4 : Bool) (Kn : T3) (Ke0 : T1) (Kr : T0) (g : Env) (hg : E4 g x0 x3 x4) (h : H) (hS : n15 x0 x3 x4 Kn Ke0 Kr h) : wpC none Tryd.prog 21 n14_c2 (Q3 Kn Ke0 Kr) g h := by
  obtain ⟨hg0, hg3, hg4, hds⟩ := hg
  have hx : evalE 21 g (.tmp 4) = .bool x4 := by
    show cond (Nat.blt 4 21) (g.v 4) undef = _
    rw [hg4]; rfl
  unfold n15 at hS
  refine wpC_cond' (o := .tmp 4) (x := n15_c1) (y := n15_c2) (by kernel_rfl) hx (fun hb => ?_) (fun hb => ?_)
  · subst hb
    exact n16_ok x0 true Kn Ke0 Kr g ⟨hg0, hg4, hds⟩ h hS
  · subst hb
    exact n17_ok x0 x3 Kn Ke0 Kr g ⟨hg0, hg3, hds⟩ h hS
abbrev n14 (x0 : Int) (x3 : Int) (Kn : T3) (Ke0 : T1) (Kr : T0) (h : H) : Prop :=
  Spl (x3 = (12 : Int)) (n15 x0 x3 true Kn Ke0 Kr h) (n15 x0 x3 false Kn Ke0 Kr h)
theorem n14_ok (x0 : Int) (x3 : Int) (Kn : T3) (Ke0 : T1) (Kr : T0) (g : Env) (hg : E2 g x0 x3) (h : H) (hS : n14 x0 x3 Kn Ke0 Kr h) : wpC none Tryd.prog 21 n12_c2 (Q3 Kn Ke0 Kr) g h := by
  obtain ⟨hg0, hg3, hds⟩ := hg
  refine wpC_seq' (x := n14_c1) (y := n14_c2) (Q' := (Q4 (fun z0 z3 z4 h => n15 z0 z3 z4 Kn Ke0 Kr h) Ke0 Kr)) (by kernel_rfl) ?_ ?_
  · refine wpC_of_wpx (by kernel_rfl) (by kernel_rfl) (g' := ((⟨g.v, []⟩ : Env).upd (some 0) (.int .i32 x0)).upd (some 3) (.int .i32 x3)) (by rw [env_ds hds, upd_self hg0, upd_self hg3]) ?_
    have e : (n14 x0 x3 Kn Ke0 Kr h) = wpx none Tryd.prog 21 n14_c1 (Q4 (fun z0 z3 z4 h => n15 z0 z3 z4 Kn Ke0 Kr h) Ke0 Kr) (((⟨g.v, []⟩ : Env).upd (some 0) (.int .i32 x0)).upd (some 3) (.int .i32 x3)) h := by kernel_rfl
    exact e ▸ hS
  · intro e g' h' hq
    cases e with
    | normal =>
      have hq : D4 (fun z0 z3 z4 h => n15 z0 z3 z4 Kn Ke0 Kr h) g' h' := hq
      obtain ⟨y0, y3, y4, hg', hq⟩ := D4_ok hq
      exact n15_ok y0 y3 y4 Kn Ke0 Kr g' hg' h' hq
    | _ => exact hq
abbrev n12 (x0 : Int) (x3 : Int) (x4 : Bool) (Kn : T3) (Ke0 : T1) (Kr : T0) (h : H) : Prop := cond x4 (n13 x0 true Kn Ke0 Kr h) (n14 x0 x3 Kn Ke0 Kr h)
theorem n12_ok (x0 : Int) (x3 : Int) (x4 : Bool) (Kn : T3) (Ke0 : T1) (Kr : T0) (g : Env) (hg : E4 g x0 x3 x4) (h : H) (hS : n12 x0 x3 x4 Kn Ke0 Kr h) : wpC none Tryd.prog 21 n11_c2 (Q3 Kn Ke0 Kr) g h := by
  obtain ⟨hg0, hg3, hg4, hds⟩ := hg
  have hx : evalE 21 g (.tmp 4) = .bool x4 := by
    show cond (Nat.blt 4 21) (g.v 4) undef = _
    rw [hg4]; rfl
  unfold n12 at hS
  refine wpC_cond' (o := .tmp 4) (x := n12_c1) (y := n12_c2) (by kernel_rfl) hx (fun hb => ?_) (fun hb => ?_)
  · subst hb
    exact n13_ok x0 true Kn Ke0 Kr g ⟨hg0, hg4, hds⟩ h hS
  · subst hb
    exact n14_ok x0 x3 Kn Ke0 Kr g ⟨hg0, hg3, hds⟩ h hS
abbrev n11 (x0 : Int) (x3 : Int) (Kn : T3) (Ke0 : T1) (Kr : T0) (h : H) : Prop :=
  Spl (x3 = (10 : Int)) (n12 x0 x3 true Kn Ke0 Kr h) (n12 x0 x3 false Kn Ke0 Kr h)
theorem n11_ok (x0 : Int) (x3 : Int) (Kn : T3) (Ke0 : T1) (Kr : T0) (g : Env) (hg : E2 g x0 x3) (h : H) (hS : n11 x0 x3 Kn Ke0 Kr h) : wpC none Tryd.prog 21 n9_c2 (Q3 Kn Ke0 Kr) g h := by
  obtain ⟨hg0, hg3, hds⟩ := hg
  refine wpC_seq' (x := n11_c1) (y := n11_c2) (Q' := (Q4 (fun z0 z3 z4 h => n12 z0 z3 z4 Kn Ke0 Kr h) Ke0 Kr)) (by kernel_rfl) ?_ ?_
  · refine wpC_of_wpx (by kernel_rfl) (by kernel_rfl) (g' := ((⟨g.v, []⟩ : Env).upd (some 0) (.int .i32 x0)).upd (some 3) (.int .i32 x3)) (by rw [env_ds hds, upd_self hg0, upd_self hg3]) ?_
    have e : (n11 x0 x3 Kn Ke0 Kr h) = wpx none Tryd.prog 21 n11_c1 (Q4 (fun z0 z3 z4 h => n12 z0 z3 z4 Kn Ke0 Kr h) Ke0 Kr) (((⟨g.v, []⟩ : Env).upd (some 0) (.int .i32 x0)).upd (some 3) (.int .i32 x3)) h := by kernel_rfl
    exact e ▸ hS
  · intro e g' h' hq
    cases e with
    | normal =>
      have hq : D4 (fun z0 z3 z4 h => n12 z0 z3 z4 Kn Ke0 Kr h) g' h' := hq
      obtain ⟨y0, y3, y4, hg', hq⟩ := D4_ok hq
      exact n12_ok y0 y3 y4 Kn Ke0 Kr g' hg' h' hq
    | _ => exact hq
abbrev n9 (x0 : Int) (x3 : Int) (x4 : Bool) (Kn : T3) (Ke0 : T1) (Kr : T0) (h : H) : Prop := cond x4 (n10 x0 true Kn Ke0 Kr h) (n11 x0 x3 Kn Ke0 Kr h)
theorem n9_ok (x0 : Int) (x3 : Int) (x4 : Bool) (Kn : T3) (Ke0 : T1) (Kr : T0) (g : Env) (hg : E4 g x0 x3 x4) (h : H) (hS : n9 x0 x3 x4 Kn Ke0 Kr h) : wpC none Tryd.prog 21 n8_c2 (Q3 Kn Ke0 Kr) g h := by
  obtain ⟨hg0, hg3, hg4, hds⟩ := hg
  have hx : evalE 21 g (.tmp 4) = .bool x4 := by
    show cond (Nat.blt 4 21) (g.v 4) undef = _
    rw [hg4]; rfl
  unfold n9 at hS
  refine wpC_cond' (o := .tmp 4) (x := n9_c1) (y := n9_c2) (by kernel_rfl) hx (fun hb => ?_) (fun hb => ?_)
  · subst hb
    exact n10_ok x0 true Kn Ke0 Kr g ⟨hg0, hg4, hds⟩ h hS
  · subst hb
    exact n11_ok x0 x3 Kn Ke0 Kr g ⟨hg0, hg3, hds⟩ h hS
abbrev n8 (x0 : Int) (x3 : Int) (Kn : T3) (Ke0 : T1) (Kr : T0) (h : H) : Prop :=
  Spl (x3 = (9 : Int)) (n9 x0 x3 true Kn Ke0 Kr h) (n9 x0 x3 false Kn Ke0 Kr h)
theorem n8_ok (x0 : Int) (x3 : Int) (Kn : T3) (Ke0 : T1) (Kr : T0) (g : Env) (hg : E2 g x0 x3) (h : H) (hS : n8 x0 x3 Kn Ke0 Kr h) : wpC none Tryd.prog 21 n6_c1 (Q3 Kn Ke0 Kr) g h := by
  obtain ⟨hg0, hg3, hds⟩ := hg
  refine wpC_seq' (x := n8_c1) (y := n8_c2) (Q' := (Q4 (fun z0 z3 z4 h => n9 z0 z3 z4 Kn Ke0 Kr h) Ke0 Kr)) (by kernel_rfl) ?_ ?_
  · refine wpC_of_wpx (by kernel_rfl) (by kernel_rfl) (g' := ((⟨g.v, []⟩ : Env).upd (some 0) (.int .i32 x0)).upd (some 3) (.int .i32 x3)) (by rw [env_ds hds, upd_self hg0, upd_self hg3]) ?_
    have e : (n8 x0 x3 Kn Ke0 Kr h) = wpx none Tryd.prog 21 n8_c1 (Q4 (fun z0 z3 z4 h => n9 z0 z3 z4 Kn Ke0 Kr h) Ke0 Kr) (((⟨g.v, []⟩ : Env).upd (some 0) (.int .i32 x0)).upd (some 3) (.int .i32 x3)) h := by kernel_rfl
    exact e ▸ hS
  · intro e g' h' hq
    cases e with
    | normal =>
      have hq : D4 (fun z0 z3 z4 h => n9 z0 z3 z4 Kn Ke0 Kr h) g' h' := hq
      obtain ⟨y0, y3, y4, hg', hq⟩ := D4_ok hq
      exact n9_ok y0 y3 y4 Kn Ke0 Kr g' hg' h' hq
    | _ => exact hq
abbrev n6 (x0 : Int) (x3 : Int) (Kn : T1) (Ke0 : T1) (Kr : T0) (h : H) : Prop := n8 x0 x3 (fun z0 z4 h => n7 z0 z4 Kn Ke0 Kr h) Ke0 Kr h
theorem n6_ok (x0 : Int) (x3 : Int) (Kn : T1) (Ke0 : T1) (Kr : T0) (g : Env) (hg : E2 g x0 x3) (h : H) (hS : n6 x0 x3 Kn Ke0 Kr h) : wpC none Tryd.prog 21 n5_c1 (Q2 Kn Ke0 Kr) g h := by
  refine wpC_seq' (x := n6_c1) (y := n6_c2) (by kernel_rfl) (n8_ok x0 x3 (fun z0 z4 h => n7 z0 z4 Kn Ke0 Kr h) Ke0 Kr g hg h hS) ?_
  intro e g' h' hq
  cases e with
  | normal =>
    have hq : D3 (fun z0 z4 h => n7 z0 z4 Kn Ke0 Kr h) g' h' := hq
    obtain ⟨y0, y4, hg', hq⟩ := D3_ok hq
    exact n7_ok y0 y4 Kn Ke0 Kr g' hg' h' hq
  | _ => exact hq
abbrev n5 (x0 : Int) (x3 : Int) (Kn : T1) (Kr : T0) (h : H) : Prop := n6 x0 x3 Kn Kn Kr h
theorem n5_ok (x0 : Int) (x3 : Int) (Kn : T1) (Kr : T0) (g : Env) (hg : E2 g x0 x3) (h : H) (hS : n5 x0 x3 Kn Kr h) : wpC none Tryd.prog 21 n4_c2 (Q1 Kn Kr) g h := by
  refine wpC_block' (id := 0) (x := n5_c1) (by kernel_rfl) (n6_ok x0 x3 Kn Kn Kr g hg h hS) ?_
  intro e g' h' hq
  cases e <;> exact hq
def Q5 (Kn : T2) (Kr : T0) : XPost
  | .normal, g, h => D2 Kn g h
  | .ret, g, h => D0 Kr g h
  | _, _, _ => False
abbrev n4 (x0 : Int) (Kn : T1) (Kr : T0) (h : H) : Prop :=
  n5 x0 x0 Kn Kr h
theorem n4_ok (x0 : Int) (Kn : T1) (Kr : T0) (g : Env) (hg : E1 g x0) (h : H) (hS : n4 x0 Kn Kr h) : wpC none Tryd.prog 21 n2_c1 (Q1 Kn Kr) g h := by
  obtain ⟨hg0, hds⟩ := hg
  refine wpC_seq' (x := n4_c1) (y := n4_c2) (Q' := (Q5 (fun z0 z3 h => n5 z0 z3 Kn Kr h) Kr)) (by kernel_rfl) ?_ ?_
  · refine wpC_of_wpx (by kernel_rfl) (by kernel_rfl) (g' := (⟨g.v, []⟩ : Env).upd (some 0) (.int .i32 x0)) (by rw [env_ds hds, upd_self hg0]) ?_
    have e : (n4 x0 Kn Kr h) = wpx none Tryd.prog 21 n4_c1 (Q5 (fun z0 z3 h => n5 z0 z3 Kn Kr h) Kr) ((⟨g.v, []⟩ : Env).upd (some 0) (.int .i32 x0)) h := by kernel_rfl
    exact e ▸ hS
  · intro e g' h' hq
    cases e with
    | normal =>
      have hq : D2 (fun z0 z3 h => n5 z0 z3 Kn Kr h) g' h' := hq
      obtain ⟨y0, y3, hg', hq⟩ := D2_ok hq
      exact n5_ok y0 y3 Kn Kr g' hg' h' hq
    | _ => exact hq
abbrev n2 (x0 : Int) (Kn : T0) (Kr : T0) (h : H) : Prop := n4 x0 (fun z0 h => n3 z0 Kn Kr h) Kr h
theorem n2_ok (x0 : Int) (Kn : T0) (Kr : T0) (g : Env) (hg : E1 g x0) (h : H) (hS : n2 x0 Kn Kr h) : wpC none Tryd.prog 21 n1_c2 (Q0 Kn Kr) g h := by
  refine wpC_seq' (x := n2_c1) (y := n2_c2) (by kernel_rfl) (n4_ok x0 (fun z0 h => n3 z0 Kn Kr h) Kr g hg h hS) ?_
  intro e g' h' hq
  cases e with
  | normal =>
    have hq : D1 (fun z0 h => n3 z0 Kn Kr h) g' h' := hq
    obtain ⟨y0, hg', hq⟩ := D1_ok hq
    exact n3_ok y0 Kn Kr g' hg' h' hq
  | _ => exact hq
abbrev n1 (x0 : Int) (Kn : T0) (Kr : T0) (h : H) : Prop :=
  n2 x0 Kn Kr h
theorem n1_ok (x0 : Int) (Kn : T0) (Kr : T0) (g : Env) (hg : E1 g x0) (h : H) (hS : n1 x0 Kn Kr h) : wpC none Tryd.prog 21 code (Q0 Kn Kr) g h := by
  obtain ⟨hg0, hds⟩ := hg
  refine wpC_seq' (x := n1_c1) (y := n1_c2) (Q' := (Q1 (fun z0 h => n2 z0 Kn Kr h) Kr)) (by kernel_rfl) ?_ ?_
  · refine wpC_of_wpx (by kernel_rfl) (by kernel_rfl) (g' := (⟨g.v, []⟩ : Env).upd (some 0) (.int .i32 x0)) (by rw [env_ds hds, upd_self hg0]) ?_
    have e : (n1 x0 Kn Kr h) = wpx none Tryd.prog 21 n1_c1 (Q1 (fun z0 h => n2 z0 Kn Kr h) Kr) ((⟨g.v, []⟩ : Env).upd (some 0) (.int .i32 x0)) h := by kernel_rfl
    exact e ▸ hS
  · intro e g' h' hq
    cases e with
    | normal =>
      have hq : D1 (fun z0 h => n2 z0 Kn Kr h) g' h' := hq
      obtain ⟨y0, hg', hq⟩ := D1_ok hq
      exact n2_ok y0 Kn Kr g' hg' h' hq
    | _ => exact hq
/-- WHAT tympan/class.Blank ASKS -/
abbrev asks (x0 : Int) (K : Value → H → Prop) (h : H) : Prop := n1 x0 (fun y2 h => K (.bool y2) h) (fun y2 h => K (.bool y2) h) h
theorem ok (x0 : Int) (K : Value → H → Prop) (h : H) (hS : asks x0 K h) : HCalls Tryd.prog 18 ⟨[(.int .i32 x0)]⟩ h K := by
  refine calls_of_wpC (c := code) Tryd.func18 (by kernel_rfl) (Nat.le_of_ble_eq_true (by kernel_rfl)) ?_
  refine (n1_ok x0 (fun y2 h => K (.bool y2) h) (fun y2 h => K (.bool y2) h) (env0 [(.int .i32 x0)]) ⟨rfl, rfl⟩ h hS).mono ?_
  intro e g' h' hq
  cases e with
  | normal =>
    have hq : D0 (fun y2 h => K (.bool y2) h) g' h' := hq
    obtain ⟨y2, ⟨hg2, hd⟩, hq⟩ := D0_ok hq
    show leaveX g'.ds h' _
    rw [hd]
    show K (g'.v 2) h'
    rw [hg2]
    exact hq
  | ret =>
    have hq : D0 (fun y2 h => K (.bool y2) h) g' h' := hq
    obtain ⟨y2, ⟨hg2, hd⟩, hq⟩ := D0_ok hq
    show leaveX g'.ds h' _
    rw [hd]
    show K (g'.v 2) h'
    rw [hg2]
    exact hq
  | _ => exact hq
end Sx.class_Blank

/-! ### tympan/auto.page -/
namespace Sx.auto_page
noncomputable def code : Code := bodyOf Tryd.f20
abbrev T0 := (List UInt8) → (List UInt8) → H → Prop
def E0 (g : Env) (x2 : List UInt8) (x3 : List UInt8) : Prop := g.v 2 = (S x2) ∧ g.v 3 = (S x3) ∧ g.ds = []
def D0 (K : T0) (g : Env) (h : H) : Prop := nilDs g.ds (vStr (g.v 2) fun s1 => vStr (g.v 3) fun s2 => K s1 s2 h)
theorem D0_ok {K : T0} {g : Env} {h : H} (hq : D0 K g h) : ∃ (x2 : List UInt8) (x3 : List UInt8), E0 g x2 x3 ∧ K x2 x3 h := by
  obtain ⟨hd, hq⟩ := nilDs_ok hq
  obtain ⟨y4, e3, q5⟩ := vStr_ok hq
  obtain ⟨y7, e6, q8⟩ := vStr_ok q5
  exact ⟨y4, y7, ⟨e3, e6, hd⟩, q8⟩
def Q0 (Kn : T0) (Kr : T0) : XPost
  | .normal, g, h => D0 Kn g h
  | .ret, g, h => D0 Kr g h
  | _, _, _ => False
abbrev T1 := (List UInt8) → H → Prop
def E1 (g : Env) (x0 : List UInt8) : Prop := g.v 0 = (S x0) ∧ g.ds = []
def D1 (K : T1) (g : Env) (h : H) : Prop := nilDs g.ds (vStr (g.v 0) fun s9 => K s9 h)
theorem D1_ok {K : T1} {g : Env} {h : H} (hq : D1 K g h) : ∃ (x0 : List UInt8), E1 g x0 ∧ K x0 h := by
  obtain ⟨hd, hq⟩ := nilDs_ok hq
  obtain ⟨y11, e10, q12⟩ := vStr_ok hq
  exact ⟨y11, ⟨e10, hd⟩, q12⟩
noncomputable def n1_c1 : Code := cFst code
noncomputable def n1_c2 : Code := cSnd code
noncomputable def n2_c1 : Code := cFst n1_c2
noncomputable def n2_c2 : Code := cSnd n1_c2
abbrev T2 := (List UInt8) → (List UInt8) → (List UInt8) → H → Prop
def E2 (g : Env) (x0 : List UInt8) (x4 : List UInt8) (x5 : List UInt8) : Prop := g.v 0 = (S x0) ∧ g.v 4 = (S x4) ∧ g.v 5 = (S x5) ∧ g.ds = []
def D2 (K : T2) (g : Env) (h : H) : Prop := nilDs g.ds (vStr (g.v 0) fun s13 => vStr (g.v 4) fun s14 => vStr (g.v 5) fun s15 => K s13 s14 s15 h)
theorem D2_ok {K : T2} {g : Env} {h : H} (hq : D2 K g h) : ∃ (x0 : List UInt8) (x4 : List UInt8) (x5 : List UInt8), E2 g x0 x4 x5 ∧ K x0 x4 x5 h := by
  obtain ⟨hd, hq⟩ := nilDs_ok hq
  obtain ⟨y17, e16, q18⟩ := vStr_ok hq
  obtain ⟨y20, e19, q21⟩ := vStr_ok q18
  obtain ⟨y23, e22, q24⟩ := vStr_ok q21
  exact ⟨y17, y20, y23, ⟨e16, e19, e22, hd⟩, q24⟩
noncomputable def n3_c1 : Code := cFst n2_c2
noncomputable def n3_c2 : Code := cSnd n2_c2
noncomputable def n4_c1 : Code := cFst n3_c2
noncomputable def n4_c2 : Code := cSnd n3_c2
noncomputable def n5_c1 : Code := cFst n4_c2
noncomputable def n5_c2 : Code := cSnd n4_c2
noncomputable def n6_c1 : Code := cFst n5_c2
noncomputable def n6_c2 : Code := cSnd n5_c2
abbrev T3 := (List UInt8) → (List UInt8) → (List UInt8) → Int → H → Prop
def E3 (g : Env) (x0 : List UInt8) (x4 : List UInt8) (x5 : List UInt8) (x8 : Int) : Prop := g.v 0 = (S x0) ∧ g.v 4 = (S x4) ∧ g.v 5 = (S x5) ∧ g.v 8 = (.int .i64 x8) ∧ g.ds = []
def D3 (K : T3) (g : Env) (h : H) : Prop := nilDs g.ds (vStr (g.v 0) fun s25 => vStr (g.v 4) fun s26 => vStr (g.v 5) fun s27 => vInt .i64 (g.v 8) fun i28 => K s25 s26 s27 i28 h)
theorem D3_ok {K : T3} {g : Env} {h : H} (hq : D3 K g h) : ∃ (x0 : List UInt8) (x4 : List UInt8) (x5 : List UInt8) (x8 : Int), E3 g x0 x4 x5 x8 ∧ K x0 x4 x5 x8 h := by
  obtain ⟨hd, hq⟩ := nilDs_ok hq
  obtain ⟨y30, e29, q31⟩ := vStr_ok hq
  obtain ⟨y33, e32, q34⟩ := vStr_ok q31
  obtain ⟨y36, e35, q37⟩ := vStr_ok q34
  obtain ⟨y39, e38, q40⟩ := vInt_ok q37
  exact ⟨y30, y33, y36, y39, ⟨e29, e32, e35, e38, hd⟩, q40⟩
noncomputable def n7_c1 : Code := cFst n6_c2
noncomputable def n7_c2 : Code := cSnd n6_c2
noncomputable def n8_c1 : Code := cFst n7_c2
noncomputable def n8_c2 : Code := cSnd n7_c2
abbrev T4 := (List UInt8) → (List UInt8) → Int → H → Prop
def E4 (g : Env) (x0 : List UInt8) (x5 : List UInt8) (x8 : Int) : Prop := g.v 0 = (S x0) ∧ g.v 5 = (S x5) ∧ g.v 8 = (.int .i64 x8) ∧ g.ds = []
def D4 (K : T4) (g : Env) (h : H) : Prop := nilDs g.ds (vStr (g.v 0) fun s41 => vStr (g.v 5) fun s42 => vInt .i64 (g.v 8) fun i43 => K s41 s42 i43 h)
theorem D4_ok {K : T4} {g : Env} {h : H} (hq : D4 K g h) : ∃ (x0 : List UInt8) (x5 : List UInt8) (x8 : Int), E4 g x0 x5 x8 ∧ K x0 x5 x8 h := by
  obtain ⟨hd, hq⟩ := nilDs_ok hq
  obtain ⟨y45, e44, q46⟩ := vStr_ok hq
  obtain ⟨y48, e47, q49⟩ := vStr_ok q46
  obtain ⟨y51, e50, q52⟩ := vInt_ok q49
  exact ⟨y45, y48, y51, ⟨e44, e47, e50, hd⟩, q52⟩
noncomputable def n9_c1 : Code := cFst n8_c2
noncomputable def n9_c2 : Code := cSnd n8_c2
abbrev T5 := (List UInt8) → (List UInt8) → Int → (List UInt8) → H → Prop
def E5 (g : Env) (x0 : List UInt8) (x5 : List UInt8) (x8 : Int) (x9 : List UInt8) : Prop := g.v 0 = (S x0) ∧ g.v 5 = (S x5) ∧ g.v 8 = (.int .i64 x8) ∧ g.v 9 = (S x9) ∧ g.ds = []
def D5 (K : T5) (g : Env) (h : H) : Prop := nilDs g.ds (vStr (g.v 0) fun s53 => vStr (g.v 5) fun s54 => vInt .i64 (g.v 8) fun i55 => vStr (g.v 9) fun s56 => K s53 s54 i55 s56 h)
theorem D5_ok {K : T5} {g : Env} {h : H} (hq : D5 K g h) : ∃ (x0 : List UInt8) (x5 : List UInt8) (x8 : Int) (x9 : List UInt8), E5 g x0 x5 x8 x9 ∧ K x0 x5 x8 x9 h := by
  obtain ⟨hd, hq⟩ := nilDs_ok hq
  obtain ⟨y58, e57, q59⟩ := vStr_ok hq
  obtain ⟨y61, e60, q62⟩ := vStr_ok q59
  obtain ⟨y64, e63, q65⟩ := vInt_ok q62
  obtain ⟨y67, e66, q68⟩ := vStr_ok q65
  exact ⟨y58, y61, y64, y67, ⟨e57, e60, e63, e66, hd⟩, q68⟩
noncomputable def n10_c1 : Code := cFst n9_c2
noncomputable def n10_c2 : Code := cSnd n9_c2
abbrev T6 := (List UInt8) → Int → (List UInt8) → H → Prop
def E6 (g : Env) (x5 : List UInt8) (x8 : Int) (x9 : List UInt8) : Prop := g.v 5 = (S x5) ∧ g.v 8 = (.int .i64 x8) ∧ g.v 9 = (S x9) ∧ g.ds = []
def D6 (K : T6) (g : Env) (h : H) : Prop := nilDs g.ds (vStr (g.v 5) fun s69 => vInt .i64 (g.v 8) fun i70 => vStr (g.v 9) fun s71 => K s69 i70 s71 h)
theorem D6_ok {K : T6} {g : Env} {h : H} (hq : D6 K g h) : ∃ (x5 : List UInt8) (x8 : Int) (x9 : List UInt8), E6 g x5 x8 x9 ∧ K x5 x8 x9 h := by
  obtain ⟨hd, hq⟩ := nilDs_ok hq
  obtain ⟨y73, e72, q74⟩ := vStr_ok hq
  obtain ⟨y76, e75, q77⟩ := vInt_ok q74
  obtain ⟨y79, e78, q80⟩ := vStr_ok q77
  exact ⟨y73, y76, y79, ⟨e72, e75, e78, hd⟩, q80⟩
abbrev n11 (x5 : List UInt8) (x8 : Int) (x9 : List UInt8) (Kn : T0) (Kr : T0) (h : H) : Prop :=
  HCalls Tryd.prog 37 ⟨[(S x9), (.int .i64 x8)]⟩ h fun v81 h82 => vStr v81 fun s83 => ((x5.length + s83.length : Nat) : Int) ≤ 9223372036854775807 ∧ (Kr s83 (x5 ++ s83) h82)
theorem n11_ok (x5 : List UInt8) (x8 : Int) (x9 : List UInt8) (Kn : T0) (Kr : T0) (g : Env) (hg : E6 g x5 x8 x9) (h : H) (hS : n11 x5 x8 x9 Kn Kr h) : wpC none Tryd.prog 58 n10_c2 (Q0 Kn Kr) g h := by
  obtain ⟨hg5, hg8, hg9, hds⟩ := hg
  refine wpC_of_wpx (by kernel_rfl) (by kernel_rfl) (g' := (((⟨g.v, []⟩ : Env).upd (some 5) (S x5)).upd (some 8) (.int .i64 x8)).upd (some 9) (S x9)) (by rw [env_ds hds, upd_self hg5, upd_self hg8, upd_self hg9]) ?_
  have e : (n11 x5 x8 x9 Kn Kr h) = wpx none Tryd.prog 58 n10_c2 (Q0 Kn Kr) ((((⟨g.v, []⟩ : Env).upd (some 5) (S x5)).upd (some 8) (.int .i64 x8)).upd (some 9) (S x9)) h := by kernel_rfl
  exact e ▸ hS
def Q1 (Kn : T6) (Kr : T0) : XPost
  | .normal, g, h => D6 Kn g h
  | .ret, g, h => D0 Kr g h
  | _, _, _ => False
abbrev n10 (x0 : List UInt8) (x5 : List UInt8) (x8 : Int) (x9 : List UInt8) (Kn : T0) (Kr : T0) (h : H) : Prop :=
  (0 ≤ x8 ∧ x8 ≤ (x0.length : Int) ∧ (x0.length : Int) ≤ (x0.length : Int)) ∧ (HCalls Tryd.prog 35 ⟨[(S (sub x0 x8 (x0.length : Int))), (.func (.func 36) ⟨[]⟩ ⟨[]⟩)]⟩ h fun v84 h85 => vInt .i64 v84 fun i86 => Spl (i86 ≥ (0 : Int)) (Rng .i64 (x8 + i86) ∧ ((0 ≤ (0 : Int) ∧ (0 : Int) ≤ (x8 + i86) ∧ (x8 + i86) ≤ (x0.length : Int)) ∧ (n11 x5 x8 (sub x0 (0 : Int) (x8 + i86)) Kn Kr h85))) (n11 x5 x8 x9 Kn Kr h85))
theorem n10_ok (x0 : List UInt8) (x5 : List UInt8) (x8 : Int) (x9 : List UInt8) (Kn : T0) (Kr : T0) (g : Env) (hg : E5 g x0 x5 x8 x9) (h : H) (hS : n10 x0 x5 x8 x9 Kn Kr h) : wpC none Tryd.prog 58 n9_c2 (Q0 Kn Kr) g h := by
  obtain ⟨hg0, hg5, hg8, hg9, hds⟩ := hg
  refine wpC_seq' (x := n10_c1) (y := n10_c2) (Q' := (Q1 (fun z5 z8 z9 h => n11 z5 z8 z9 Kn Kr h) Kr)) (by kernel_rfl) ?_ ?_
  · refine wpC_of_wpx (by kernel_rfl) (by kernel_rfl) (g' := ((((⟨g.v, []⟩ : Env).upd (some 0) (S x0)).upd (some 5) (S x5)).upd (some 8) (.int .i64 x8)).upd (some 9) (S x9)) (by rw [env_ds hds, upd_self hg0, upd_self hg5, upd_self hg8, upd_self hg9]) ?_
    have e : (n10 x0 x5 x8 x9 Kn Kr h) = wpx none Tryd.prog 58 n10_c1 (Q1 (fun z5 z8 z9 h => n11 z5 z8 z9 Kn Kr h) Kr) (((((⟨g.v, []⟩ : Env).upd (some 0) (S x0)).upd (some 5) (S x5)).upd (some 8) (.int .i64 x8)).upd (some 9) (S x9)) h := by kernel_rfl
    exact e ▸ hS
  · intro e g' h' hq
    cases e with
    | normal =>
      have hq : D6 (fun z5 z8 z9 h => n11 z5 z8 z9 Kn Kr h) g' h' := hq
      obtain ⟨y5, y8, y9, hg', hq⟩ := D6_ok hq
      exact n11_ok y5 y8 y9 Kn Kr g' hg' h' hq
    | _ => exact hq
def Q2 (Kn : T5) (Kr : T0) : XPost
  | .normal, g, h => D5 Kn g h
  | .ret, g, h => D0 Kr g h
  | _, _, _ => False
abbrev n9 (x0 : List UInt8) (x5 : List UInt8) (x8 : Int) (Kn : T0) (Kr : T0) (h : H) : Prop :=
  n10 x0 x5 x8 x0 Kn Kr h
theorem n9_ok (x0 : List UInt8) (x5 : List UInt8) (x8 : Int) (Kn : T0) (Kr : T0) (g : Env) (hg : E4 g x0 x5 x8) (h : H) (hS : n9 x0 x5 x8 Kn Kr h) : wpC none Tryd.prog 58 n8_c2 (Q0 Kn Kr) g h := by
  obtain ⟨hg0, hg5, hg8, hds⟩ := hg
  refine wpC_seq' (x := n9_c1) (y := n9_c2) (Q' := (Q2 (fun z0 z5 z8 z9 h => n10 z0 z5 z8 z9 Kn Kr h) Kr)) (by kernel_rfl) ?_ ?_
  · refine wpC_of_wpx (by kernel_rfl) (by kernel_rfl) (g' := (((⟨g.v, []⟩ : Env).upd (some 0) (S x0)).upd (some 5) (S x5)).upd (some 8) (.int .i64 x8)) (by rw [env_ds hds, upd_self hg0, upd_self hg5, upd_self hg8]) ?_
    have e : (n9 x0 x5 x8 Kn Kr h) = wpx none Tryd.prog 58 n9_c1 (Q2 (fun z0 z5 z8 z9 h => n10 z0 z5 z8 z9 Kn Kr h) Kr) ((((⟨g.v, []⟩ : Env).upd (some 0) (S x0)).upd (some 5) (S x5)).upd (some 8) (.int .i64 x8)) h := by kernel_rfl
    exact e ▸ hS
  · intro e g' h' hq
    cases e with
    | normal =>
      have hq : D5 (fun z0 z5 z8 z9 h => n10 z0 z5 z8 z9 Kn Kr h) g' h' := hq
      obtain ⟨y0, y5, y8, y9, hg', hq⟩ := D5_ok hq
      exact n10_ok y0 y5 y8 y9 Kn Kr g' hg' h' hq
    | _ => exact hq
def Q3 (Kn : T4) (Kr : T0) : XPost
  | .normal, g, h => D4 Kn g h
  | .ret, g, h => D0 Kr g h
  | _, _, _ => False
abbrev n8 (x0 : List UInt8) (x4 : List UInt8) (x5 : List UInt8) (x8 : Int) (Kn : T0) (Kr : T0) (h : H) : Prop :=
  Rng .i64 (x8 + (x4.length : Int)) ∧ (n9 x0 x5 (x8 + (x4.length : Int)) Kn Kr h)
theorem n8_ok (x0 : List UInt8) (x4 : List UInt8) (x5 : List UInt8) (x8 : Int) (Kn : T0) (Kr : T0) (g : Env) (hg : E3 g x0 x4 x5 x8) (h : H) (hS : n8 x0 x4 x5 x8 Kn Kr h) : wpC none Tryd.prog 58 n7_c2 (Q0 Kn Kr) g h := by
  obtain ⟨hg0, hg4, hg5, hg8, hds⟩ := hg
  refine wpC_seq' (x := n8_c1) (y := n8_c2) (Q' := (Q3 (fun z0 z5 z8 h => n9 z0 z5 z8 Kn Kr h) Kr)) (by kernel_rfl) ?_ ?_
  · refine wpC_of_wpx (by kernel_rfl) (by kernel_rfl) (g' := ((((⟨g.v, []⟩ : Env).upd (some 0) (S x0)).upd (some 4) (S x4)).upd (some 5) (S x5)).upd (some 8) (.int .i64 x8)) (by rw [env_ds hds, upd_self hg0, upd_self hg4, upd_self hg5, upd_self hg8]) ?_
    have e : (n8 x0 x4 x5 x8 Kn Kr h) = wpx none Tryd.prog 58 n8_c1 (Q3 (fun z0 z5 z8 h => n9 z0 z5 z8 Kn Kr h) Kr) (((((⟨g.v, []⟩ : Env).upd (some 0) (S x0)).upd (some 4) (S x4)).upd (some 5) (S x5)).upd (some 8) (.int .i64 x8)) h := by kernel_rfl
    exact e ▸ hS
  · intro e g' h' hq
    cases e with
    | normal =>
      have hq : D4 (fun z0 z5 z8 h => n9 z0 z5 z8 Kn Kr h) g' h' := hq
      obtain ⟨y0, y5, y8, hg', hq⟩ := D4_ok hq
      exact n9_ok y0 y5 y8 Kn Kr g' hg' h' hq
    | _ => exact hq
def Q4 (Kn : T3) (Kr : T0) : XPost
  | .normal, g, h => D3 Kn g h
  | .ret, g, h => D0 Kr g h
  | _, _, _ => False
abbrev n7 (x0 : List UInt8) (x4 : List UInt8) (x5 : List UInt8) (x8 : Int) (Kn : T0) (Kr : T0) (h : H) : Prop :=
  Spl (x8 = (0 : Int)) (Kr ([] : List UInt8) ([] : List UInt8) h) (n8 x0 x4 x5 x8 Kn Kr h)
theorem n7_ok (x0 : List UInt8) (x4 : List UInt8) (x5 : List UInt8) (x8 : Int) (Kn : T0) (Kr : T0) (g : Env) (hg : E3 g x0 x4 x5 x8) (h : H) (hS : n7 x0 x4 x5 x8 Kn Kr h) : wpC none Tryd.prog 58 n6_c2 (Q0 Kn Kr) g h := by
  obtain ⟨hg0, hg4, hg5, hg8, hds⟩ := hg
  refine wpC_seq' (x := n7_c1) (y := n7_c2) (Q' := (Q4 (fun z0 z4 z5 z8 h => n8 z0 z4 z5 z8 Kn Kr h) Kr)) (by kernel_rfl) ?_ ?_
  · refine wpC_of_wpx (by kernel_rfl) (by kernel_rfl) (g' := ((((⟨g.v, []⟩ : Env).upd (some 0) (S x0)).upd (some 4) (S x4)).upd (some 5) (S x5)).upd (some 8) (.int .i64 x8)) (by rw [env_ds hds, upd_self hg0, upd_self hg4, upd_self hg5, upd_self hg8]) ?_
    have e : (n7 x0 x4 x5 x8 Kn Kr h) = wpx none Tryd.prog 58 n7_c1 (Q4 (fun z0 z4 z5 z8 h => n8 z0 z4 z5 z8 Kn Kr h) Kr) (((((⟨g.v, []⟩ : Env).upd (some 0) (S x0)).upd (some 4) (S x4)).upd (some 5) (S x5)).upd (some 8) (.int .i64 x8)) h := by kernel_rfl
    exact e ▸ hS
  · intro e g' h' hq
    cases e with
    | normal =>
      have hq : D3 (fun z0 z4 z5 z8 h => n8 z0 z4 z5 z8 Kn Kr h) g' h' := hq
      obtain ⟨y0, y4, y5, y8, hg', hq⟩ := D3_ok hq
      exact n8_ok y0 y4 y5 y8 Kn Kr g' hg' h' hq
    | _ => exact hq
abbrev n6 (x0 : List UInt8) (x4 : List UInt8) (x5 : List UInt8) (Kn : T0) (Kr : T0) (h : H) : Prop :=
  (0 ≤ (x4.length : Int) ∧ (x4.length : Int) ≤ (x0.length : Int) ∧ (x0.length : Int) ≤ (x0.length : Int)) ∧ (HCalls Tryd.prog 34 ⟨[(S (sub x0 (x4.length : Int) (x0.length : Int)))]⟩ h fun v87 h88 => vInt .i64 v87 fun i89 => n7 x0 x4 x5 i89 Kn Kr h88)
theorem n6_ok (x0 : List UInt8) (x4 : List UInt8) (x5 : List UInt8) (Kn : T0) (Kr : T0) (g : Env) (hg : E2 g x0 x4 x5) (h : H) (hS : n6 x0 x4 x5 Kn Kr h) : wpC none Tryd.prog 58 n5_c2 (Q0 Kn Kr) g h := by
  obtain ⟨hg0, hg4, hg5, hds⟩ := hg
  refine wpC_seq' (x := n6_c1) (y := n6_c2) (Q' := (Q4 (fun z0 z4 z5 z8 h => n7 z0 z4 z5 z8 Kn Kr h) Kr)) (by kernel_rfl) ?_ ?_
  · refine wpC_of_wpx (by kernel_rfl) (by kernel_rfl) (g' := (((⟨g.v, []⟩ : Env).upd (some 0) (S x0)).upd (some 4) (S x4)).upd (some 5) (S x5)) (by rw [env_ds hds, upd_self hg0, upd_self hg4, upd_self hg5]) ?_
    have e : (n6 x0 x4 x5 Kn Kr h) = wpx none Tryd.prog 58 n6_c1 (Q4 (fun z0 z4 z5 z8 h => n7 z0 z4 z5 z8 Kn Kr h) Kr) ((((⟨g.v, []⟩ : Env).upd (some 0) (S x0)).upd (some 4) (S x4)).upd (some 5) (S x5)) h := by kernel_rfl
    exact e ▸ hS
  · intro e g' h' hq
    cases e with
    | normal =>
      have hq : D3 (fun z0 z4 z5 z8 h => n7 z0 z4 z5 z8 Kn Kr h) g' h' := hq
      obtain ⟨y0, y4, y5, y8, hg', hq⟩ := D3_ok hq
      exact n7_ok y0 y4 y5 y8 Kn Kr g' hg' h' hq
    | _ => exact hq
def Q5 (Kn : T2) (Kr : T0) : XPost
  | .normal, g, h => D2 Kn g h
  | .ret, g, h => D0 Kr g h
  | _, _, _ => False
abbrev n5 (x0 : List UInt8) (x4 : List UInt8) (x5 : List UInt8) (Kn : T0) (Kr : T0) (h : H) : Prop :=
  ((x4.length + x5.length : Nat) : Int) ≤ 9223372036854775807 ∧ (Spl ((x4 ++ x5) = ([] : List UInt8)) (Kr ([] : List UInt8) ([] : List UInt8) h) (n6 x0 x4 x5 Kn Kr h))
theorem n5_ok (x0 : List UInt8) (x4 : List UInt8) (x5 : List UInt8) (Kn : T0) (Kr : T0) (g : Env) (hg : E2 g x0 x4 x5) (h : H) (hS : n5 x0 x4 x5 Kn Kr h) : wpC none Tryd.prog 58 n4_c2 (Q0 Kn Kr) g h := by
  obtain ⟨hg0, hg4, hg5, hds⟩ := hg
  refine wpC_seq' (x := n5_c1) (y := n5_c2) (Q' := (Q5 (fun z0 z4 z5 h => n6 z0 z4 z5 Kn Kr h) Kr)) (by kernel_rfl) ?_ ?_
  · refine wpC_of_wpx (by kernel_rfl) (by kernel_rfl) (g' := (((⟨g.v, []⟩ : Env).upd (some 0) (S x0)).upd (some 4) (S x4)).upd (some 5) (S x5)) (by rw [env_ds hds, upd_self hg0, upd_self hg4, upd_self hg5]) ?_
    have e : (n5 x0 x4 x5 Kn Kr h) = wpx none Tryd.prog 58 n5_c1 (Q5 (fun z0 z4 z5 h => n6 z0 z4 z5 Kn Kr h) Kr) ((((⟨g.v, []⟩ : Env).upd (some 0) (S x0)).upd (some 4) (S x4)).upd (some 5) (S x5)) h := by kernel_rfl
    exact e ▸ hS
  · intro e g' h' hq
    cases e with
    | normal =>
      have hq : D2 (fun z0 z4 z5 h => n6 z0 z4 z5 Kn Kr h) g' h' := hq
      obtain ⟨y0, y4, y5, hg', hq⟩ := D2_ok hq
      exact n6_ok y0 y4 y5 Kn Kr g' hg' h' hq
    | _ => exact hq
abbrev n4 (x0 : List UInt8) (x4 : List UInt8) (x5 : List UInt8) (Kn : T0) (Kr : T0) (h : H) : Prop :=
  HCalls Tryd.prog 33 ⟨[(S x0), (S ([119, 119, 119, 46] : List UInt8))]⟩ h fun v90 h91 => vBool v90 fun b92 => cond b92 (n5 x0 x4 ([104, 116, 116, 112, 58, 47, 47] : List UInt8) Kn Kr h91) (n5 x0 x4 x5 Kn Kr h91)
theorem n4_ok (x0 : List UInt8) (x4 : List UInt8) (x5 : List UInt8) (Kn : T0) (Kr : T0) (g : Env) (hg : E2 g x0 x4 x5) (h : H) (hS : n4 x0 x4 x5 Kn Kr h) : wpC none Tryd.prog 58 n3_c2 (Q0 Kn Kr) g h := by
  obtain ⟨hg0, hg4, hg5, hds⟩ := hg
  refine wpC_seq' (x := n4_c1) (y := n4_c2) (Q' := (Q5 (fun z0 z4 z5 h => n5 z0 z4 z5 Kn Kr h) Kr)) (by kernel_rfl) ?_ ?_
  · refine wpC_of_wpx (by kernel_rfl) (by kernel_rfl) (g' := (((⟨g.v, []⟩ : Env).upd (some 0) (S x0)).upd (some 4) (S x4)).upd (some 5) (S x5)) (by rw [env_ds hds, upd_self hg0, upd_self hg4, upd_self hg5]) ?_
    have e : (n4 x0 x4 x5 Kn Kr h) = wpx none Tryd.prog 58 n4_c1 (Q5 (fun z0 z4 z5 h => n5 z0 z4 z5 Kn Kr h) Kr) ((((⟨g.v, []⟩ : Env).upd (some 0) (S x0)).upd (some 4) (S x4)).upd (some 5) (S x5)) h := by kernel_rfl
    exact e ▸ hS
  · intro e g' h' hq
    cases e with
    | normal =>
      have hq : D2 (fun z0 z4 z5 h => n5 z0 z4 z5 Kn Kr h) g' h' := hq
      obtain ⟨y0, y4, y5, hg', hq⟩ := D2_ok hq
      exact n5_ok y0 y4 y5 Kn Kr g' hg' h' hq
    | _ => exact hq
noncomputable def n12_c1 : Code := cFst n3_c1
noncomputable def n12_c2 : Code := cSnd n3_c1
abbrev T7 := (List UInt8) → (List UInt8) → (List UInt8) → (Option Addr) → Nat → Nat → Int → Int → H → Prop
def E7 (g : Env) (x0 : List UInt8) (x4 : List UInt8) (x5 : List UInt8) (x11b : Option Addr) (x11n : Nat) (x11c : Nat) (x12 : Int) (x13 : Int) : Prop := g.v 0 = (S x0) ∧ g.v 4 = (S x4) ∧ g.v 5 = (S x5) ∧ g.v 11 = (.slice x11b x11n x11c) ∧ g.v 12 = (.int .i64 x12) ∧ g.v 13 = (.int .i64 x13) ∧ g.ds = []
def D7 (K : T7) (g : Env) (h : H) : Prop := nilDs g.ds (vStr (g.v 0) fun s93 => vStr (g.v 4) fun s94 => vStr (g.v 5) fun s95 => vSlice (g.v 11) fun s96b s96n s96c => vInt .i64 (g.v 12) fun i97 => vInt .i64 (g.v 13) fun i98 => K s93 s94 s95 s96b s96n s96c i97 i98 h)
theorem D7_ok {K : T7} {g : Env} {h : H} (hq : D7 K g h) : ∃ (x0 : List UInt8) (x4 : List UInt8) (x5 : List UInt8) (x11b : Option Addr) (x11n : Nat) (x11c : Nat) (x12 : Int) (x13 : Int), E7 g x0 x4 x5 x11b x11n x11c x12 x13 ∧ K x0 x4 x5 x11b x11n x11c x12 x13 h := by
  obtain ⟨hd, hq⟩ := nilDs_ok hq
  obtain ⟨y100, e99, q101⟩ := vStr_ok hq
  obtain ⟨y103, e102, q104⟩ := vStr_ok q101
  obtain ⟨y106, e105, q107⟩ := vStr_ok q104
  obtain ⟨y109b, y109n, y109c, e108, q110⟩ := vSlice_ok q107
  obtain ⟨y112, e111, q113⟩ := vInt_ok q110
  obtain ⟨y115, e114, q116⟩ := vInt_ok q113
  exact ⟨y100, y103, y106, y109b, y109n, y109c, y112, y115, ⟨e99, e102, e105, e108, e111, e114, hd⟩, q116⟩
noncomputable def n13_c1 : Code := cFst n12_c2
def Q6 (Kn : T2) (Ke0 : T2) (Kr : T0) : XPost
  | .normal, g, h => D2 Kn g h
  | .ret, g, h => D0 Kr g h
  | .exit id, g, h => cond (Nat.beq id 0) (D2 Ke0 g h) (False)
  | _, _, _ => False
noncomputable def n14_c1 : Code := cFst n13_c1
def Q7 (Kn : T7) (Ke0 : T2) (Kr : T0) : XPost
  | .normal, g, h => D7 Kn g h
  | .ret, g, h => D0 Kr g h
  | .exit id, g, h => cond (Nat.beq id 0) (D2 Ke0 g h) (False)
  | _, _, _ => False
def n14_L (Kn : T2) (Ke0 : T2) (Kr : T0) : Nat → (List UInt8) → (List UInt8) → (List UInt8) → (Option Addr) → Nat → Nat → Int → Int → H → Prop
  | 0 => fun _ _ _ _ _ _ _ _ _ => False
  | N + 1 => fun x0 x4 x5 x11b x11n x11c x12 x13 h => Spl (x13 < x12) ((0 ≤ x13 ∧ x13 < (x11n : Int)) ∧ (vSome x11b fun a117 => ∃ s118, cell h (a117.add (Int.toNat x13 * 1)) = some (S s118) ∧ (HCalls Tryd.prog 33 ⟨[(S x0), (S s118)]⟩ h fun v119 h120 => vBool v119 fun b121 => cond b121 (Rng .i64 (x13 + (1 : Int)) ∧ (n14_L Kn Ke0 Kr N x0 s118 x5 x11b x11n x11c x12 (x13 + (1 : Int)) h120)) (Rng .i64 (x13 + (1 : Int)) ∧ (n14_L Kn Ke0 Kr N x0 x4 x5 x11b x11n x11c x12 (x13 + (1 : Int)) h120))))) (Ke0 x0 x4 x5 h)
abbrev n14 (x0 : List UInt8) (x4 : List UInt8) (x5 : List UInt8) (x11b : Option Addr) (x11n : Nat) (x11c : Nat) (x12 : Int) (x13 : Int) (Kn : T2) (Ke0 : T2) (Kr : T0) (h : H) : Prop := ∃ N, n14_L Kn Ke0 Kr N x0 x4 x5 x11b x11n x11c x12 x13 h
theorem n14_ok (x0 : List UInt8) (x4 : List UInt8) (x5 : List UInt8) (x11b : Option Addr) (x11n : Nat) (x11c : Nat) (x12 : Int) (x13 : Int) (Kn : T2) (Ke0 : T2) (Kr : T0) (g : Env) (hg : E7 g x0 x4 x5 x11b x11n x11c x12 x13) (h : H) (hS : n14 x0 x4 x5 x11b x11n x11c x12 x13 Kn Ke0 Kr h) : wpC none Tryd.prog 58 n13_c1 (Q6 Kn Ke0 Kr) g h := by
  obtain ⟨N0, hS⟩ := hS
  refine wpC_loop' (x := n14_c1) (by kernel_rfl) (fun k g h => ∃ (x0 : List UInt8) (x4 : List UInt8) (x5 : List UInt8) (x11b : Option Addr) (x11n : Nat) (x11c : Nat) (x12 : Int) (x13 : Int), E7 g x0 x4 x5 x11b x11n x11c x12 x13 ∧ n14_L Kn Ke0 Kr k x0 x4 x5 x11b x11n x11c x12 x13 h) (fun g h hr => ?_) (fun N g h hr => ?_) N0 ⟨x0, x4, x5, x11b, x11n, x11c, x12, x13, hg, hS⟩
  · obtain ⟨x0, x4, x5, x11b, x11n, x11c, x12, x13, hg, hS⟩ := hr
    exact hS.elim
  · obtain ⟨x0, x4, x5, x11b, x11n, x11c, x12, x13, hg, hS⟩ := hr
    have hw : wpC none Tryd.prog 58 n14_c1 (Q7 (fun z0 z4 z5 z11b z11n z11c z12 z13 h => n14_L Kn Ke0 Kr N z0 z4 z5 z11b z11n z11c z12 z13 h) Ke0 Kr) g h := by
      obtain ⟨hg0, hg4, hg5, hg11, hg12, hg13, hds⟩ := hg
      refine wpC_of_wpx (by kernel_rfl) (by kernel_rfl) (g' := ((((((⟨g.v, []⟩ : Env).upd (some 0) (S x0)).upd (some 4) (S x4)).upd (some 5) (S x5)).upd (some 11) (.slice x11b x11n x11c)).upd (some 12) (.int .i64 x12)).upd (some 13) (.int .i64 x13)) (by rw [env_ds hds, upd_self hg0, upd_self hg4, upd_self hg5, upd_self hg11, upd_self hg12, upd_self hg13]) ?_
      have e : (n14_L Kn Ke0 Kr (N + 1) x0 x4 x5 x11b x11n x11c x12 x13 h) = wpx none Tryd.prog 58 n14_c1 (Q7 (fun z0 z4 z5 z11b z11n z11c z12 z13 h => n14_L Kn Ke0 Kr N z0 z4 z5 z11b z11n z11c z12 z13 h) Ke0 Kr) (((((((⟨g.v, []⟩ : Env).upd (some 0) (S x0)).upd (some 4) (S x4)).upd (some 5) (S x5)).upd (some 11) (.slice x11b x11n x11c)).upd (some 12) (.int .i64 x12)).upd (some 13) (.int .i64 x13)) h := by kernel_rfl
      exact e ▸ hS
    refine hw.mono ?_
    intro e g' h' hq
    cases e with
    | normal => exact D7_ok (K := (fun z0 z4 z5 z11b z11n z11c z12 z13 h => n14_L Kn Ke0 Kr N z0 z4 z5 z11b z11n z11c z12 z13 h)) hq
    | _ => exact hq
abbrev n13 (x0 : List UInt8) (x4 : List UInt8) (x5 : List UInt8) (x11b : Option Addr) (x11n : Nat) (x11c : Nat) (x12 : Int) (x13 : Int) (Kn : T2) (Kr : T0) (h : H) : Prop := n14 x0 x4 x5 x11b x11n x11c x12 x13 Kn Kn Kr h
theorem n13_ok (x0 : List UInt8) (x4 : List UInt8) (x5 : List UInt8) (x11b : Option Addr) (x11n : Nat) (x11c : Nat) (x12 : Int) (x13 : Int) (Kn : T2) (Kr : T0) (g : Env) (hg : E7 g x0 x4 x5 x11b x11n x11c x12 x13) (h : H) (hS : n13 x0 x4 x5 x11b x11n x11c x12 x13 Kn Kr h) : wpC none Tryd.prog 58 n12_c2 (Q5 Kn Kr) g h := by
  refine wpC_block' (id := 0) (x := n13_c1) (by kernel_rfl) (n14_ok x0 x4 x5 x11b x11n x11c x12 x13 Kn Kn Kr g hg h hS) ?_
  intro e g' h' hq
  cases e <;> exact hq
def Q8 (Kn : T7) (Kr : T0) : XPost
  | .normal, g, h => D7 Kn g h
  | .ret, g, h => D0 Kr g h
  | _, _, _ => False
abbrev n12 (x0 : List UInt8) (x4 : List UInt8) (x5 : List UInt8) (Kn : T2) (Kr : T0) (h : H) : Prop :=
  newx h #[(S ([104, 116, 116, 112, 58, 47, 47] : List UInt8)), (S ([104, 116, 116, 112, 115, 58, 47, 47] : List UInt8)), (S ([102, 116, 112, 58, 47, 47] : List UInt8))] 9 fun a122 h123 => n13 x0 x4 x5 (some a122) 3 3 (3 : Int) (0 : Int) Kn Kr h123
theorem n12_ok (x0 : List UInt8) (x4 : List UInt8) (x5 : List UInt8) (Kn : T2) (Kr : T0) (g : Env) (hg : E2 g x0 x4 x5) (h : H) (hS : n12 x0 x4 x5 Kn Kr h) : wpC none Tryd.prog 58 n3_c1 (Q5 Kn Kr) g h := by
  obtain ⟨hg0, hg4, hg5, hds⟩ := hg
  refine wpC_seq' (x := n12_c1) (y := n12_c2) (Q' := (Q8 (fun z0 z4 z5 z11b z11n z11c z12 z13 h => n13 z0 z4 z5 z11b z11n z11c z12 z13 Kn Kr h) Kr)) (by kernel_rfl) ?_ ?_
  · refine wpC_of_wpx (by kernel_rfl) (by kernel_rfl) (g' := (((⟨g.v, []⟩ : Env).upd (some 0) (S x0)).upd (some 4) (S x4)).upd (some 5) (S x5)) (by rw [env_ds hds, upd_self hg0, upd_self hg4, upd_self hg5]) ?_
    have e : (n12 x0 x4 x5 Kn Kr h) = wpx none Tryd.prog 58 n12_c1 (Q8 (fun z0 z4 z5 z11b z11n z11c z12 z13 h => n13 z0 z4 z5 z11b z11n z11c z12 z13 Kn Kr h) Kr) ((((⟨g.v, []⟩ : Env).upd (some 0) (S x0)).upd (some 4) (S x4)).upd (some 5) (S x5)) h := by kernel_rfl
    exact e ▸ hS
  · intro e g' h' hq
    cases e with
    | normal =>
      have hq : D7 (fun z0 z4 z5 z11b z11n z11c z12 z13 h => n13 z0 z4 z5 z11b z11n z11c z12 z13 Kn Kr h) g' h' := hq
      obtain ⟨y0, y4, y5, y11b, y11n, y11c, y12, y13, hg', hq⟩ := D7_ok hq
      exact n13_ok y0 y4 y5 y11b y11n y11c y12 y13 Kn Kr g' hg' h' hq
    | _ => exact hq
abbrev n3 (x0 : List UInt8) (x4 : List UInt8) (x5 : List UInt8) (Kn : T0) (Kr : T0) (h : H) : Prop := n12 x0 x4 x5 (fun z0 z4 z5 h => n4 z0 z4 z5 Kn Kr h) Kr h
theorem n3_ok (x0 : List UInt8) (x4 : List UInt8) (x5 : List UInt8) (Kn : T0) (Kr : T0) (g : Env) (hg : E2 g x0 x4 x5) (h : H) (hS : n3 x0 x4 x5 Kn Kr h) : wpC none Tryd.prog 58 n2_c2 (Q0 Kn Kr) g h := by
  refine wpC_seq' (x := n3_c1) (y := n3_c2) (by kernel_rfl) (n12_ok x0 x4 x5 (fun z0 z4 z5 h => n4 z0 z4 z5 Kn Kr h) Kr g hg h hS) ?_
  intro e g' h' hq
  cases e with
  | normal =>
    have hq : D2 (fun z0 z4 z5 h => n4 z0 z4 z5 Kn Kr h) g' h' := hq
    obtain ⟨y0, y4, y5, hg', hq⟩ := D2_ok hq
    exact n4_ok y0 y4 y5 Kn Kr g' hg' h' hq
  | _ => exact hq
abbrev n2 (x0 : List UInt8) (Kn : T0) (Kr : T0) (h : H) : Prop :=
  n3 x0 ([] : List UInt8) ([] : List UInt8) Kn Kr h
theorem n2_ok (x0 : List UInt8) (Kn : T0) (Kr : T0) (g : Env) (hg : E1 g x0) (h : H) (hS : n2 x0 Kn Kr h) : wpC none Tryd.prog 58 n1_c2 (Q0 Kn Kr) g h := by
  obtain ⟨hg0, hds⟩ := hg
  refine wpC_seq' (x := n2_c1) (y := n2_c2) (Q' := (Q5 (fun z0 z4 z5 h => n3 z0 z4 z5 Kn Kr h) Kr)) (by kernel_rfl) ?_ ?_
  · refine wpC_of_wpx (by kernel_rfl) (by kernel_rfl) (g' := (⟨g.v, []⟩ : Env).upd (some 0) (S x0)) (by rw [env_ds hds, upd_self hg0]) ?_
    have e : (n2 x0 Kn Kr h) = wpx none Tryd.prog 58 n2_c1 (Q5 (fun z0 z4 z5 h => n3 z0 z4 z5 Kn Kr h) Kr) ((⟨g.v, []⟩ : Env).upd (some 0) (S x0)) h := by kernel_rfl
    exact e ▸ hS
  · intro e g' h' hq
    cases e with
    | normal =>
      have hq : D2 (fun z0 z4 z5 h => n3 z0 z4 z5 Kn Kr h) g' h' := hq
      obtain ⟨y0, y4, y5, hg', hq⟩ := D2_ok hq
      exact n3_ok y0 y4 y5 Kn Kr g' hg' h' hq
    | _ => exact hq
def Q9 (Kn : T1) (Kr : T0) : XPost
  | .normal, g, h => D1 Kn g h
  | .ret, g, h => D0 Kr g h
  | _, _, _ => False
abbrev n1 (x0 : List UInt8) (Kn : T0) (Kr : T0) (h : H) : Prop :=
  n2 x0 Kn Kr h
theorem n1_ok (x0 : List UInt8) (Kn : T0) (Kr : T0) (g : Env) (hg : E1 g x0) (h : H) (hS : n1 x0 Kn Kr h) : wpC none Tryd.prog 58 code (Q0 Kn Kr) g h := by
  obtain ⟨hg0, hds⟩ := hg
  refine wpC_seq' (x := n1_c1) (y := n1_c2) (Q' := (Q9 (fun z0 h => n2 z0 Kn Kr h) Kr)) (by kernel_rfl) ?_ ?_
  · refine wpC_of_wpx (by kernel_rfl) (by kernel_rfl) (g' := (⟨g.v, []⟩ : Env).upd (some 0) (S x0)) (by rw [env_ds hds, upd_self hg0]) ?_
    have e : (n1 x0 Kn Kr h) = wpx none Tryd.prog 58 n1_c1 (Q9 (fun z0 h => n2 z0 Kn Kr h) Kr) ((⟨g.v, []⟩ : Env).upd (some 0) (S x0)) h := by kernel_rfl
    exact e ▸ hS
  · intro e g' h' hq
    cases e with
    | normal =>
      have hq : D1 (fun z0 h => n2 z0 Kn Kr h) g' h' := hq
      obtain ⟨y0, hg', hq⟩ := D1_ok hq
      exact n2_ok y0 Kn Kr g' hg' h' hq
    | _ => exact hq
/-- WHAT tympan/auto.page ASKS -/
abbrev asks (x0 : List UInt8) (K : Value → H → Prop) (h : H) : Prop := n1 x0 (fun y2 y3 h => K (.tuple ⟨[(S y2), (S y3)]⟩) h) (fun y2 y3 h => K (.tuple ⟨[(S y2), (S y3)]⟩) h) h
theorem ok (x0 : List UInt8) (K : Value → H → Prop) (h : H) (hS : asks x0 K h) : HCalls Tryd.prog 20 ⟨[(S x0)]⟩ h K := by
  refine calls_of_wpC (c := code) Tryd.func20 (by kernel_rfl) (Nat.le_of_ble_eq_true (by kernel_rfl)) ?_
  refine (n1_ok x0 (fun y2 y3 h => K (.tuple ⟨[(S y2), (S y3)]⟩) h) (fun y2 y3 h => K (.tuple ⟨[(S y2), (S y3)]⟩) h) (env0 [(S x0)]) ⟨rfl, rfl⟩ h hS).mono ?_
  intro e g' h' hq
  cases e with
  | normal =>
    have hq : D0 (fun y2 y3 h => K (.tuple ⟨[(S y2), (S y3)]⟩) h) g' h' := hq
    obtain ⟨y2, y3, ⟨hg2, hg3, hd⟩, hq⟩ := D0_ok hq
    show leaveX g'.ds h' _
    rw [hd]
    show K (.tuple ⟨[(g'.v 2), (g'.v 3)]⟩) h'
    rw [hg2, hg3]
    exact hq
  | ret =>
    have hq : D0 (fun y2 y3 h => K (.tuple ⟨[(S y2), (S y3)]⟩) h) g' h' := hq
    obtain ⟨y2, y3, ⟨hg2, hg3, hd⟩, hq⟩ := D0_ok hq
    show leaveX g'.ds h' _
    rw [hd]
    show K (.tuple ⟨[(g'.v 2), (g'.v 3)]⟩) h'
    rw [hg2, hg3]
    exact hq
  | _ => exact hq
end Sx.auto_page

/-! ### tympan/auto.mail -/
namespace Sx.auto_mail
noncomputable def code : Code := bodyOf Tryd.f21
abbrev T0 := (List UInt8) → (List UInt8) → H → Prop
def E0 (g : Env) (x2 : List UInt8) (x3 : List UInt8) : Prop := g.v 2 = (S x2) ∧ g.v 3 = (S x3) ∧ g.ds = []
def D0 (K : T0) (g : Env) (h : H) : Prop := nilDs g.ds (vStr (g.v 2) fun s1 => vStr (g.v 3) fun s2 => K s1 s2 h)
theorem D0_ok {K : T0} {g : Env} {h : H} (hq : D0 K g h) : ∃ (x2 : List UInt8) (x3 : List UInt8), E0 g x2 x3 ∧ K x2 x3 h := by
  obtain ⟨hd, hq⟩ := nilDs_ok hq
  obtain ⟨y4, e3, q5⟩ := vStr_ok hq
  obtain ⟨y7, e6, q8⟩ := vStr_ok q5
  exact ⟨y4, y7, ⟨e3, e6, hd⟩, q8⟩
def Q0 (Kn : T0) (Kr : T0) : XPost
  | .normal, g, h => D0 Kn g h
  | .ret, g, h => D0 Kr g h
  | _, _, _ => False
abbrev T1 := (List UInt8) → H → Prop
def E1 (g : Env) (x0 : List UInt8) : Prop := g.v 0 = (S x0) ∧ g.ds = []
def D1 (K : T1) (g : Env) (h : H) : Prop := nilDs g.ds (vStr (g.v 0) fun s9 => K s9 h)
theorem D1_ok {K : T1} {g : Env} {h : H} (hq : D1 K g h) : ∃ (x0 : List UInt8), E1 g x0 ∧ K x0 h := by
  obtain ⟨hd, hq⟩ := nilDs_ok hq
  obtain ⟨y11, e10, q12⟩ := vStr_ok hq
  exact ⟨y11, ⟨e10, hd⟩, q12⟩
noncomputable def n1_c1 : Code := cFst code
noncomputable def n1_c2 : Code := cSnd code
noncomputable def n2_c1 : Code := cFst n1_c2
noncomputable def n2_c2 : Code := cSnd n1_c2
abbrev T2 := (List UInt8) → Int → H → Prop
def E2 (g : Env) (x0 : List UInt8) (x4 : Int) : Prop := g.v 0 = (S x0) ∧ g.v 4 = (.int .i64 x4) ∧ g.ds = []
def D2 (K : T2) (g : Env) (h : H) : Prop := nilDs g.ds (vStr (g.v 0) fun s13 => vInt .i64 (g.v 4) fun i14 => K s13 i14 h)
theorem D2_ok {K : T2} {g : Env} {h : H} (hq : D2 K g h) : ∃ (x0 : List UInt8) (x4 : Int), E2 g x0 x4 ∧ K x0 x4 h := by
  obtain ⟨hd, hq⟩ := nilDs_ok hq
  obtain ⟨y16, e15, q17⟩ := vStr_ok hq
  obtain ⟨y19, e18, q20⟩ := vInt_ok q17
  exact ⟨y16, y19, ⟨e15, e18, hd⟩, q20⟩
noncomputable def n3_c1 : Code := cFst n2_c2
noncomputable def n3_c2 : Code := cSnd n2_c2
abbrev n4 (x0 : List UInt8) (x4 : Int) (Kn : T0) (Kr : T0) (h : H) : Prop :=
  Rng .i64 (x4 + (1 : Int)) ∧ ((0 ≤ (x4 + (1 : Int)) ∧ (x4 + (1 : Int)) ≤ (x0.length : Int) ∧ (x0.length : Int) ≤ (x0.length : Int)) ∧ (HCalls Tryd.prog 34 ⟨[(S (sub x0 (x4 + (1 : Int)) (x0.length : Int)))]⟩ h fun v21 h22 => vInt .i64 v21 fun i23 => Rng .i64 (x4 + (1 : Int)) ∧ (Rng .i64 ((x4 + (1 : Int)) + i23) ∧ ((0 ≤ (0 : Int) ∧ (0 : Int) ≤ ((x4 + (1 : Int)) + i23) ∧ ((x4 + (1 : Int)) + i23) ≤ (x0.length : Int)) ∧ ((0 ≤ ((sub x0 (0 : Int) ((x4 + (1 : Int)) + i23)).length : Int) ∧ ((sub x0 (0 : Int) ((x4 + (1 : Int)) + i23)).length : Int) ≤ (x0.length : Int) ∧ (x0.length : Int) ≤ (x0.length : Int)) ∧ (Spl (i23 = (0 : Int)) (Kr ([] : List UInt8) ([] : List UInt8) h22) ((0 ≤ x4 ∧ x4 ≤ ((sub x0 (0 : Int) ((x4 + (1 : Int)) + i23)).length : Int) ∧ ((sub x0 (0 : Int) ((x4 + (1 : Int)) + i23)).length : Int) ≤ ((sub x0 (0 : Int) ((x4 + (1 : Int)) + i23)).length : Int)) ∧ (HCalls Tryd.prog 40 ⟨[(S (sub (sub x0 (0 : Int) ((x4 + (1 : Int)) + i23)) x4 ((sub x0 (0 : Int) ((x4 + (1 : Int)) + i23)).length : Int))), (S ([95] : List UInt8))]⟩ h22 fun v24 h25 => vBool v24 fun b26 => cond b26 (Kr ([] : List UInt8) ([] : List UInt8) h25) (HCalls Tryd.prog 41 ⟨[(S (sub x0 (0 : Int) ((x4 + (1 : Int)) + i23))), (S ([45] : List UInt8))]⟩ h25 fun v27 h28 => vBool v27 fun b29 => cond b29 (Kr ([] : List UInt8) ([] : List UInt8) h28) (Spl ((sub x0 ((sub x0 (0 : Int) ((x4 + (1 : Int)) + i23)).length : Int) (x0.length : Int)) = ([] : List UInt8)) (((([109, 97, 105, 108, 116, 111, 58] : List UInt8).length + (sub x0 (0 : Int) ((x4 + (1 : Int)) + i23)).length : Nat) : Int) ≤ 9223372036854775807 ∧ (Kr (sub x0 (0 : Int) ((x4 + (1 : Int)) + i23)) (([109, 97, 105, 108, 116, 111, 58] : List UInt8) ++ (sub x0 (0 : Int) ((x4 + (1 : Int)) + i23))) h28)) ((0 ≤ (0 : Int) ∧ (0 : Int) < ((sub x0 ((sub x0 (0 : Int) ((x4 + (1 : Int)) + i23)).length : Int) (x0.length : Int)).length : Int)) ∧ (HCalls Tryd.prog 19 ⟨[(S ([45, 95, 64] : List UInt8)), (.int .u8 ((List.getD (sub x0 ((sub x0 (0 : Int) ((x4 + (1 : Int)) + i23)).length : Int) (x0.length : Int)) (Int.toNat (0 : Int)) 0).toNat : Int))]⟩ h28 fun v30 h31 => vInt .i64 v30 fun i32 => Spl (i32 ≥ (0 : Int)) (Kr ([] : List UInt8) ([] : List UInt8) h31) (((([109, 97, 105, 108, 116, 111, 58] : List UInt8).length + (sub x0 (0 : Int) ((x4 + (1 : Int)) + i23)).length : Nat) : Int) ≤ 9223372036854775807 ∧ (Kr (sub x0 (0 : Int) ((x4 + (1 : Int)) + i23)) (([109, 97, 105, 108, 116, 111, 58] : List UInt8) ++ (sub x0 (0 : Int) ((x4 + (1 : Int)) + i23))) h31))))))))))))))
theorem n4_ok (x0 : List UInt8) (x4 : Int) (Kn : T0) (Kr : T0) (g : Env) (hg : E2 g x0 x4) (h : H) (hS : n4 x0 x4 Kn Kr h) : wpC none Tryd.prog 59 n3_c2 (Q0 Kn Kr) g h := by
  obtain ⟨hg0, hg4, hds⟩ := hg
  refine wpC_of_wpx (by kernel_rfl) (by kernel_rfl) (g' := ((⟨g.v, []⟩ : Env).upd (some 0) (S x0)).upd (some 4) (.int .i64 x4)) (by rw [env_ds hds, upd_self hg0, upd_self hg4]) ?_
  have e : (n4 x0 x4 Kn Kr h) = wpx none Tryd.prog 59 n3_c2 (Q0 Kn Kr) (((⟨g.v, []⟩ : Env).upd (some 0) (S x0)).upd (some 4) (.int .i64 x4)) h := by kernel_rfl
  exact e ▸ hS
def Q1 (Kn : T2) (Kr : T0) : XPost
  | .normal, g, h => D2 Kn g h
  | .ret, g, h => D0 Kr g h
  | _, _, _ => False
abbrev n3 (x0 : List UInt8) (x4 : Int) (Kn : T0) (Kr : T0) (h : H) : Prop :=
  Spl (x4 = (0 : Int)) (Kr ([] : List UInt8) ([] : List UInt8) h) ((0 ≤ x4 ∧ x4 ≤ (x0.length : Int) ∧ (x0.length : Int) ≤ (x0.length : Int)) ∧ (HCalls Tryd.prog 33 ⟨[(S (sub x0 x4 (x0.length : Int))), (S ([64] : List UInt8))]⟩ h fun v33 h34 => vBool v33 fun b35 => cond b35 (n4 x0 x4 Kn Kr h34) (Kr ([] : List UInt8) ([] : List UInt8) h34)))
theorem n3_ok (x0 : List UInt8) (x4 : Int) (Kn : T0) (Kr : T0) (g : Env) (hg : E2 g x0 x4) (h : H) (hS : n3 x0 x4 Kn Kr h) : wpC none Tryd.prog 59 n2_c2 (Q0 Kn Kr) g h := by
  obtain ⟨hg0, hg4, hds⟩ := hg
  refine wpC_seq' (x := n3_c1) (y := n3_c2) (Q' := (Q1 (fun z0 z4 h => n4 z0 z4 Kn Kr h) Kr)) (by kernel_rfl) ?_ ?_
  · refine wpC_of_wpx (by kernel_rfl) (by kernel_rfl) (g' := ((⟨g.v, []⟩ : Env).upd (some 0) (S x0)).upd (some 4) (.int .i64 x4)) (by rw [env_ds hds, upd_self hg0, upd_self hg4]) ?_
    have e : (n3 x0 x4 Kn Kr h) = wpx none Tryd.prog 59 n3_c1 (Q1 (fun z0 z4 h => n4 z0 z4 Kn Kr h) Kr) (((⟨g.v, []⟩ : Env).upd (some 0) (S x0)).upd (some 4) (.int .i64 x4)) h := by kernel_rfl
    exact e ▸ hS
  · intro e g' h' hq
    cases e with
    | normal =>
      have hq : D2 (fun z0 z4 h => n4 z0 z4 Kn Kr h) g' h' := hq
      obtain ⟨y0, y4, hg', hq⟩ := D2_ok hq
      exact n4_ok y0 y4 Kn Kr g' hg' h' hq
    | _ => exact hq
abbrev n2 (x0 : List UInt8) (Kn : T0) (Kr : T0) (h : H) : Prop :=
  HCalls Tryd.prog 38 ⟨[(S x0), (.func (.func 39) ⟨[]⟩ ⟨[]⟩)]⟩ h fun v36 h37 => vInt .i64 v36 fun i38 => n3 x0 i38 Kn Kr h37
theorem n2_ok (x0 : List UInt8) (Kn : T0) (Kr : T0) (g : Env) (hg : E1 g x0) (h : H) (hS : n2 x0 Kn Kr h) : wpC none Tryd.prog 59 n1_c2 (Q0 Kn Kr) g h := by
  obtain ⟨hg0, hds⟩ := hg
  refine wpC_seq' (x := n2_c1) (y := n2_c2) (Q' := (Q1 (fun z0 z4 h => n3 z0 z4 Kn Kr h) Kr)) (by kernel_rfl) ?_ ?_
  · refine wpC_of_wpx (by kernel_rfl) (by kernel_rfl) (g' := (⟨g.v, []⟩ : Env).upd (some 0) (S x0)) (by rw [env_ds hds, upd_self hg0]) ?_
    have e : (n2 x0 Kn Kr h) = wpx none Tryd.prog 59 n2_c1 (Q1 (fun z0 z4 h => n3 z0 z4 Kn Kr h) Kr) ((⟨g.v, []⟩ : Env).upd (some 0) (S x0)) h := by kernel_rfl
    exact e ▸ hS
  · intro e g' h' hq
    cases e with
    | normal =>
      have hq : D2 (fun z0 z4 h => n3 z0 z4 Kn Kr h) g' h' := hq
      obtain ⟨y0, y4, hg', hq⟩ := D2_ok hq
      exact n3_ok y0 y4 Kn Kr g' hg' h' hq
    | _ => exact hq
def Q2 (Kn : T1) (Kr : T0) : XPost
  | .normal, g, h => D1 Kn g h
  | .ret, g, h => D0 Kr g h
  | _, _, _ => False
abbrev n1 (x0 : List UInt8) (Kn : T0) (Kr : T0) (h : H) : Prop :=
  n2 x0 Kn Kr h
theorem n1_ok (x0 : List UInt8) (Kn : T0) (Kr : T0) (g : Env) (hg : E1 g x0) (h : H) (hS : n1 x0 Kn Kr h) : wpC none Tryd.prog 59 code (Q0 Kn Kr) g h := by
  obtain ⟨hg0, hds⟩ := hg
  refine wpC_seq' (x := n1_c1) (y := n1_c2) (Q' := (Q2 (fun z0 h => n2 z0 Kn Kr h) Kr)) (by kernel_rfl) ?_ ?_
  · refine wpC_of_wpx (by kernel_rfl) (by kernel_rfl) (g' := (⟨g.v, []⟩ : Env).upd (some 0) (S x0)) (by rw [env_ds hds, upd_self hg0]) ?_
    have e : (n1 x0 Kn Kr h) = wpx none Tryd.prog 59 n1_c1 (Q2 (fun z0 h => n2 z0 Kn Kr h) Kr) ((⟨g.v, []⟩ : Env).upd (some 0) (S x0)) h := by kernel_rfl
    exact e ▸ hS
  · intro e g' h' hq
    cases e with
    | normal =>
      have hq : D1 (fun z0 h => n2 z0 Kn Kr h) g' h' := hq
      obtain ⟨y0, hg', hq⟩ := D1_ok hq
      exact n2_ok y0 Kn Kr g' hg' h' hq
    | _ => exact hq
/-- WHAT tympan/auto.mail ASKS -/
abbrev asks (x0 : List UInt8) (K : Value → H → Prop) (h : H) : Prop := n1 x0 (fun y2 y3 h => K (.tuple ⟨[(S y2), (S y3)]⟩) h) (fun y2 y3 h => K (.tuple ⟨[(S y2), (S y3)]⟩) h) h
theorem ok (x0 : List UInt8) (K : Value → H → Prop) (h : H) (hS : asks x0 K h) : HCalls Tryd.prog 21 ⟨[(S x0)]⟩ h K := by
  refine calls_of_wpC (c := code) Tryd.func21 (by kernel_rfl) (Nat.le_of_ble_eq_true (by kernel_rfl)) ?_
  refine (n1_ok x0 (fun y2 y3 h => K (.tuple ⟨[(S y2), (S y3)]⟩) h) (fun y2 y3 h => K (.tuple ⟨[(S y2), (S y3)]⟩) h) (env0 [(S x0)]) ⟨rfl, rfl⟩ h hS).mono ?_
  intro e g' h' hq
  cases e with
  | normal =>
    have hq : D0 (fun y2 y3 h => K (.tuple ⟨[(S y2), (S y3)]⟩) h) g' h' := hq
    obtain ⟨y2, y3, ⟨hg2, hg3, hd⟩, hq⟩ := D0_ok hq
    show leaveX g'.ds h' _
    rw [hd]
    show K (.tuple ⟨[(g'.v 2), (g'.v 3)]⟩) h'
    rw [hg2, hg3]
    exact hq
  | ret =>
    have hq : D0 (fun y2 y3 h => K (.tuple ⟨[(S y2), (S y3)]⟩) h) g' h' := hq
    obtain ⟨y2, y3, ⟨hg2, hg3, hd⟩, hq⟩ := D0_ok hq
    show leaveX g'.ds h' _
    rw [hd]
    show K (.tuple ⟨[(g'.v 2), (g'.v 3)]⟩) h'
    rw [hg2, hg3]
    exact hq
  | _ => exact hq
end Sx.auto_mail

/-! ### tympan/tympanref02.Next -/
namespace Sx.r02_Next
noncomputable def code : Code := bodyOf Tryd.f25
abbrev T0 := Int → H → Prop
def E0 (g : Env) (x4 : Int) : Prop := g.v 4 = (.int .i32 x4) ∧ g.ds = []
def D0 (K : T0) (g : Env) (h : H) : Prop := nilDs g.ds (vInt .i32 (g.v 4) fun i1 => K i1 h)
theorem D0_ok {K : T0} {g : Env} {h : H} (hq : D0 K g h) : ∃ (x4 : Int), E0 g x4 ∧ K x4 h := by
  obtain ⟨hd, hq⟩ := nilDs_ok hq
  obtain ⟨y3, e2, q4⟩ := vInt_ok hq
  exact ⟨y3, ⟨e2, hd⟩, q4⟩
def Q0 (Kn : T0) (Kr : T0) : XPost
  | .normal, g, h => D0 Kn g h
  | .ret, g, h => D0 Kr g h
  | _, _, _ => False
abbrev T1 := (List UInt8) → Int → H → Prop
def E1 (g : Env) (x0 : List UInt8) (x1 : Int) : Prop := g.v 0 = (S x0) ∧ g.v 1 = (.int .i64 x1) ∧ g.ds = []
def D1 (K : T1) (g : Env) (h : H) : Prop := nilDs g.ds (vStr (g.v 0) fun s5 => vInt .i64 (g.v 1) fun i6 => K s5 i6 h)
theorem D1_ok {K : T1} {g : Env} {h : H} (hq : D1 K g h) : ∃ (x0 : List UInt8) (x1 : Int), E1 g x0 x1 ∧ K x0 x1 h := by
  obtain ⟨hd, hq⟩ := nilDs_ok hq
  obtain ⟨y8, e7, q9⟩ := vStr_ok hq
  obtain ⟨y11, e10, q12⟩ := vInt_ok q9
  exact ⟨y8, y11, ⟨e7, e10, hd⟩, q12⟩
abbrev n1 (x0 : List UInt8) (x1 : Int) (Kn : T0) (Kr : T0) (h : H) : Prop :=
  Spl (x1 < (0 : Int)) (Kr (10 : Int) h) (Spl (x1 ≥ (x0.length : Int)) (Kr (10 : Int) h) ((0 ≤ x1 ∧ x1 ≤ (x0.length : Int) ∧ (x0.length : Int) ≤ (x0.length : Int)) ∧ (SemH Tryd.prog (convert 9 45 (S (sub x0 x1 (x0.length : Int)))) h fun v13 h14 => vSlice v13 fun s15b s15n s15c => (0 ≤ (0 : Int) ∧ (0 : Int) < (s15n : Int)) ∧ (vSome s15b fun a16 => ∃ i17, cell h14 (a16.add (Int.toNat (0 : Int) * 1)) = some (.int .i32 i17) ∧ (Kr i17 h14)))))
theorem n1_ok (x0 : List UInt8) (x1 : Int) (Kn : T0) (Kr : T0) (g : Env) (hg : E1 g x0 x1) (h : H) (hS : n1 x0 x1 Kn Kr h) : wpC none Tryd.prog 21 code (Q0 Kn Kr) g h := by
  obtain ⟨hg0, hg1, hds⟩ := hg
  refine wpC_of_wpx (by kernel_rfl) (by kernel_rfl) (g' := ((⟨g.v, []⟩ : Env).upd (some 0) (S x0)).upd (some 1) (.int .i64 x1)) (by rw [env_ds hds, upd_self hg0, upd_self hg1]) ?_
  have e : (n1 x0 x1 Kn Kr h) = wpx none Tryd.prog 21 code (Q0 Kn Kr) (((⟨g.v, []⟩ : Env).upd (some 0) (S x0)).upd (some 1) (.int .i64 x1)) h := by kernel_rfl
  exact e ▸ hS
/-- WHAT tympan/tympanref02.Next ASKS -/
abbrev asks (x0 : List UInt8) (x1 : Int) (K : Value → H → Prop) (h : H) : Prop := n1 x0 x1 (fun y4 h => K (.int .i32 y4) h) (fun y4 h => K (.int .i32 y4) h) h
theorem ok (x0 : List UInt8) (x1 : Int) (K : Value → H → Prop) (h : H) (hS : asks x0 x1 K h) : HCalls Tryd.prog 25 ⟨[(S x0), (.int .i64 x1)]⟩ h K := by
  refine calls_of_wpC (c := code) Tryd.func25 (by kernel_rfl) (Nat.le_of_ble_eq_true (by kernel_rfl)) ?_
  refine (n1_ok x0 x1 (fun y4 h => K (.int .i32 y4) h) (fun y4 h => K (.int .i32 y4) h) (env0 [(S x0), (.int .i64 x1)]) ⟨rfl, rfl, rfl⟩ h hS).mono ?_
  intro e g' h' hq
  cases e with
  | normal =>
    have hq : D0 (fun y4 h => K (.int .i32 y4) h) g' h' := hq
    obtain ⟨y4, ⟨hg4, hd⟩, hq⟩ := D0_ok hq
    show leaveX g'.ds h' _
    rw [hd]
    show K (g'.v 4) h'
    rw [hg4]
    exact hq
  | ret =>
    have hq : D0 (fun y4 h => K (.int .i32 y4) h) g' h' := hq
    obtain ⟨y4, ⟨hg4, hd⟩, hq⟩ := D0_ok hq
    show leaveX g'.ds h' _
    rw [hd]
    show K (g'.v 4) h'
    rw [hg4]
    exact hq
  | _ => exact hq
end Sx.r02_Next

/-! ### tympan/auto.domain -/
namespace Sx.auto_domain
noncomputable def code : Code := bodyOf Tryd.f34
abbrev T0 := Int → H → Prop
def E0 (g : Env) (x2 : Int) : Prop := g.v 2 = (.int .i64 x2) ∧ g.ds = []
def D0 (K : T0) (g : Env) (h : H) : Prop := nilDs g.ds (vInt .i64 (g.v 2) fun i1 => K i1 h)
theorem D0_ok {K : T0} {g : Env} {h : H} (hq : D0 K g h) : ∃ (x2 : Int), E0 g x2 ∧ K x2 h := by
  obtain ⟨hd, hq⟩ := nilDs_ok hq
  obtain ⟨y3, e2, q4⟩ := vInt_ok hq
  exact ⟨y3, ⟨e2, hd⟩, q4⟩
def Q0 (Kn : T0) (Kr : T0) : XPost
  | .normal, g, h => D0 Kn g h
  | .ret, g, h => D0 Kr g h
  | _, _, _ => False
abbrev T1 := (List UInt8) → H → Prop
def E1 (g : Env) (x0 : List UInt8) : Prop := g.v 0 = (S x0) ∧ g.ds = []
def D1 (K : T1) (g : Env) (h : H) : Prop := nilDs g.ds (vStr (g.v 0) fun s5 => K s5 h)
theorem D1_ok {K : T1} {g : Env} {h : H} (hq : D1 K g h) : ∃ (x0 : List UInt8), E1 g x0 ∧ K x0 h := by
  obtain ⟨hd, hq⟩ := nilDs_ok hq
  obtain ⟨y7, e6, q8⟩ := vStr_ok hq
  exact ⟨y7, ⟨e6, hd⟩, q8⟩
noncomputable def n1_c1 : Code := cFst code
noncomputable def n1_c2 : Code := cSnd code
noncomputable def n2_c1 : Code := cFst n1_c2
noncomputable def n2_c2 : Code := cSnd n1_c2
abbrev T2 := (List UInt8) → (Option Addr) → Nat → Nat → H → Prop
def E2 (g : Env) (x0 : List UInt8) (x3b : Option Addr) (x3n : Nat) (x3c : Nat) : Prop := g.v 0 = (S x0) ∧ g.v 3 = (.slice x3b x3n x3c) ∧ g.ds = []
def D2 (K : T2) (g : Env) (h : H) : Prop := nilDs g.ds (vStr (g.v 0) fun s9 => vSlice (g.v 3) fun s10b s10n s10c => K s9 s10b s10n s10c h)
theorem D2_ok {K : T2} {g : Env} {h : H} (hq : D2 K g h) : ∃ (x0 : List UInt8) (x3b : Option Addr) (x3n : Nat) (x3c : Nat), E2 g x0 x3b x3n x3c ∧ K x0 x3b x3n x3c h := by
  obtain ⟨hd, hq⟩ := nilDs_ok hq
  obtain ⟨y12, e11, q13⟩ := vStr_ok hq
  obtain ⟨y15b, y15n, y15c, e14, q16⟩ := vSlice_ok q13
  exact ⟨y12, y15b, y15n, y15c, ⟨e11, e14, hd⟩, q16⟩
noncomputable def n3_c1 : Code := cFst n2_c2
noncomputable def n3_c2 : Code := cSnd n2_c2
abbrev T3 := (List UInt8) → (Option Addr) → Nat → Nat → Int → H → Prop
def E3 (g : Env) (x0 : List UInt8) (x3b : Option Addr) (x3n : Nat) (x3c : Nat) (x4 : Int) : Prop := g.v 0 = (S x0) ∧ g.v 3 = (.slice x3b x3n x3c) ∧ g.v 4 = (.int .i64 x4) ∧ g.ds = []
def D3 (K : T3) (g : Env) (h : H) : Prop := nilDs g.ds (vStr (g.v 0) fun s17 => vSlice (g.v 3) fun s18b s18n s18c => vInt .i64 (g.v 4) fun i19 => K s17 s18b s18n s18c i19 h)
theorem D3_ok {K : T3} {g : Env} {h : H} (hq : D3 K g h) : ∃ (x0 : List UInt8) (x3b : Option Addr) (x3n : Nat) (x3c : Nat) (x4 : Int), E3 g x0 x3b x3n x3c x4 ∧ K x0 x3b x3n x3c x4 h := by
  obtain ⟨hd, hq⟩ := nilDs_ok hq
  obtain ⟨y21, e20, q22⟩ := vStr_ok hq
  obtain ⟨y24b, y24n, y24c, e23, q25⟩ := vSlice_ok q22
  obtain ⟨y27, e26, q28⟩ := vInt_ok q25
  exact ⟨y21, y24b, y24n, y24c, y27, ⟨e20, e23, e26, hd⟩, q28⟩
noncomputable def n4_c1 : Code := cFst n3_c2
noncomputable def n4_c2 : Code := cSnd n3_c2
abbrev T4 := (Option Addr) → Nat → Nat → Int → H → Prop
def E4 (g : Env) (x3b : Option Addr) (x3n : Nat) (x3c : Nat) (x4 : Int) : Prop := g.v 3 = (.slice x3b x3n x3c) ∧ g.v 4 = (.int .i64 x4) ∧ g.ds = []
def D4 (K : T4) (g : Env) (h : H) : Prop := nilDs g.ds (vSlice (g.v 3) fun s29b s29n s29c => vInt .i64 (g.v 4) fun i30 => K s29b s29n s29c i30 h)
theorem D4_ok {K : T4} {g : Env} {h : H} (hq : D4 K g h) : ∃ (x3b : Option Addr) (x3n : Nat) (x3c : Nat) (x4 : Int), E4 g x3b x3n x3c x4 ∧ K x3b x3n x3c x4 h := by
  obtain ⟨hd, hq⟩ := nilDs_ok hq
  obtain ⟨y32b, y32n, y32c, e31, q33⟩ := vSlice_ok hq
  obtain ⟨y35, e34, q36⟩ := vInt_ok q33
  exact ⟨y32b, y32n, y32c, y35, ⟨e31, e34, hd⟩, q36⟩
abbrev n5 (x3b : Option Addr) (x3n : Nat) (x3c : Nat) (x4 : Int) (Kn : T0) (Kr : T0) (h : H) : Prop :=
  Spl ((x3n : Int) < (2 : Int)) (Kr (0 : Int) h) (Rng .i64 ((x3n : Int) - (2 : Int)) ∧ ((0 ≤ ((x3n : Int) - (2 : Int)) ∧ ((x3n : Int) - (2 : Int)) ≤ (x3n : Int) ∧ (x3n : Int) ≤ (x3c : Int)) ∧ (HCalls Tryd.prog 50 ⟨[(.slice (if x3c = Int.toNat ((x3n : Int) - (2 : Int)) then x3b else Option.map (fun q => q.add (Int.toNat ((x3n : Int) - (2 : Int)) * 1)) x3b) (Int.toNat (x3n : Int) - Int.toNat ((x3n : Int) - (2 : Int))) (x3c - Int.toNat ((x3n : Int) - (2 : Int)))), (S ([] : List UInt8))]⟩ h fun v37 h38 => vStr v37 fun s39 => HCalls Tryd.prog 40 ⟨[(S s39), (S ([95] : List UInt8))]⟩ h38 fun v40 h41 => vBool v40 fun b42 => cond b42 (Kr (0 : Int) h41) (Kr x4 h41))))
theorem n5_ok (x3b : Option Addr) (x3n : Nat) (x3c : Nat) (x4 : Int) (Kn : T0) (Kr : T0) (g : Env) (hg : E4 g x3b x3n x3c x4) (h : H) (hS : n5 x3b x3n x3c x4 Kn Kr h) : wpC none Tryd.prog 52 n4_c2 (Q0 Kn Kr) g h := by
  obtain ⟨hg3, hg4, hds⟩ := hg
  refine wpC_of_wpx (by kernel_rfl) (by kernel_rfl) (g' := ((⟨g.v, []⟩ : Env).upd (some 3) (.slice x3b x3n x3c)).upd (some 4) (.int .i64 x4)) (by rw [env_ds hds, upd_self hg3, upd_self hg4]) ?_
  have e : (n5 x3b x3n x3c x4 Kn Kr h) = wpx none Tryd.prog 52 n4_c2 (Q0 Kn Kr) (((⟨g.v, []⟩ : Env).upd (some 3) (.slice x3b x3n x3c)).upd (some 4) (.int .i64 x4)) h := by kernel_rfl
  exact e ▸ hS
def Q1 (Kn : T4) (Kr : T0) : XPost
  | .normal, g, h => D4 Kn g h
  | .ret, g, h => D0 Kr g h
  | _, _, _ => False
noncomputable def n6_c1 : Code := cFst n4_c1
def Q2 (Kn : T4) (Ke0 : T4) (Kr : T0) : XPost
  | .normal, g, h => D4 Kn g h
  | .ret, g, h => D0 Kr g h
  | .exit id, g, h => cond (Nat.beq id 0) (D4 Ke0 g h) (False)
  | _, _, _ => False
noncomputable def n7_c1 : Code := cFst n6_c1
def Q3 (Kn : T3) (Ke0 : T4) (Kr : T0) : XPost
  | .normal, g, h => D3 Kn g h
  | .ret, g, h => D0 Kr g h
  | .exit id, g, h => cond (Nat.beq id 0) (D4 Ke0 g h) (False)
  | _, _, _ => False
def n7_L (Kn : T4) (Ke0 : T4) (Kr : T0) : Nat → (List UInt8) → (Option Addr) → Nat → Nat → Int → H → Prop
  | 0 => fun _ _ _ _ _ _ => False
  | N + 1 => fun x0 x3b x3n x3c x4 h => (0 ≤ x4 ∧ x4 ≤ (x0.length : Int) ∧ (x0.length : Int) ≤ (x0.length : Int)) ∧ (HCalls Tryd.prog 38 ⟨[(S (sub x0 x4 (x0.length : Int))), (.func (.func 49) ⟨[]⟩ ⟨[]⟩)]⟩ h fun v43 h44 => vInt .i64 v43 fun i45 => Spl (i45 = (0 : Int)) (Ke0 x3b x3n x3c x4 h44) (Rng .i64 (x4 + i45) ∧ ((0 ≤ x4 ∧ x4 ≤ (x4 + i45) ∧ (x4 + i45) ≤ (x0.length : Int)) ∧ (newx h44 #[(S (sub x0 x4 (x4 + i45)))] 9 fun a46 h47 => SemH Tryd.prog (Builtin.append_ #[46, 46] 46 ⟨[(.slice x3b x3n x3c), (.slice (some a46) 1 1)]⟩) h47 fun v48 h49 => vSlice v48 fun s50b s50n s50c => Rng .i64 (x4 + i45) ∧ ((0 ≤ (x4 + i45) ∧ (x4 + i45) ≤ (x0.length : Int) ∧ (x0.length : Int) ≤ (x0.length : Int)) ∧ (HCalls Tryd.prog 33 ⟨[(S (sub x0 (x4 + i45) (x0.length : Int))), (S ([46] : List UInt8))]⟩ h49 fun v51 h52 => vBool v51 fun b53 => cond b53 (Rng .i64 ((x4 + i45) + (1 : Int)) ∧ ((0 ≤ ((x4 + i45) + (1 : Int)) ∧ ((x4 + i45) + (1 : Int)) ≤ (x0.length : Int) ∧ (x0.length : Int) ≤ (x0.length : Int)) ∧ (HCalls Tryd.prog 38 ⟨[(S (sub x0 ((x4 + i45) + (1 : Int)) (x0.length : Int))), (.func (.func 49) ⟨[]⟩ ⟨[]⟩)]⟩ h52 fun v54 h55 => vInt .i64 v54 fun i56 => Spl (i56 = (0 : Int)) (Ke0 s50b s50n s50c (x4 + i45) h55) (Rng .i64 ((x4 + i45) + (1 : Int)) ∧ (n7_L Kn Ke0 Kr N x0 s50b s50n s50c ((x4 + i45) + (1 : Int)) h55))))) (Ke0 s50b s50n s50c (x4 + i45) h52)))))))
abbrev n7 (x0 : List UInt8) (x3b : Option Addr) (x3n : Nat) (x3c : Nat) (x4 : Int) (Kn : T4) (Ke0 : T4) (Kr : T0) (h : H) : Prop := ∃ N, n7_L Kn Ke0 Kr N x0 x3b x3n x3c x4 h
theorem n7_ok (x0 : List UInt8) (x3b : Option Addr) (x3n : Nat) (x3c : Nat) (x4 : Int) (Kn : T4) (Ke0 : T4) (Kr : T0) (g : Env) (hg : E3 g x0 x3b x3n x3c x4) (h : H) (hS : n7 x0 x3b x3n x3c x4 Kn Ke0 Kr h) : wpC none Tryd.prog 52 n6_c1 (Q2 Kn Ke0 Kr) g h := by
  obtain ⟨N0, hS⟩ := hS
  refine wpC_loop' (x := n7_c1) (by kernel_rfl) (fun k g h => ∃ (x0 : List UInt8) (x3b : Option Addr) (x3n : Nat) (x3c : Nat) (x4 : Int), E3 g x0 x3b x3n x3c x4 ∧ n7_L Kn Ke0 Kr k x0 x3b x3n x3c x4 h) (fun g h hr => ?_) (fun N g h hr => ?_) N0 ⟨x0, x3b, x3n, x3c, x4, hg, hS⟩
  · obtain ⟨x0, x3b, x3n, x3c, x4, hg, hS⟩ := hr
    exact hS.elim
  · obtain ⟨x0, x3b, x3n, x3c, x4, hg, hS⟩ := hr
    have hw : wpC none Tryd.prog 52 n7_c1 (Q3 (fun z0 z3b z3n z3c z4 h => n7_L Kn Ke0 Kr N z0 z3b z3n z3c z4 h) Ke0 Kr) g h := by
      obtain ⟨hg0, hg3, hg4, hds⟩ := hg
      refine wpC_of_wpx (by kernel_rfl) (by kernel_rfl) (g' := (((⟨g.v, []⟩ : Env).upd (some 0) (S x0)).upd (some 3) (.slice x3b x3n x3c)).upd (some 4) (.int .i64 x4)) (by rw [env_ds hds, upd_self hg0, upd_self hg3, upd_self hg4]) ?_
      have e : (n7_L Kn Ke0 Kr (N + 1) x0 x3b x3n x3c x4 h) = wpx none Tryd.prog 52 n7_c1 (Q3 (fun z0 z3b z3n z3c z4 h => n7_L Kn Ke0 Kr N z0 z3b z3n z3c z4 h) Ke0 Kr) ((((⟨g.v, []⟩ : Env).upd (some 0) (S x0)).upd (some 3) (.slice x3b x3n x3c)).upd (some 4) (.int .i64 x4)) h := by kernel_rfl
      exact e ▸ hS
    refine hw.mono ?_
    intro e g' h' hq
    cases e with
    | normal => exact D3_ok (K := (fun z0 z3b z3n z3c z4 h => n7_L Kn Ke0 Kr N z0 z3b z3n z3c z4 h)) hq
    | _ => exact hq
abbrev n6 (x0 : List UInt8) (x3b : Option Addr) (x3n : Nat) (x3c : Nat) (x4 : Int) (Kn : T4) (Kr : T0) (h : H) : Prop := n7 x0 x3b x3n x3c x4 Kn Kn Kr h
theorem n6_ok (x0 : List UInt8) (x3b : Option Addr) (x3n : Nat) (x3c : Nat) (x4 : Int) (Kn : T4) (Kr : T0) (g : Env) (hg : E3 g x0 x3b x3n x3c x4) (h : H) (hS : n6 x0 x3b x3n x3c x4 Kn Kr h) : wpC none Tryd.prog 52 n4_c1 (Q1 Kn Kr) g h := by
  refine wpC_block' (id := 0) (x := n6_c1) (by kernel_rfl) (n7_ok x0 x3b x3n x3c x4 Kn Kn Kr g hg h hS) ?_
  intro e g' h' hq
  cases e <;> exact hq
abbrev n4 (x0 : List UInt8) (x3b : Option Addr) (x3n : Nat) (x3c : Nat) (x4 : Int) (Kn : T0) (Kr : T0) (h : H) : Prop := n6 x0 x3b x3n x3c x4 (fun z3b z3n z3c z4 h => n5 z3b z3n z3c z4 Kn Kr h) Kr h
theorem n4_ok (x0 : List UInt8) (x3b : Option Addr) (x3n : Nat) (x3c : Nat) (x4 : Int) (Kn : T0) (Kr : T0) (g : Env) (hg : E3 g x0 x3b x3n x3c x4) (h : H) (hS : n4 x0 x3b x3n x3c x4 Kn Kr h) : wpC none Tryd.prog 52 n3_c2 (Q0 Kn Kr) g h := by
  refine wpC_seq' (x := n4_c1) (y := n4_c2) (by kernel_rfl) (n6_ok x0 x3b x3n x3c x4 (fun z3b z3n z3c z4 h => n5 z3b z3n z3c z4 Kn Kr h) Kr g hg h hS) ?_
  intro e g' h' hq
  cases e with
  | normal =>
    have hq : D4 (fun z3b z3n z3c z4 h => n5 z3b z3n z3c z4 Kn Kr h) g' h' := hq
    obtain ⟨y3b, y3n, y3c, y4, hg', hq⟩ := D4_ok hq
    exact n5_ok y3b y3n y3c y4 Kn Kr g' hg' h' hq
  | _ => exact hq
def Q4 (Kn : T3) (Kr : T0) : XPost
  | .normal, g, h => D3 Kn g h
  | .ret, g, h => D0 Kr g h
  | _, _, _ => False
abbrev n3 (x0 : List UInt8) (x3b : Option Addr) (x3n : Nat) (x3c : Nat) (Kn : T0) (Kr : T0) (h : H) : Prop :=
  n4 x0 x3b x3n x3c (0 : Int) Kn Kr h
theorem n3_ok (x0 : List UInt8) (x3b : Option Addr) (x3n : Nat) (x3c : Nat) (Kn : T0) (Kr : T0) (g : Env) (hg : E2 g x0 x3b x3n x3c) (h : H) (hS : n3 x0 x3b x3n x3c Kn Kr h) : wpC none Tryd.prog 52 n2_c2 (Q0 Kn Kr) g h := by
  obtain ⟨hg0, hg3, hds⟩ := hg
  refine wpC_seq' (x := n3_c1) (y := n3_c2) (Q' := (Q4 (fun z0 z3b z3n z3c z4 h => n4 z0 z3b z3n z3c z4 Kn Kr h) Kr)) (by kernel_rfl) ?_ ?_
  · refine wpC_of_wpx (by kernel_rfl) (by kernel_rfl) (g' := ((⟨g.v, []⟩ : Env).upd (some 0) (S x0)).upd (some 3) (.slice x3b x3n x3c)) (by rw [env_ds hds, upd_self hg0, upd_self hg3]) ?_
    have e : (n3 x0 x3b x3n x3c Kn Kr h) = wpx none Tryd.prog 52 n3_c1 (Q4 (fun z0 z3b z3n z3c z4 h => n4 z0 z3b z3n z3c z4 Kn Kr h) Kr) (((⟨g.v, []⟩ : Env).upd (some 0) (S x0)).upd (some 3) (.slice x3b x3n x3c)) h := by kernel_rfl
    exact e ▸ hS
  · intro e g' h' hq
    cases e with
    | normal =>
      have hq : D3 (fun z0 z3b z3n z3c z4 h => n4 z0 z3b z3n z3c z4 Kn Kr h) g' h' := hq
      obtain ⟨y0, y3b, y3n, y3c, y4, hg', hq⟩ := D3_ok hq
      exact n4_ok y0 y3b y3n y3c y4 Kn Kr g' hg' h' hq
    | _ => exact hq
def Q5 (Kn : T2) (Kr : T0) : XPost
  | .normal, g, h => D2 Kn g h
  | .ret, g, h => D0 Kr g h
  | _, _, _ => False
abbrev n2 (x0 : List UInt8) (Kn : T0) (Kr : T0) (h : H) : Prop :=
  n3 x0 none 0 0 Kn Kr h
theorem n2_ok (x0 : List UInt8) (Kn : T0) (Kr : T0) (g : Env) (hg : E1 g x0) (h : H) (hS : n2 x0 Kn Kr h) : wpC none Tryd.prog 52 n1_c2 (Q0 Kn Kr) g h := by
  obtain ⟨hg0, hds⟩ := hg
  refine wpC_seq' (x := n2_c1) (y := n2_c2) (Q' := (Q5 (fun z0 z3b z3n z3c h => n3 z0 z3b z3n z3c Kn Kr h) Kr)) (by kernel_rfl) ?_ ?_
  · refine wpC_of_wpx (by kernel_rfl) (by kernel_rfl) (g' := (⟨g.v, []⟩ : Env).upd (some 0) (S x0)) (by rw [env_ds hds, upd_self hg0]) ?_
    have e : (n2 x0 Kn Kr h) = wpx none Tryd.prog 52 n2_c1 (Q5 (fun z0 z3b z3n z3c h => n3 z0 z3b z3n z3c Kn Kr h) Kr) ((⟨g.v, []⟩ : Env).upd (some 0) (S x0)) h := by kernel_rfl
    exact e ▸ hS
  · intro e g' h' hq
    cases e with
    | normal =>
      have hq : D2 (fun z0 z3b z3n z3c h => n3 z0 z3b z3n z3c Kn Kr h) g' h' := hq
      obtain ⟨y0, y3b, y3n, y3c, hg', hq⟩ := D2_ok hq
      exact n3_ok y0 y3b y3n y3c Kn Kr g' hg' h' hq
    | _ => exact hq
def Q6 (Kn : T1) (Kr : T0) : XPost
  | .normal, g, h => D1 Kn g h
  | .ret, g, h => D0 Kr g h
  | _, _, _ => False
abbrev n1 (x0 : List UInt8) (Kn : T0) (Kr : T0) (h : H) : Prop :=
  n2 x0 Kn Kr h
theorem n1_ok (x0 : List UInt8) (Kn : T0) (Kr : T0) (g : Env) (hg : E1 g x0) (h : H) (hS : n1 x0 Kn Kr h) : wpC none Tryd.prog 52 code (Q0 Kn Kr) g h := by
  obtain ⟨hg0, hds⟩ := hg
  refine wpC_seq' (x := n1_c1) (y := n1_c2) (Q' := (Q6 (fun z0 h => n2 z0 Kn Kr h) Kr)) (by kernel_rfl) ?_ ?_
  · refine wpC_of_wpx (by kernel_rfl) (by kernel_rfl) (g' := (⟨g.v, []⟩ : Env).upd (some 0) (S x0)) (by rw [env_ds hds, upd_self hg0]) ?_
    have e : (n1 x0 Kn Kr h) = wpx none Tryd.prog 52 n1_c1 (Q6 (fun z0 h => n2 z0 Kn Kr h) Kr) ((⟨g.v, []⟩ : Env).upd (some 0) (S x0)) h := by kernel_rfl
    exact e ▸ hS
  · intro e g' h' hq
    cases e with
    | normal =>
      have hq : D1 (fun z0 h => n2 z0 Kn Kr h) g' h' := hq
      obtain ⟨y0, hg', hq⟩ := D1_ok hq
      exact n2_ok y0 Kn Kr g' hg' h' hq
    | _ => exact hq
/-- WHAT tympan/auto.domain ASKS -/
abbrev asks (x0 : List UInt8) (K : Value → H → Prop) (h : H) : Prop := n1 x0 (fun y2 h => K (.int .i64 y2) h) (fun y2 h => K (.int .i64 y2) h) h
theorem ok (x0 : List UInt8) (K : Value → H → Prop) (h : H) (hS : asks x0 K h) : HCalls Tryd.prog 34 ⟨[(S x0)]⟩ h K := by
  refine calls_of_wpC (c := code) Tryd.func34 (by kernel_rfl) (Nat.le_of_ble_eq_true (by kernel_rfl)) ?_
  refine (n1_ok x0 (fun y2 h => K (.int .i64 y2) h) (fun y2 h => K (.int .i64 y2) h) (env0 [(S x0)]) ⟨rfl, rfl⟩ h hS).mono ?_
  intro e g' h' hq
  cases e with
  | normal =>
    have hq : D0 (fun y2 h => K (.int .i64 y2) h) g' h' := hq
    obtain ⟨y2, ⟨hg2, hd⟩, hq⟩ := D0_ok hq
    show leaveX g'.ds h' _
    rw [hd]
    show K (g'.v 2) h'
    rw [hg2]
    exact hq
  | ret =>
    have hq : D0 (fun y2 h => K (.int .i64 y2) h) g' h' := hq
    obtain ⟨y2, ⟨hg2, hd⟩, hq⟩ := D0_ok hq
    show leaveX g'.ds h' _
    rw [hd]
    show K (g'.v 2) h'
    rw [hg2]
    exact hq
  | _ => exact hq
end Sx.auto_domain

/-! ### tympan/auto.page$1 -/
namespace Sx.auto_page_1
noncomputable def code : Code := bodyOf Tryd.f36
abbrev T0 := Bool → H → Prop
def E0 (g : Env) (x2 : Bool) : Prop := g.v 2 = (.bool x2) ∧ g.ds = []
def D0 (K : T0) (g : Env) (h : H) : Prop := nilDs g.ds (vBool (g.v 2) fun b1 => K b1 h)
theorem D0_ok {K : T0} {g : Env} {h : H} (hq : D0 K g h) : ∃ (x2 : Bool), E0 g x2 ∧ K x2 h := by
  obtain ⟨hd, hq⟩ := nilDs_ok hq
  obtain ⟨y3, e2, q4⟩ := vBool_ok hq
  exact ⟨y3, ⟨e2, hd⟩, q4⟩
def Q0 (Kn : T0) (Kr : T0) : XPost
  | .normal, g, h => D0 Kn g h
  | .ret, g, h => D0 Kr g h
  | _, _, _ => False
abbrev T1 := Int → H → Prop
def E1 (g : Env) (x0 : Int) : Prop := g.v 0 = (.int .i32 x0) ∧ g.ds = []
def D1 (K : T1) (g : Env) (h : H) : Prop := nilDs g.ds (vInt .i32 (g.v 0) fun i5 => K i5 h)
theorem D1_ok {K : T1} {g : Env} {h : H} (hq : D1 K g h) : ∃ (x0 : Int), E1 g x0 ∧ K x0 h := by
  obtain ⟨hd, hq⟩ := nilDs_ok hq
  obtain ⟨y7, e6, q8⟩ := vInt_ok hq
  exact ⟨y7, ⟨e6, hd⟩, q8⟩
abbrev n1 (x0 : Int) (Kn : T0) (Kr : T0) (h : H) : Prop :=
  Spl (x0 = (60 : Int)) (Kr true h) (HCalls Tryd.prog 18 ⟨[(.int .i32 x0)]⟩ h fun v9 h10 => vBool v9 fun b11 => cond b11 (Kr true h10) (Kr false h10))
theorem n1_ok (x0 : Int) (Kn : T0) (Kr : T0) (g : Env) (hg : E1 g x0) (h : H) (hS : n1 x0 Kn Kr h) : wpC none Tryd.prog 9 code (Q0 Kn Kr) g h := by
  obtain ⟨hg0, hds⟩ := hg
  refine wpC_of_wpx (by kernel_rfl) (by kernel_rfl) (g' := (⟨g.v, []⟩ : Env).upd (some 0) (.int .i32 x0)) (by rw [env_ds hds, upd_self hg0]) ?_
  have e : (n1 x0 Kn Kr h) = wpx none Tryd.prog 9 code (Q0 Kn Kr) ((⟨g.v, []⟩ : Env).upd (some 0) (.int .i32 x0)) h := by kernel_rfl
  exact e ▸ hS
/-- WHAT tympan/auto.page$1 ASKS -/
abbrev asks (x0 : Int) (K : Value → H → Prop) (h : H) : Prop := n1 x0 (fun y2 h => K (.bool y2) h) (fun y2 h => K (.bool y2) h) h
theorem ok (x0 : Int) (K : Value → H → Prop) (h : H) (hS : asks x0 K h) : HCalls Tryd.prog 36 ⟨[(.int .i32 x0)]⟩ h K := by
  refine calls_of_wpC (c := code) Tryd.func36 (by kernel_rfl) (Nat.le_of_ble_eq_true (by kernel_rfl)) ?_
  refine (n1_ok x0 (fun y2 h => K (.bool y2) h) (fun y2 h => K (.bool y2) h) (env0 [(.int .i32 x0)]) ⟨rfl, rfl⟩ h hS).mono ?_
  intro e g' h' hq
  cases e with
  | normal =>
    have hq : D0 (fun y2 h => K (.bool y2) h) g' h' := hq
    obtain ⟨y2, ⟨hg2, hd⟩, hq⟩ := D0_ok hq
    show leaveX g'.ds h' _
    rw [hd]
    show K (g'.v 2) h'
    rw [hg2]
    exact hq
  | ret =>
    have hq : D0 (fun y2 h => K (.bool y2) h) g' h' := hq
    obtain ⟨y2, ⟨hg2, hd⟩, hq⟩ := D0_ok hq
    show leaveX g'.ds h' _
    rw [hd]
    show K (g'.v 2) h'
    rw [hg2]
    exact hq
  | _ => exact hq
end Sx.auto_page_1

/-! ### tympan/auto.trimmed -/
namespace Sx.auto_trimmed
noncomputable def code : Code := bodyOf Tryd.f37
abbrev T0 := (List UInt8) → H → Prop
def E0 (g : Env) (x4 : List UInt8) : Prop := g.v 4 = (S x4) ∧ g.ds = []
def D0 (K : T0) (g : Env) (h : H) : Prop := nilDs g.ds (vStr (g.v 4) fun s1 => K s1 h)
theorem D0_ok {K : T0} {g : Env} {h : H} (hq : D0 K g h) : ∃ (x4 : List UInt8), E0 g x4 ∧ K x4 h := by
  obtain ⟨hd, hq⟩ := nilDs_ok hq
  obtain ⟨y3, e2, q4⟩ := vStr_ok hq
  exact ⟨y3, ⟨e2, hd⟩, q4⟩
def Q0 (Kn : T0) (Kr : T0) : XPost
  | .normal, g, h => D0 Kn g h
  | .ret, g, h => D0 Kr g h
  | _, _, _ => False
abbrev T1 := (List UInt8) → Int → H → Prop
def E1 (g : Env) (x0 : List UInt8) (x1 : Int) : Prop := g.v 0 = (S x0) ∧ g.v 1 = (.int .i64 x1) ∧ g.ds = []
def D1 (K : T1) (g : Env) (h : H) : Prop := nilDs g.ds (vStr (g.v 0) fun s5 => vInt .i64 (g.v 1) fun i6 => K s5 i6 h)
theorem D1_ok {K : T1} {g : Env} {h : H} (hq : D1 K g h) : ∃ (x0 : List UInt8) (x1 : Int), E1 g x0 x1 ∧ K x0 x1 h := by
  obtain ⟨hd, hq⟩ := nilDs_ok hq
  obtain ⟨y8, e7, q9⟩ := vStr_ok hq
  obtain ⟨y11, e10, q12⟩ := vInt_ok q9
  exact ⟨y8, y11, ⟨e7, e10, hd⟩, q12⟩
noncomputable def n1_c1 : Code := cFst code
noncomputable def n1_c2 : Code := cSnd code
noncomputable def n2_c1 : Code := cFst n1_c2
noncomputable def n2_c2 : Code := cSnd n1_c2
abbrev T2 := (List UInt8) → H → Prop
def E2 (g : Env) (x0 : List UInt8) : Prop := g.v 0 = (S x0) ∧ g.ds = []
def D2 (K : T2) (g : Env) (h : H) : Prop := nilDs g.ds (vStr (g.v 0) fun s13 => K s13 h)
theorem D2_ok {K : T2} {g : Env} {h : H} (hq : D2 K g h) : ∃ (x0 : List UInt8), E2 g x0 ∧ K x0 h := by
  obtain ⟨hd, hq⟩ := nilDs_ok hq
  obtain ⟨y15, e14, q16⟩ := vStr_ok hq
  exact ⟨y15, ⟨e14, hd⟩, q16⟩
abbrev n3 (x0 : List UInt8) (Kn : T0) (Kr : T0) (h : H) : Prop :=
  Kr x0 h
theorem n3_ok (x0 : List UInt8) (Kn : T0) (Kr : T0) (g : Env) (hg : E2 g x0) (h : H) (hS : n3 x0 Kn Kr h) : wpC none Tryd.prog 67 n2_c2 (Q0 Kn Kr) g h := by
  obtain ⟨hg0, hds⟩ := hg
  refine wpC_of_wpx (by kernel_rfl) (by kernel_rfl) (g' := (⟨g.v, []⟩ : Env).upd (some 0) (S x0)) (by rw [env_ds hds, upd_self hg0]) ?_
  have e : (n3 x0 Kn Kr h) = wpx none Tryd.prog 67 n2_c2 (Q0 Kn Kr) ((⟨g.v, []⟩ : Env).upd (some 0) (S x0)) h := by kernel_rfl
  exact e ▸ hS
def Q1 (Kn : T2) (Kr : T0) : XPost
  | .normal, g, h => D2 Kn g h
  | .ret, g, h => D0 Kr g h
  | _, _, _ => False
noncomputable def n4_c1 : Code := cFst n2_c1
def Q2 (Kn : T2) (Ke0 : T2) (Kr : T0) : XPost
  | .normal, g, h => D2 Kn g h
  | .ret, g, h => D0 Kr g h
  | .exit id, g, h => cond (Nat.beq id 0) (D2 Ke0 g h) (False)
  | _, _, _ => False
noncomputable def n5_c1 : Code := cFst n4_c1
def Q3 (Kn : T1) (Ke0 : T2) (Kr : T0) : XPost
  | .normal, g, h => D1 Kn g h
  | .ret, g, h => D0 Kr g h
  | .exit id, g, h => cond (Nat.beq id 0) (D2 Ke0 g h) (False)
  | _, _, _ => False
noncomputable def n6_c1 : Code := cFst n5_c1
noncomputable def n6_c2 : Code := cSnd n5_c1
noncomputable def n7_c1 : Code := cFst n6_c2
def Q4 (Kn : T1) (Ke1 : T1) (Ke0 : T2) (Kr : T0) : XPost
  | .normal, g, h => D1 Kn g h
  | .ret, g, h => D0 Kr g h
  | .exit id, g, h => cond (Nat.beq id 1) (D1 Ke1 g h) (cond (Nat.beq id 0) (D2 Ke0 g h) (False))
  | _, _, _ => False
noncomputable def n8_c1 : Code := cFst n7_c1
noncomputable def n8_c2 : Code := cSnd n7_c1
abbrev T3 := (List UInt8) → Int → Int → H → Prop
def E3 (g : Env) (x0 : List UInt8) (x1 : Int) (x5 : Int) : Prop := g.v 0 = (S x0) ∧ g.v 1 = (.int .i64 x1) ∧ g.v 5 = (.int .i64 x5) ∧ g.ds = []
def D3 (K : T3) (g : Env) (h : H) : Prop := nilDs g.ds (vStr (g.v 0) fun s17 => vInt .i64 (g.v 1) fun i18 => vInt .i64 (g.v 5) fun i19 => K s17 i18 i19 h)
theorem D3_ok {K : T3} {g : Env} {h : H} (hq : D3 K g h) : ∃ (x0 : List UInt8) (x1 : Int) (x5 : Int), E3 g x0 x1 x5 ∧ K x0 x1 x5 h := by
  obtain ⟨hd, hq⟩ := nilDs_ok hq
  obtain ⟨y21, e20, q22⟩ := vStr_ok hq
  obtain ⟨y24, e23, q25⟩ := vInt_ok q22
  obtain ⟨y27, e26, q28⟩ := vInt_ok q25
  exact ⟨y21, y24, y27, ⟨e20, e23, e26, hd⟩, q28⟩
noncomputable def n9_c1 : Code := cFst n8_c2
noncomputable def n9_c2 : Code := cSnd n8_c2
abbrev n10 (x0 : List UInt8) (x1 : Int) (x5 : Int) (Kn : T1) (Ke1 : T1) (Ke0 : T2) (Kr : T0) (h : H) : Prop :=
  (0 ≤ (0 : Int) ∧ (0 : Int) ≤ x5 ∧ x5 ≤ (x0.length : Int)) ∧ (HCalls Tryd.prog 53 ⟨[(S (sub x0 (0 : Int) x5)), (.func (.func 54) ⟨[]⟩ ⟨[]⟩)]⟩ h fun v29 h30 => vStr v29 fun s31 => Spl ((s31.length : Int) = x5) (Kr x0 h30) (HCalls Tryd.prog 41 ⟨[(S s31), (S ([38] : List UInt8))]⟩ h30 fun v32 h33 => vBool v32 fun b34 => cond b34 (Rng .i64 ((s31.length : Int) - (1 : Int)) ∧ (Spl (((s31.length : Int) - (1 : Int)) < x1) (Kr x0 h33) (Rng .i64 ((s31.length : Int) - (1 : Int)) ∧ ((0 ≤ (0 : Int) ∧ (0 : Int) ≤ ((s31.length : Int) - (1 : Int)) ∧ ((s31.length : Int) - (1 : Int)) ≤ (s31.length : Int)) ∧ (Kn (sub s31 (0 : Int) ((s31.length : Int) - (1 : Int))) x1 h33))))) (Kr x0 h33)))
theorem n10_ok (x0 : List UInt8) (x1 : Int) (x5 : Int) (Kn : T1) (Ke1 : T1) (Ke0 : T2) (Kr : T0) (g : Env) (hg : E3 g x0 x1 x5) (h : H) (hS : n10 x0 x1 x5 Kn Ke1 Ke0 Kr h) : wpC none Tryd.prog 67 n9_c2 (Q4 Kn Ke1 Ke0 Kr) g h := by
  obtain ⟨hg0, hg1, hg5, hds⟩ := hg
  refine wpC_of_wpx (by kernel_rfl) (by kernel_rfl) (g' := (((⟨g.v, []⟩ : Env).upd (some 0) (S x0)).upd (some 1) (.int .i64 x1)).upd (some 5) (.int .i64 x5)) (by rw [env_ds hds, upd_self hg0, upd_self hg1, upd_self hg5]) ?_
  have e : (n10 x0 x1 x5 Kn Ke1 Ke0 Kr h) = wpx none Tryd.prog 67 n9_c2 (Q4 Kn Ke1 Ke0 Kr) ((((⟨g.v, []⟩ : Env).upd (some 0) (S x0)).upd (some 1) (.int .i64 x1)).upd (some 5) (.int .i64 x5)) h := by kernel_rfl
  exact e ▸ hS
def Q5 (Kn : T3) (Ke1 : T1) (Ke0 : T2) (Kr : T0) : XPost
  | .normal, g, h => D3 Kn g h
  | .ret, g, h => D0 Kr g h
  | .exit id, g, h => cond (Nat.beq id 1) (D1 Ke1 g h) (cond (Nat.beq id 0) (D2 Ke0 g h) (False))
  | _, _, _ => False
noncomputable def n11_c1 : Code := cFst n9_c1
def Q6 (Kn : T3) (Ke2 : T3) (Ke1 : T1) (Ke0 : T2) (Kr : T0) : XPost
  | .normal, g, h => D3 Kn g h
  | .ret, g, h => D0 Kr g h
  | .exit id, g, h => cond (Nat.beq id 2) (D3 Ke2 g h) (cond (Nat.beq id 1) (D1 Ke1 g h) (cond (Nat.beq id 0) (D2 Ke0 g h) (False)))
  | _, _, _ => False
noncomputable def n12_c1 : Code := cFst n11_c1
noncomputable def n12_c2 : Code := cSnd n11_c1
abbrev T4 := (List UInt8) → Int → Int → Bool → H → Prop
def E4 (g : Env) (x0 : List UInt8) (x1 : Int) (x5 : Int) (x14 : Bool) : Prop := g.v 0 = (S x0) ∧ g.v 1 = (.int .i64 x1) ∧ g.v 5 = (.int .i64 x5) ∧ g.v 14 = (.bool x14) ∧ g.ds = []
def D4 (K : T4) (g : Env) (h : H) : Prop := nilDs g.ds (vStr (g.v 0) fun s35 => vInt .i64 (g.v 1) fun i36 => vInt .i64 (g.v 5) fun i37 => vBool (g.v 14) fun b38 => K s35 i36 i37 b38 h)
theorem D4_ok {K : T4} {g : Env} {h : H} (hq : D4 K g h) : ∃ (x0 : List UInt8) (x1 : Int) (x5 : Int) (x14 : Bool), E4 g x0 x1 x5 x14 ∧ K x0 x1 x5 x14 h := by
  obtain ⟨hd, hq⟩ := nilDs_ok hq
  obtain ⟨y40, e39, q41⟩ := vStr_ok hq
  obtain ⟨y43, e42, q44⟩ := vInt_ok q41
  obtain ⟨y46, e45, q47⟩ := vInt_ok q44
  obtain ⟨y49, e48, q50⟩ := vBool_ok q47
  exact ⟨y40, y43, y46, y49, ⟨e39, e42, e45, e48, hd⟩, q50⟩
abbrev n13 (x0 : List UInt8) (x1 : Int) (x5 : Int) (x14 : Bool) (Kn : T3) (Ke2 : T3) (Ke1 : T1) (Ke0 : T2) (Kr : T0) (h : H) : Prop :=
  cond x14 ((0 ≤ (0 : Int) ∧ (0 : Int) ≤ x5 ∧ x5 ≤ (x0.length : Int)) ∧ (Ke1 (sub x0 (0 : Int) x5) x1 h)) ((0 ≤ x5 ∧ x5 < (x0.length : Int)) ∧ (Spl (((List.getD x0 (Int.toNat x5) 0).toNat : Int) = (59 : Int)) (Kn x0 x1 x5 h) (Kr x0 h)))
theorem n13_ok (x0 : List UInt8) (x1 : Int) (x5 : Int) (x14 : Bool) (Kn : T3) (Ke2 : T3) (Ke1 : T1) (Ke0 : T2) (Kr : T0) (g : Env) (hg : E4 g x0 x1 x5 x14) (h : H) (hS : n13 x0 x1 x5 x14 Kn Ke2 Ke1 Ke0 Kr h) : wpC none Tryd.prog 67 n12_c2 (Q6 Kn Ke2 Ke1 Ke0 Kr) g h := by
  obtain ⟨hg0, hg1, hg5, hg14, hds⟩ := hg
  refine wpC_of_wpx (by kernel_rfl) (by kernel_rfl) (g' := ((((⟨g.v, []⟩ : Env).upd (some 0) (S x0)).upd (some 1) (.int .i64 x1)).upd (some 5) (.int .i64 x5)).upd (some 14) (.bool x14)) (by rw [env_ds hds, upd_self hg0, upd_self hg1, upd_self hg5, upd_self hg14]) ?_
  have e : (n13 x0 x1 x5 x14 Kn Ke2 Ke1 Ke0 Kr h) = wpx none Tryd.prog 67 n12_c2 (Q6 Kn Ke2 Ke1 Ke0 Kr) (((((⟨g.v, []⟩ : Env).upd (some 0) (S x0)).upd (some 1) (.int .i64 x1)).upd (some 5) (.int .i64 x5)).upd (some 14) (.bool x14)) h := by kernel_rfl
  exact e ▸ hS
def Q7 (Kn : T4) (Ke2 : T3) (Ke1 : T1) (Ke0 : T2) (Kr : T0) : XPost
  | .normal, g, h => D4 Kn g h
  | .ret, g, h => D0 Kr g h
  | .exit id, g, h => cond (Nat.beq id 2) (D3 Ke2 g h) (cond (Nat.beq id 1) (D1 Ke1 g h) (cond (Nat.beq id 0) (D2 Ke0 g h) (False)))
  | _, _, _ => False
abbrev n12 (x0 : List UInt8) (x1 : Int) (x5 : Int) (Kn : T3) (Ke2 : T3) (Ke1 : T1) (Ke0 : T2) (Kr : T0) (h : H) : Prop :=
  (0 ≤ x5 ∧ x5 < (x0.length : Int)) ∧ (HCalls Tryd.prog 19 ⟨[(S ([63, 33, 46, 44, 58, 42, 95, 126, 39, 34] : List UInt8)), (.int .u8 ((List.getD x0 (Int.toNat x5) 0).toNat : Int))]⟩ h fun v51 h52 => vInt .i64 v51 fun i53 => Spl (i53 ≥ (0 : Int)) (n13 x0 x1 x5 true Kn Ke2 Ke1 Ke0 Kr h52) ((0 ≤ x5 ∧ x5 < (x0.length : Int)) ∧ (Spl (((List.getD x0 (Int.toNat x5) 0).toNat : Int) = (41 : Int)) (HCalls Tryd.prog 52 ⟨[(S x0), (S ([41] : List UInt8))]⟩ h52 fun v54 h55 => vInt .i64 v54 fun i56 => HCalls Tryd.prog 52 ⟨[(S x0), (S ([40] : List UInt8))]⟩ h55 fun v57 h58 => vInt .i64 v57 fun i59 => Spl (i56 > i59) (n13 x0 x1 x5 true Kn Ke2 Ke1 Ke0 Kr h58) (n13 x0 x1 x5 false Kn Ke2 Ke1 Ke0 Kr h58)) (n13 x0 x1 x5 false Kn Ke2 Ke1 Ke0 Kr h52))))
theorem n12_ok (x0 : List UInt8) (x1 : Int) (x5 : Int) (Kn : T3) (Ke2 : T3) (Ke1 : T1) (Ke0 : T2) (Kr : T0) (g : Env) (hg : E3 g x0 x1 x5) (h : H) (hS : n12 x0 x1 x5 Kn Ke2 Ke1 Ke0 Kr h) : wpC none Tryd.prog 67 n11_c1 (Q6 Kn Ke2 Ke1 Ke0 Kr) g h := by
  obtain ⟨hg0, hg1, hg5, hds⟩ := hg
  refine wpC_seq' (x := n12_c1) (y := n12_c2) (Q' := (Q7 (fun z0 z1 z5 z14 h => n13 z0 z1 z5 z14 Kn Ke2 Ke1 Ke0 Kr h) Ke2 Ke1 Ke0 Kr)) (by kernel_rfl) ?_ ?_
  · refine wpC_of_wpx (by kernel_rfl) (by kernel_rfl) (g' := (((⟨g.v, []⟩ : Env).upd (some 0) (S x0)).upd (some 1) (.int .i64 x1)).upd (some 5) (.int .i64 x5)) (by rw [env_ds hds, upd_self hg0, upd_self hg1, upd_self hg5]) ?_
    have e : (n12 x0 x1 x5 Kn Ke2 Ke1 Ke0 Kr h) = wpx none Tryd.prog 67 n12_c1 (Q7 (fun z0 z1 z5 z14 h => n13 z0 z1 z5 z14 Kn Ke2 Ke1 Ke0 Kr h) Ke2 Ke1 Ke0 Kr) ((((⟨g.v, []⟩ : Env).upd (some 0) (S x0)).upd (some 1) (.int .i64 x1)).upd (some 5) (.int .i64 x5)) h := by kernel_rfl
    exact e ▸ hS
  · intro e g' h' hq
    cases e with
    | normal =>
      have hq : D4 (fun z0 z1 z5 z14 h => n13 z0 z1 z5 z14 Kn Ke2 Ke1 Ke0 Kr h) g' h' := hq
      obtain ⟨y0, y1, y5, y14, hg', hq⟩ := D4_ok hq
      exact n13_ok y0 y1 y5 y14 Kn Ke2 Ke1 Ke0 Kr g' hg' h' hq
    | _ => exact hq
abbrev n11 (x0 : List UInt8) (x1 : Int) (x5 : Int) (Kn : T3) (Ke1 : T1) (Ke0 : T2) (Kr : T0) (h : H) : Prop := n12 x0 x1 x5 Kn Kn Ke1 Ke0 Kr h
theorem n11_ok (x0 : List UInt8) (x1 : Int) (x5 : Int) (Kn : T3) (Ke1 : T1) (Ke0 : T2) (Kr : T0) (g : Env) (hg : E3 g x0 x1 x5) (h : H) (hS : n11 x0 x1 x5 Kn Ke1 Ke0 Kr h) : wpC none Tryd.prog 67 n9_c1 (Q5 Kn Ke1 Ke0 Kr) g h := by
  refine wpC_block' (id := 2) (x := n11_c1) (by kernel_rfl) (n12_ok x0 x1 x5 Kn Kn Ke1 Ke0 Kr g hg h hS) ?_
  intro e g' h' hq
  cases e <;> exact hq
abbrev n9 (x0 : List UInt8) (x1 : Int) (x5 : Int) (Kn : T1) (Ke1 : T1) (Ke0 : T2) (Kr : T0) (h : H) : Prop := n11 x0 x1 x5 (fun z0 z1 z5 h => n10 z0 z1 z5 Kn Ke1 Ke0 Kr h) Ke1 Ke0 Kr h
theorem n9_ok (x0 : List UInt8) (x1 : Int) (x5 : Int) (Kn : T1) (Ke1 : T1) (Ke0 : T2) (Kr : T0) (g : Env) (hg : E3 g x0 x1 x5) (h : H) (hS : n9 x0 x1 x5 Kn Ke1 Ke0 Kr h) : wpC none Tryd.prog 67 n8_c2 (Q4 Kn Ke1 Ke0 Kr) g h := by
  refine wpC_seq' (x := n9_c1) (y := n9_c2) (by kernel_rfl) (n11_ok x0 x1 x5 (fun z0 z1 z5 h => n10 z0 z1 z5 Kn Ke1 Ke0 Kr h) Ke1 Ke0 Kr g hg h hS) ?_
  intro e g' h' hq
  cases e with
  | normal =>
    have hq : D3 (fun z0 z1 z5 h => n10 z0 z1 z5 Kn Ke1 Ke0 Kr h) g' h' := hq
    obtain ⟨y0, y1, y5, hg', hq⟩ := D3_ok hq
    exact n10_ok y0 y1 y5 Kn Ke1 Ke0 Kr g' hg' h' hq
  | _ => exact hq
abbrev n8 (x0 : List UInt8) (x1 : Int) (Kn : T1) (Ke1 : T1) (Ke0 : T2) (Kr : T0) (h : H) : Prop :=
  Rng .i64 ((x0.length : Int) - (1 : Int)) ∧ (n9 x0 x1 ((x0.length : Int) - (1 : Int)) Kn Ke1 Ke0 Kr h)
theorem n8_ok (x0 : List UInt8) (x1 : Int) (Kn : T1) (Ke1 : T1) (Ke0 : T2) (Kr : T0) (g : Env) (hg : E1 g x0 x1) (h : H) (hS : n8 x0 x1 Kn Ke1 Ke0 Kr h) : wpC none Tryd.prog 67 n7_c1 (Q4 Kn Ke1 Ke0 Kr) g h := by
  obtain ⟨hg0, hg1, hds⟩ := hg
  refine wpC_seq' (x := n8_c1) (y := n8_c2) (Q' := (Q5 (fun z0 z1 z5 h => n9 z0 z1 z5 Kn Ke1 Ke0 Kr h) Ke1 Ke0 Kr)) (by kernel_rfl) ?_ ?_
  · refine wpC_of_wpx (by kernel_rfl) (by kernel_rfl) (g' := ((⟨g.v, []⟩ : Env).upd (some 0) (S x0)).upd (some 1) (.int .i64 x1)) (by rw [env_ds hds, upd_self hg0, upd_self hg1]) ?_
    have e : (n8 x0 x1 Kn Ke1 Ke0 Kr h) = wpx none Tryd.prog 67 n8_c1 (Q5 (fun z0 z1 z5 h => n9 z0 z1 z5 Kn Ke1 Ke0 Kr h) Ke1 Ke0 Kr) (((⟨g.v, []⟩ : Env).upd (some 0) (S x0)).upd (some 1) (.int .i64 x1)) h := by kernel_rfl
    exact e ▸ hS
  · intro e g' h' hq
    cases e with
    | normal =>
      have hq : D3 (fun z0 z1 z5 h => n9 z0 z1 z5 Kn Ke1 Ke0 Kr h) g' h' := hq
      obtain ⟨y0, y1, y5, hg', hq⟩ := D3_ok hq
      exact n9_ok y0 y1 y5 Kn Ke1 Ke0 Kr g' hg' h' hq
    | _ => exact hq
abbrev n7 (x0 : List UInt8) (x1 : Int) (Kn : T1) (Ke0 : T2) (Kr : T0) (h : H) : Prop := n8 x0 x1 Kn Kn Ke0 Kr h
theorem n7_ok (x0 : List UInt8) (x1 : Int) (Kn : T1) (Ke0 : T2) (Kr : T0) (g : Env) (hg : E1 g x0 x1) (h : H) (hS : n7 x0 x1 Kn Ke0 Kr h) : wpC none Tryd.prog 67 n6_c2 (Q3 Kn Ke0 Kr) g h := by
  refine wpC_block' (id := 1) (x := n7_c1) (by kernel_rfl) (n8_ok x0 x1 Kn Kn Ke0 Kr g hg h hS) ?_
  intro e g' h' hq
  cases e <;> exact hq
abbrev n6 (x0 : List UInt8) (x1 : Int) (Kn : T1) (Ke0 : T2) (Kr : T0) (h : H) : Prop :=
  Spl ((x0.length : Int) > x1) (n7 x0 x1 Kn Ke0 Kr h) (Ke0 x0 h)
theorem n6_ok (x0 : List UInt8) (x1 : Int) (Kn : T1) (Ke0 : T2) (Kr : T0) (g : Env) (hg : E1 g x0 x1) (h : H) (hS : n6 x0 x1 Kn Ke0 Kr h) : wpC none Tryd.prog 67 n5_c1 (Q3 Kn Ke0 Kr) g h := by
  obtain ⟨hg0, hg1, hds⟩ := hg
  refine wpC_seq' (x := n6_c1) (y := n6_c2) (Q' := (Q3 (fun z0 z1 h => n7 z0 z1 Kn Ke0 Kr h) Ke0 Kr)) (by kernel_rfl) ?_ ?_
  · refine wpC_of_wpx (by kernel_rfl) (by kernel_rfl) (g' := ((⟨g.v, []⟩ : Env).upd (some 0) (S x0)).upd (some 1) (.int .i64 x1)) (by rw [env_ds hds, upd_self hg0, upd_self hg1]) ?_
    have e : (n6 x0 x1 Kn Ke0 Kr h) = wpx none Tryd.prog 67 n6_c1 (Q3 (fun z0 z1 h => n7 z0 z1 Kn Ke0 Kr h) Ke0 Kr) (((⟨g.v, []⟩ : Env).upd (some 0) (S x0)).upd (some 1) (.int .i64 x1)) h := by kernel_rfl
    exact e ▸ hS
  · intro e g' h' hq
    cases e with
    | normal =>
      have hq : D1 (fun z0 z1 h => n7 z0 z1 Kn Ke0 Kr h) g' h' := hq
      obtain ⟨y0, y1, hg', hq⟩ := D1_ok hq
      exact n7_ok y0 y1 Kn Ke0 Kr g' hg' h' hq
    | _ => exact hq
def n5_L (Kn : T2) (Ke0 : T2) (Kr : T0) : Nat → (List UInt8) → Int → H → Prop
  | 0 => fun _ _ _ => False
  | N + 1 => fun x0 x1 h => n6 x0 x1 (fun z0 z1 h => n5_L Kn Ke0 Kr N z0 z1 h) Ke0 Kr h
abbrev n5 (x0 : List UInt8) (x1 : Int) (Kn : T2) (Ke0 : T2) (Kr : T0) (h : H) : Prop := ∃ N, n5_L Kn Ke0 Kr N x0 x1 h
theorem n5_ok (x0 : List UInt8) (x1 : Int) (Kn : T2) (Ke0 : T2) (Kr : T0) (g : Env) (hg : E1 g x0 x1) (h : H) (hS : n5 x0 x1 Kn Ke0 Kr h) : wpC none Tryd.prog 67 n4_c1 (Q2 Kn Ke0 Kr) g h := by
  obtain ⟨N0, hS⟩ := hS
  refine wpC_loop' (x := n5_c1) (by kernel_rfl) (fun k g h => ∃ (x0 : List UInt8) (x1 : Int), E1 g x0 x1 ∧ n5_L Kn Ke0 Kr k x0 x1 h) (fun g h hr => ?_) (fun N g h hr => ?_) N0 ⟨x0, x1, hg, hS⟩
  · obtain ⟨x0, x1, hg, hS⟩ := hr
    exact hS.elim
  · obtain ⟨x0, x1, hg, hS⟩ := hr
    refine (n6_ok x0 x1 (fun z0 z1 h => n5_L Kn Ke0 Kr N z0 z1 h) Ke0 Kr g hg h hS).mono ?_
    intro e g' h' hq
    cases e with
    | normal => exact D1_ok (K := (fun z0 z1 h => n5_L Kn Ke0 Kr N z0 z1 h)) hq
    | _ => exact hq
abbrev n4 (x0 : List UInt8) (x1 : Int) (Kn : T2) (Kr : T0) (h : H) : Prop := n5 x0 x1 Kn Kn Kr h
theorem n4_ok (x0 : List UInt8) (x1 : Int) (Kn : T2) (Kr : T0) (g : Env) (hg : E1 g x0 x1) (h : H) (hS : n4 x0 x1 Kn Kr h) : wpC none Tryd.prog 67 n2_c1 (Q1 Kn Kr) g h := by
  refine wpC_block' (id := 0) (x := n4_c1) (by kernel_rfl) (n5_ok x0 x1 Kn Kn Kr g hg h hS) ?_
  intro e g' h' hq
  cases e <;> exact hq
abbrev n2 (x0 : List UInt8) (x1 : Int) (Kn : T0) (Kr : T0) (h : H) : Prop := n4 x0 x1 (fun z0 h => n3 z0 Kn Kr h) Kr h
theorem n2_ok (x0 : List UInt8) (x1 : Int) (Kn : T0) (Kr : T0) (g : Env) (hg : E1 g x0 x1) (h : H) (hS : n2 x0 x1 Kn Kr h) : wpC none Tryd.prog 67 n1_c2 (Q0 Kn Kr) g h := by
  refine wpC_seq' (x := n2_c1) (y := n2_c2) (by kernel_rfl) (n4_ok x0 x1 (fun z0 h => n3 z0 Kn Kr h) Kr g hg h hS) ?_
  intro e g' h' hq
  cases e with
  | normal =>
    have hq : D2 (fun z0 h => n3 z0 Kn Kr h) g' h' := hq
    obtain ⟨y0, hg', hq⟩ := D2_ok hq
    exact n3_ok y0 Kn Kr g' hg' h' hq
  | _ => exact hq
def Q8 (Kn : T1) (Kr : T0) : XPost
  | .normal, g, h => D1 Kn g h
  | .ret, g, h => D0 Kr g h
  | _, _, _ => False
abbrev n1 (x0 : List UInt8) (x1 : Int) (Kn : T0) (Kr : T0) (h : H) : Prop :=
  n2 x0 x1 Kn Kr h
theorem n1_ok (x0 : List UInt8) (x1 : Int) (Kn : T0) (Kr : T0) (g : Env) (hg : E1 g x0 x1) (h : H) (hS : n1 x0 x1 Kn Kr h) : wpC none Tryd.prog 67 code (Q0 Kn Kr) g h := by
  obtain ⟨hg0, hg1, hds⟩ := hg
  refine wpC_seq' (x := n1_c1) (y := n1_c2) (Q' := (Q8 (fun z0 z1 h => n2 z0 z1 Kn Kr h) Kr)) (by kernel_rfl) ?_ ?_
  · refine wpC_of_wpx (by kernel_rfl) (by kernel_rfl) (g' := ((⟨g.v, []⟩ : Env).upd (some 0) (S x0)).upd (some 1) (.int .i64 x1)) (by rw [env_ds hds, upd_self hg0, upd_self hg1]) ?_
    have e : (n1 x0 x1 Kn Kr h) = wpx none Tryd.prog 67 n1_c1 (Q8 (fun z0 z1 h => n2 z0 z1 Kn Kr h) Kr) (((⟨g.v, []⟩ : Env).upd (some 0) (S x0)).upd (some 1) (.int .i64 x1)) h := by kernel_rfl
    exact e ▸ hS
  · intro e g' h' hq
    cases e with
    | normal =>
      have hq : D1 (fun z0 z1 h => n2 z0 z1 Kn Kr h) g' h' := hq
      obtain ⟨y0, y1, hg', hq⟩ := D1_ok hq
      exact n2_ok y0 y1 Kn Kr g' hg' h' hq
    | _ => exact hq
/-- WHAT tympan/auto.trimmed ASKS -/
abbrev asks (x0 : List UInt8) (x1 : Int) (K : Value → H → Prop) (h : H) : Prop := n1 x0 x1 (fun y4 h => K (S y4) h) (fun y4 h => K (S y4) h) h
theorem ok (x0 : List UInt8) (x1 : Int) (K : Value → H → Prop) (h : H) (hS : asks x0 x1 K h) : HCalls Tryd.prog 37 ⟨[(S x0), (.int .i64 x1)]⟩ h K := by
  refine calls_of_wpC (c := code) Tryd.func37 (by kernel_rfl) (Nat.le_of_ble_eq_true (by kernel_rfl)) ?_
  refine (n1_ok x0 x1 (fun y4 h => K (S y4) h) (fun y4 h => K (S y4) h) (env0 [(S x0), (.int .i64 x1)]) ⟨rfl, rfl, rfl⟩ h hS).mono ?_
  intro e g' h' hq
  cases e with
  | normal =>
    have hq : D0 (fun y4 h => K (S y4) h) g' h' := hq
    obtain ⟨y4, ⟨hg4, hd⟩, hq⟩ := D0_ok hq
    show leaveX g'.ds h' _
    rw [hd]
    show K (g'.v 4) h'
    rw [hg4]
    exact hq
  | ret =>
    have hq : D0 (fun y4 h => K (S y4) h) g' h' := hq
    obtain ⟨y4, ⟨hg4, hd⟩, hq⟩ := D0_ok hq
    show leaveX g'.ds h' _
    rw [hd]
    show K (g'.v 4) h'
    rw [hg4]
    exact hq
  | _ => exact hq
end Sx.auto_trimmed

/-! ### tympan/auto.run -/
namespace Sx.auto_run
noncomputable def code : Code := bodyOf Tryd.f38
abbrev T0 := Int → H → Prop
def E0 (g : Env) (x4 : Int) : Prop := g.v 4 = (.int .i64 x4) ∧ g.ds = []
def D0 (K : T0) (g : Env) (h : H) : Prop := nilDs g.ds (vInt .i64 (g.v 4) fun i1 => K i1 h)
theorem D0_ok {K : T0} {g : Env} {h : H} (hq : D0 K g h) : ∃ (x4 : Int), E0 g x4 ∧ K x4 h := by
  obtain ⟨hd, hq⟩ := nilDs_ok hq
  obtain ⟨y3, e2, q4⟩ := vInt_ok hq
  exact ⟨y3, ⟨e2, hd⟩, q4⟩
def Q0 (Kn : T0) (Kr : T0) : XPost
  | .normal, g, h => D0 Kn g h
  | .ret, g, h => D0 Kr g h
  | _, _, _ => False
abbrev T1 := (List UInt8) → Value → H → Prop
def E1 (g : Env) (x0 : List UInt8) (x1 : Value) : Prop := g.v 0 = (S x0) ∧ g.v 1 = x1 ∧ g.ds = []
def D1 (K : T1) (g : Env) (h : H) : Prop := nilDs g.ds (vStr (g.v 0) fun s5 => K s5 (g.v 1) h)
theorem D1_ok {K : T1} {g : Env} {h : H} (hq : D1 K g h) : ∃ (x0 : List UInt8) (x1 : Value), E1 g x0 x1 ∧ K x0 x1 h := by
  obtain ⟨hd, hq⟩ := nilDs_ok hq
  obtain ⟨y7, e6, q8⟩ := vStr_ok hq
  exact ⟨y7, (g.v 1), ⟨e6, rfl, hd⟩, q8⟩
noncomputable def n1_c1 : Code := cFst code
noncomputable def n1_c2 : Code := cSnd code
noncomputable def n2_c1 : Code := cFst n1_c2
noncomputable def n2_c2 : Code := cSnd n1_c2
abbrev T2 := (List UInt8) → H → Prop
def E2 (g : Env) (x0 : List UInt8) : Prop := g.v 0 = (S x0) ∧ g.ds = []
def D2 (K : T2) (g : Env) (h : H) : Prop := nilDs g.ds (vStr (g.v 0) fun s9 => K s9 h)
theorem D2_ok {K : T2} {g : Env} {h : H} (hq : D2 K g h) : ∃ (x0 : List UInt8), E2 g x0 ∧ K x0 h := by
  obtain ⟨hd, hq⟩ := nilDs_ok hq
  obtain ⟨y11, e10, q12⟩ := vStr_ok hq
  exact ⟨y11, ⟨e10, hd⟩, q12⟩
abbrev n3 (x0 : List UInt8) (Kn : T0) (Kr : T0) (h : H) : Prop :=
  Kr (x0.length : Int) h
theorem n3_ok (x0 : List UInt8) (Kn : T0) (Kr : T0) (g : Env) (hg : E2 g x0) (h : H) (hS : n3 x0 Kn Kr h) : wpC none Tryd.prog 21 n2_c2 (Q0 Kn Kr) g h := by
  obtain ⟨hg0, hds⟩ := hg
  refine wpC_of_wpx (by kernel_rfl) (by kernel_rfl) (g' := (⟨g.v, []⟩ : Env).upd (some 0) (S x0)) (by rw [env_ds hds, upd_self hg0]) ?_
  have e : (n3 x0 Kn Kr h) = wpx none Tryd.prog 21 n2_c2 (Q0 Kn Kr) ((⟨g.v, []⟩ : Env).upd (some 0) (S x0)) h := by kernel_rfl
  exact e ▸ hS
def Q1 (Kn : T2) (Kr : T0) : XPost
  | .normal, g, h => D2 Kn g h
  | .ret, g, h => D0 Kr g h
  | _, _, _ => False
noncomputable def n4_c1 : Code := cFst n2_c1
noncomputable def n4_c2 : Code := cSnd n2_c1
abbrev T3 := (List UInt8) → Value → Int → Int → H → Prop
def E3 (g : Env) (x0 : List UInt8) (x1 : Value) (x7 : Int) (x8 : Int) : Prop := g.v 0 = (S x0) ∧ g.v 1 = x1 ∧ g.v 7 = (.int .i64 x7) ∧ g.v 8 = (.int .i64 x8) ∧ g.ds = []
def D3 (K : T3) (g : Env) (h : H) : Prop := nilDs g.ds (vStr (g.v 0) fun s13 => vInt .i64 (g.v 7) fun i14 => vInt .i64 (g.v 8) fun i15 => K s13 (g.v 1) i14 i15 h)
theorem D3_ok {K : T3} {g : Env} {h : H} (hq : D3 K g h) : ∃ (x0 : List UInt8) (x1 : Value) (x7 : Int) (x8 : Int), E3 g x0 x1 x7 x8 ∧ K x0 x1 x7 x8 h := by
  obtain ⟨hd, hq⟩ := nilDs_ok hq
  obtain ⟨y17, e16, q18⟩ := vStr_ok hq
  obtain ⟨y20, e19, q21⟩ := vInt_ok q18
  obtain ⟨y23, e22, q24⟩ := vInt_ok q21
  exact ⟨y17, (g.v 1), y20, y23, ⟨e16, rfl, e19, e22, hd⟩, q24⟩
noncomputable def n5_c1 : Code := cFst n4_c2
def Q2 (Kn : T2) (Ke0 : T2) (Kr : T0) : XPost
  | .normal, g, h => D2 Kn g h
  | .ret, g, h => D0 Kr g h
  | .exit id, g, h => cond (Nat.beq id 0) (D2 Ke0 g h) (False)
  | _, _, _ => False
noncomputable def n6_c1 : Code := cFst n5_c1
def Q3 (Kn : T3) (Ke0 : T2) (Kr : T0) : XPost
  | .normal, g, h => D3 Kn g h
  | .ret, g, h => D0 Kr g h
  | .exit id, g, h => cond (Nat.beq id 0) (D2 Ke0 g h) (False)
  | _, _, _ => False
noncomputable def n7_c1 : Code := cFst n6_c1
noncomputable def n7_c2 : Code := cSnd n6_c1
abbrev T4 := (List UInt8) → Value → Int → Int → Bool → H → Prop
def E4 (g : Env) (x0 : List UInt8) (x1 : Value) (x7 : Int) (x8 : Int) (x9 : Bool) : Prop := g.v 0 = (S x0) ∧ g.v 1 = x1 ∧ g.v 7 = (.int .i64 x7) ∧ g.v 8 = (.int .i64 x8) ∧ g.v 9 = (.bool x9) ∧ g.ds = []
def D4 (K : T4) (g : Env) (h : H) : Prop := nilDs g.ds (vStr (g.v 0) fun s25 => vInt .i64 (g.v 7) fun i26 => vInt .i64 (g.v 8) fun i27 => vBool (g.v 9) fun b28 => K s25 (g.v 1) i26 i27 b28 h)
theorem D4_ok {K : T4} {g : Env} {h : H} (hq : D4 K g h) : ∃ (x0 : List UInt8) (x1 : Value) (x7 : Int) (x8 : Int) (x9 : Bool), E4 g x0 x1 x7 x8 x9 ∧ K x0 x1 x7 x8 x9 h := by
  obtain ⟨hd, hq⟩ := nilDs_ok hq
  obtain ⟨y30, e29, q31⟩ := vStr_ok hq
  obtain ⟨y33, e32, q34⟩ := vInt_ok q31
  obtain ⟨y36, e35, q37⟩ := vInt_ok q34
  obtain ⟨y39, e38, q40⟩ := vBool_ok q37
  exact ⟨y30, (g.v 1), y33, y36, y39, ⟨e29, rfl, e32, e35, e38, hd⟩, q40⟩
abbrev n8 (x0 : List UInt8) (x1 : Value) (x7 : Int) (x8 : Int) (x9 : Bool) (Kn : T3) (Ke0 : T2) (Kr : T0) (h : H) : Prop :=
  cond x9 ((0 ≤ x8 ∧ x8 < (x0.length : Int)) ∧ (CallV Tryd.prog 4 x1 ⟨[(.int .u8 ((List.getD x0 (Int.toNat x8) 0).toNat : Int))]⟩ h fun v41 h42 => vBool v41 fun b43 => cond b43 (Rng .i64 (x8 + (1 : Int)) ∧ (Kn x0 x1 x7 (x8 + (1 : Int)) h42)) (Kr x8 h42))) (Ke0 x0 h)
theorem n8_ok (x0 : List UInt8) (x1 : Value) (x7 : Int) (x8 : Int) (x9 : Bool) (Kn : T3) (Ke0 : T2) (Kr : T0) (g : Env) (hg : E4 g x0 x1 x7 x8 x9) (h : H) (hS : n8 x0 x1 x7 x8 x9 Kn Ke0 Kr h) : wpC none Tryd.prog 21 n7_c2 (Q3 Kn Ke0 Kr) g h := by
  obtain ⟨hg0, hg1, hg7, hg8, hg9, hds⟩ := hg
  refine wpC_of_wpx (by kernel_rfl) (by kernel_rfl) (g' := (((((⟨g.v, []⟩ : Env).upd (some 0) (S x0)).upd (some 1) x1).upd (some 7) (.int .i64 x7)).upd (some 8) (.int .i64 x8)).upd (some 9) (.bool x9)) (by rw [env_ds hds, upd_self hg0, upd_self hg1, upd_self hg7, upd_self hg8, upd_self hg9]) ?_
  have e : (n8 x0 x1 x7 x8 x9 Kn Ke0 Kr h) = wpx none Tryd.prog 21 n7_c2 (Q3 Kn Ke0 Kr) ((((((⟨g.v, []⟩ : Env).upd (some 0) (S x0)).upd (some 1) x1).upd (some 7) (.int .i64 x7)).upd (some 8) (.int .i64 x8)).upd (some 9) (.bool x9)) h := by kernel_rfl
  exact e ▸ hS
def Q4 (Kn : T4) (Ke0 : T2) (Kr : T0) : XPost
  | .normal, g, h => D4 Kn g h
  | .ret, g, h => D0 Kr g h
  | .exit id, g, h => cond (Nat.beq id 0) (D2 Ke0 g h) (False)
  | _, _, _ => False
abbrev n7 (x0 : List UInt8) (x1 : Value) (x7 : Int) (x8 : Int) (Kn : T3) (Ke0 : T2) (Kr : T0) (h : H) : Prop :=
  Spl (x8 < x7) (n8 x0 x1 x7 x8 true Kn Ke0 Kr h) (n8 x0 x1 x7 x8 false Kn Ke0 Kr h)
theorem n7_ok (x0 : List UInt8) (x1 : Value) (x7 : Int) (x8 : Int) (Kn : T3) (Ke0 : T2) (Kr : T0) (g : Env) (hg : E3 g x0 x1 x7 x8) (h : H) (hS : n7 x0 x1 x7 x8 Kn Ke0 Kr h) : wpC none Tryd.prog 21 n6_c1 (Q3 Kn Ke0 Kr) g h := by
  obtain ⟨hg0, hg1, hg7, hg8, hds⟩ := hg
  refine wpC_seq' (x := n7_c1) (y := n7_c2) (Q' := (Q4 (fun z0 z1 z7 z8 z9 h => n8 z0 z1 z7 z8 z9 Kn Ke0 Kr h) Ke0 Kr)) (by kernel_rfl) ?_ ?_
  · refine wpC_of_wpx (by kernel_rfl) (by kernel_rfl) (g' := ((((⟨g.v, []⟩ : Env).upd (some 0) (S x0)).upd (some 1) x1).upd (some 7) (.int .i64 x7)).upd (some 8) (.int .i64 x8)) (by rw [env_ds hds, upd_self hg0, upd_self hg1, upd_self hg7, upd_self hg8]) ?_
    have e : (n7 x0 x1 x7 x8 Kn Ke0 Kr h) = wpx none Tryd.prog 21 n7_c1 (Q4 (fun z0 z1 z7 z8 z9 h => n8 z0 z1 z7 z8 z9 Kn Ke0 Kr h) Ke0 Kr) (((((⟨g.v, []⟩ : Env).upd (some 0) (S x0)).upd (some 1) x1).upd (some 7) (.int .i64 x7)).upd (some 8) (.int .i64 x8)) h := by kernel_rfl
    exact e ▸ hS
  · intro e g' h' hq
    cases e with
    | normal =>
      have hq : D4 (fun z0 z1 z7 z8 z9 h => n8 z0 z1 z7 z8 z9 Kn Ke0 Kr h) g' h' := hq
      obtain ⟨y0, y1, y7, y8, y9, hg', hq⟩ := D4_ok hq
      exact n8_ok y0 y1 y7 y8 y9 Kn Ke0 Kr g' hg' h' hq
    | _ => exact hq
def n6_L (Kn : T2) (Ke0 : T2) (Kr : T0) : Nat → (List UInt8) → Value → Int → Int → H → Prop
  | 0 => fun _ _ _ _ _ => False
  | N + 1 => fun x0 x1 x7 x8 h => n7 x0 x1 x7 x8 (fun z0 z1 z7 z8 h => n6_L Kn Ke0 Kr N z0 z1 z7 z8 h) Ke0 Kr h
abbrev n6 (x0 : List UInt8) (x1 : Value) (x7 : Int) (x8 : Int) (Kn : T2) (Ke0 : T2) (Kr : T0) (h : H) : Prop := ∃ N, n6_L Kn Ke0 Kr N x0 x1 x7 x8 h
theorem n6_ok (x0 : List UInt8) (x1 : Value) (x7 : Int) (x8 : Int) (Kn : T2) (Ke0 : T2) (Kr : T0) (g : Env) (hg : E3 g x0 x1 x7 x8) (h : H) (hS : n6 x0 x1 x7 x8 Kn Ke0 Kr h) : wpC none Tryd.prog 21 n5_c1 (Q2 Kn Ke0 Kr) g h := by
  obtain ⟨N0, hS⟩ := hS
  refine wpC_loop' (x := n6_c1) (by kernel_rfl) (fun k g h => ∃ (x0 : List UInt8) (x1 : Value) (x7 : Int) (x8 : Int), E3 g x0 x1 x7 x8 ∧ n6_L Kn Ke0 Kr k x0 x1 x7 x8 h) (fun g h hr => ?_) (fun N g h hr => ?_) N0 ⟨x0, x1, x7, x8, hg, hS⟩
  · obtain ⟨x0, x1, x7, x8, hg, hS⟩ := hr
    exact hS.elim
  · obtain ⟨x0, x1, x7, x8, hg, hS⟩ := hr
    refine (n7_ok x0 x1 x7 x8 (fun z0 z1 z7 z8 h => n6_L Kn Ke0 Kr N z0 z1 z7 z8 h) Ke0 Kr g hg h hS).mono ?_
    intro e g' h' hq
    cases e with
    | normal => exact D3_ok (K := (fun z0 z1 z7 z8 h => n6_L Kn Ke0 Kr N z0 z1 z7 z8 h)) hq
    | _ => exact hq
abbrev n5 (x0 : List UInt8) (x1 : Value) (x7 : Int) (x8 : Int) (Kn : T2) (Kr : T0) (h : H) : Prop := n6 x0 x1 x7 x8 Kn Kn Kr h
theorem n5_ok (x0 : List UInt8) (x1 : Value) (x7 : Int) (x8 : Int) (Kn : T2) (Kr : T0) (g : Env) (hg : E3 g x0 x1 x7 x8) (h : H) (hS : n5 x0 x1 x7 x8 Kn Kr h) : wpC none Tryd.prog 21 n4_c2 (Q1 Kn Kr) g h := by
  refine wpC_block' (id := 0) (x := n5_c1) (by kernel_rfl) (n6_ok x0 x1 x7 x8 Kn Kn Kr g hg h hS) ?_
  intro e g' h' hq
  cases e <;> exact hq
def Q5 (Kn : T3) (Kr : T0) : XPost
  | .normal, g, h => D3 Kn g h
  | .ret, g, h => D0 Kr g h
  | _, _, _ => False
abbrev n4 (x0 : List UInt8) (x1 : Value) (Kn : T2) (Kr : T0) (h : H) : Prop :=
  n5 x0 x1 (x0.length : Int) (0 : Int) Kn Kr h
theorem n4_ok (x0 : List UInt8) (x1 : Value) (Kn : T2) (Kr : T0) (g : Env) (hg : E1 g x0 x1) (h : H) (hS : n4 x0 x1 Kn Kr h) : wpC none Tryd.prog 21 n2_c1 (Q1 Kn Kr) g h := by
  obtain ⟨hg0, hg1, hds⟩ := hg
  refine wpC_seq' (x := n4_c1) (y := n4_c2) (Q' := (Q5 (fun z0 z1 z7 z8 h => n5 z0 z1 z7 z8 Kn Kr h) Kr)) (by kernel_rfl) ?_ ?_
  · refine wpC_of_wpx (by kernel_rfl) (by kernel_rfl) (g' := ((⟨g.v, []⟩ : Env).upd (some 0) (S x0)).upd (some 1) x1) (by rw [env_ds hds, upd_self hg0, upd_self hg1]) ?_
    have e : (n4 x0 x1 Kn Kr h) = wpx none Tryd.prog 21 n4_c1 (Q5 (fun z0 z1 z7 z8 h => n5 z0 z1 z7 z8 Kn Kr h) Kr) (((⟨g.v, []⟩ : Env).upd (some 0) (S x0)).upd (some 1) x1) h := by kernel_rfl
    exact e ▸ hS
  · intro e g' h' hq
    cases e with
    | normal =>
      have hq : D3 (fun z0 z1 z7 z8 h => n5 z0 z1 z7 z8 Kn Kr h) g' h' := hq
      obtain ⟨y0, y1, y7, y8, hg', hq⟩ := D3_ok hq
      exact n5_ok y0 y1 y7 y8 Kn Kr g' hg' h' hq
    | _ => exact hq
abbrev n2 (x0 : List UInt8) (x1 : Value) (Kn : T0) (Kr : T0) (h : H) : Prop := n4 x0 x1 (fun z0 h => n3 z0 Kn Kr h) Kr h
theorem n2_ok (x0 : List UInt8) (x1 : Value) (Kn : T0) (Kr : T0) (g : Env) (hg : E1 g x0 x1) (h : H) (hS : n2 x0 x1 Kn Kr h) : wpC none Tryd.prog 21 n1_c2 (Q0 Kn Kr) g h := by
  refine wpC_seq' (x := n2_c1) (y := n2_c2) (by kernel_rfl) (n4_ok x0 x1 (fun z0 h => n3 z0 Kn Kr h) Kr g hg h hS) ?_
  intro e g' h' hq
  cases e with
  | normal =>
    have hq : D2 (fun z0 h => n3 z0 Kn Kr h) g' h' := hq
    obtain ⟨y0, hg', hq⟩ := D2_ok hq
    exact n3_ok y0 Kn Kr g' hg' h' hq
  | _ => exact hq
def Q6 (Kn : T1) (Kr : T0) : XPost
  | .normal, g, h => D1 Kn g h
  | .ret, g, h => D0 Kr g h
  | _, _, _ => False
abbrev n1 (x0 : List UInt8) (x1 : Value) (Kn : T0) (Kr : T0) (h : H) : Prop :=
  n2 x0 x1 Kn Kr h
theorem n1_ok (x0 : List UInt8) (x1 : Value) (Kn : T0) (Kr : T0) (g : Env) (hg : E1 g x0 x1) (h : H) (hS : n1 x0 x1 Kn Kr h) : wpC none Tryd.prog 21 code (Q0 Kn Kr) g h := by
  obtain ⟨hg0, hg1, hds⟩ := hg
  refine wpC_seq' (x := n1_c1) (y := n1_c2) (Q' := (Q6 (fun z0 z1 h => n2 z0 z1 Kn Kr h) Kr)) (by kernel_rfl) ?_ ?_
  · refine wpC_of_wpx (by kernel_rfl) (by kernel_rfl) (g' := ((⟨g.v, []⟩ : Env).upd (some 0) (S x0)).upd (some 1) x1) (by rw [env_ds hds, upd_self hg0, upd_self hg1]) ?_
    have e : (n1 x0 x1 Kn Kr h) = wpx none Tryd.prog 21 n1_c1 (Q6 (fun z0 z1 h => n2 z0 z1 Kn Kr h) Kr) (((⟨g.v, []⟩ : Env).upd (some 0) (S x0)).upd (some 1) x1) h := by kernel_rfl
    exact e ▸ hS
  · intro e g' h' hq
    cases e with
    | normal =>
      have hq : D1 (fun z0 z1 h => n2 z0 z1 Kn Kr h) g' h' := hq
      obtain ⟨y0, y1, hg', hq⟩ := D1_ok hq
      exact n2_ok y0 y1 Kn Kr g' hg' h' hq
    | _ => exact hq
/-- WHAT tympan/auto.run ASKS -/
abbrev asks (x0 : List UInt8) (x1 : Value) (K : Value → H → Prop) (h : H) : Prop := n1 x0 x1 (fun y4 h => K (.int .i64 y4) h) (fun y4 h => K (.int .i64 y4) h) h
theorem ok (x0 : List UInt8) (x1 : Value) (K : Value → H → Prop) (h : H) (hS : asks x0 x1 K h) : HCalls Tryd.prog 38 ⟨[(S x0), x1]⟩ h K := by
  refine calls_of_wpC (c := code) Tryd.func38 (by kernel_rfl) (Nat.le_of_ble_eq_true (by kernel_rfl)) ?_
  refine (n1_ok x0 x1 (fun y4 h => K (.int .i64 y4) h) (fun y4 h => K (.int .i64 y4) h) (env0 [(S x0), x1]) ⟨rfl, rfl, rfl⟩ h hS).mono ?_
  intro e g' h' hq
  cases e with
  | normal =>
    have hq : D0 (fun y4 h => K (.int .i64 y4) h) g' h' := hq
    obtain ⟨y4, ⟨hg4, hd⟩, hq⟩ := D0_ok hq
    show leaveX g'.ds h' _
    rw [hd]
    show K (g'.v 4) h'
    rw [hg4]
    exact hq
  | ret =>
    have hq : D0 (fun y4 h => K (.int .i64 y4) h) g' h' := hq
    obtain ⟨y4, ⟨hg4, hd⟩, hq⟩ := D0_ok hq
    show leaveX g'.ds h' _
    rw [hd]
    show K (g'.v 4) h'
    rw [hg4]
    exact hq
  | _ => exact hq
end Sx.auto_run

/-! ### tympan/auto.user -/
namespace Sx.auto_user
noncomputable def code : Code := bodyOf Tryd.f39
abbrev T0 := Bool → H → Prop
def E0 (g : Env) (x2 : Bool) : Prop := g.v 2 = (.bool x2) ∧ g.ds = []
def D0 (K : T0) (g : Env) (h : H) : Prop := nilDs g.ds (vBool (g.v 2) fun b1 => K b1 h)
theorem D0_ok {K : T0} {g : Env} {h : H} (hq : D0 K g h) : ∃ (x2 : Bool), E0 g x2 ∧ K x2 h := by
  obtain ⟨hd, hq⟩ := nilDs_ok hq
  obtain ⟨y3, e2, q4⟩ := vBool_ok hq
  exact ⟨y3, ⟨e2, hd⟩, q4⟩
def Q0 (Kn : T0) (Kr : T0) : XPost
  | .normal, g, h => D0 Kn g h
  | .ret, g, h => D0 Kr g h
  | _, _, _ => False
abbrev T1 := Int → H → Prop
def E1 (g : Env) (x0 : Int) : Prop := g.v 0 = (.int .u8 x0) ∧ g.ds = []
def D1 (K : T1) (g : Env) (h : H) : Prop := nilDs g.ds (vInt .u8 (g.v 0) fun i5 => K i5 h)
theorem D1_ok {K : T1} {g : Env} {h : H} (hq : D1 K g h) : ∃ (x0 : Int), E1 g x0 ∧ K x0 h := by
  obtain ⟨hd, hq⟩ := nilDs_ok hq
  obtain ⟨y7, e6, q8⟩ := vInt_ok hq
  exact ⟨y7, ⟨e6, hd⟩, q8⟩
abbrev n1 (x0 : Int) (Kn : T0) (Kr : T0) (h : H) : Prop :=
  HCalls Tryd.prog 55 ⟨[(.int .u8 x0)]⟩ h fun v9 h10 => vBool v9 fun b11 => cond b11 (Kr true h10) (HCalls Tryd.prog 19 ⟨[(S ([46, 43, 95, 45] : List UInt8)), (.int .u8 x0)]⟩ h10 fun v12 h13 => vInt .i64 v12 fun i14 => Spl (i14 ≥ (0 : Int)) (Kr true h13) (Kr false h13))
theorem n1_ok (x0 : Int) (Kn : T0) (Kr : T0) (g : Env) (hg : E1 g x0) (h : H) (hS : n1 x0 Kn Kr h) : wpC none Tryd.prog 10 code (Q0 Kn Kr) g h := by
  obtain ⟨hg0, hds⟩ := hg
  refine wpC_of_wpx (by kernel_rfl) (by kernel_rfl) (g' := (⟨g.v, []⟩ : Env).upd (some 0) (.int .u8 x0)) (by rw [env_ds hds, upd_self hg0]) ?_
  have e : (n1 x0 Kn Kr h) = wpx none Tryd.prog 10 code (Q0 Kn Kr) ((⟨g.v, []⟩ : Env).upd (some 0) (.int .u8 x0)) h := by kernel_rfl
  exact e ▸ hS
/-- WHAT tympan/auto.user ASKS -/
abbrev asks (x0 : Int) (K : Value → H → Prop) (h : H) : Prop := n1 x0 (fun y2 h => K (.bool y2) h) (fun y2 h => K (.bool y2) h) h
theorem ok (x0 : Int) (K : Value → H → Prop) (h : H) (hS : asks x0 K h) : HCalls Tryd.prog 39 ⟨[(.int .u8 x0)]⟩ h K := by
  refine calls_of_wpC (c := code) Tryd.func39 (by kernel_rfl) (Nat.le_of_ble_eq_true (by kernel_rfl)) ?_
  refine (n1_ok x0 (fun y2 h => K (.bool y2) h) (fun y2 h => K (.bool y2) h) (env0 [(.int .u8 x0)]) ⟨rfl, rfl⟩ h hS).mono ?_
  intro e g' h' hq
  cases e with
  | normal =>
    have hq : D0 (fun y2 h => K (.bool y2) h) g' h' := hq
    obtain ⟨y2, ⟨hg2, hd⟩, hq⟩ := D0_ok hq
    show leaveX g'.ds h' _
    rw [hd]
    show K (g'.v 2) h'
    rw [hg2]
    exact hq
  | ret =>
    have hq : D0 (fun y2 h => K (.bool y2) h) g' h' := hq
    obtain ⟨y2, ⟨hg2, hd⟩, hq⟩ := D0_ok hq
    show leaveX g'.ds h' _
    rw [hd]
    show K (g'.v 2) h'
    rw [hg2]
    exact hq
  | _ => exact hq
end Sx.auto_user

/-! ### tympan/auto.host -/
namespace Sx.auto_host
noncomputable def code : Code := bodyOf Tryd.f49
abbrev T0 := Bool → H → Prop
def E0 (g : Env) (x2 : Bool) : Prop := g.v 2 = (.bool x2) ∧ g.ds = []
def D0 (K : T0) (g : Env) (h : H) : Prop := nilDs g.ds (vBool (g.v 2) fun b1 => K b1 h)
theorem D0_ok {K : T0} {g : Env} {h : H} (hq : D0 K g h) : ∃ (x2 : Bool), E0 g x2 ∧ K x2 h := by
  obtain ⟨hd, hq⟩ := nilDs_ok hq
  obtain ⟨y3, e2, q4⟩ := vBool_ok hq
  exact ⟨y3, ⟨e2, hd⟩, q4⟩
def Q0 (Kn : T0) (Kr : T0) : XPost
  | .normal, g, h => D0 Kn g h
  | .ret, g, h => D0 Kr g h
  | _, _, _ => False
abbrev T1 := Int → H → Prop
def E1 (g : Env) (x0 : Int) : Prop := g.v 0 = (.int .u8 x0) ∧ g.ds = []
def D1 (K : T1) (g : Env) (h : H) : Prop := nilDs g.ds (vInt .u8 (g.v 0) fun i5 => K i5 h)
theorem D1_ok {K : T1} {g : Env} {h : H} (hq : D1 K g h) : ∃ (x0 : Int), E1 g x0 ∧ K x0 h := by
  obtain ⟨hd, hq⟩ := nilDs_ok hq
  obtain ⟨y7, e6, q8⟩ := vInt_ok hq
  exact ⟨y7, ⟨e6, hd⟩, q8⟩
abbrev n1 (x0 : Int) (Kn : T0) (Kr : T0) (h : H) : Prop :=
  HCalls Tryd.prog 55 ⟨[(.int .u8 x0)]⟩ h fun v9 h10 => vBool v9 fun b11 => cond b11 (Kr true h10) (Spl (x0 = (45 : Int)) (Kr true h10) (Spl (x0 = (95 : Int)) (Kr true h10) (Kr false h10)))
theorem n1_ok (x0 : Int) (Kn : T0) (Kr : T0) (g : Env) (hg : E1 g x0) (h : H) (hS : n1 x0 Kn Kr h) : wpC none Tryd.prog 13 code (Q0 Kn Kr) g h := by
  obtain ⟨hg0, hds⟩ := hg
  refine wpC_of_wpx (by kernel_rfl) (by kernel_rfl) (g' := (⟨g.v, []⟩ : Env).upd (some 0) (.int .u8 x0)) (by rw [env_ds hds, upd_self hg0]) ?_
  have e : (n1 x0 Kn Kr h) = wpx none Tryd.prog 13 code (Q0 Kn Kr) ((⟨g.v, []⟩ : Env).upd (some 0) (.int .u8 x0)) h := by kernel_rfl
  exact e ▸ hS
/-- WHAT tympan/auto.host ASKS -/
abbrev asks (x0 : Int) (K : Value → H → Prop) (h : H) : Prop := n1 x0 (fun y2 h => K (.bool y2) h) (fun y2 h => K (.bool y2) h) h
theorem ok (x0 : Int) (K : Value → H → Prop) (h : H) (hS : asks x0 K h) : HCalls Tryd.prog 49 ⟨[(.int .u8 x0)]⟩ h K := by
  refine calls_of_wpC (c := code) Tryd.func49 (by kernel_rfl) (Nat.le_of_ble_eq_true (by kernel_rfl)) ?_
  refine (n1_ok x0 (fun y2 h => K (.bool y2) h) (fun y2 h => K (.bool y2) h) (env0 [(.int .u8 x0)]) ⟨rfl, rfl⟩ h hS).mono ?_
  intro e g' h' hq
  cases e with
  | normal =>
    have hq : D0 (fun y2 h => K (.bool y2) h) g' h' := hq
    obtain ⟨y2, ⟨hg2, hd⟩, hq⟩ := D0_ok hq
    show leaveX g'.ds h' _
    rw [hd]
    show K (g'.v 2) h'
    rw [hg2]
    exact hq
  | ret =>
    have hq : D0 (fun y2 h => K (.bool y2) h) g' h' := hq
    obtain ⟨y2, ⟨hg2, hd⟩, hq⟩ := D0_ok hq
    show leaveX g'.ds h' _
    rw [hd]
    show K (g'.v 2) h'
    rw [hg2]
    exact hq
  | _ => exact hq
end Sx.auto_host

/-! ### tympan/auto.trimmed$1 -/
namespace Sx.auto_trimmed_1
noncomputable def code : Code := bodyOf Tryd.f54
abbrev T0 := Bool → H → Prop
def E0 (g : Env) (x2 : Bool) : Prop := g.v 2 = (.bool x2) ∧ g.ds = []
def D0 (K : T0) (g : Env) (h : H) : Prop := nilDs g.ds (vBool (g.v 2) fun b1 => K b1 h)
theorem D0_ok {K : T0} {g : Env} {h : H} (hq : D0 K g h) : ∃ (x2 : Bool), E0 g x2 ∧ K x2 h := by
  obtain ⟨hd, hq⟩ := nilDs_ok hq
  obtain ⟨y3, e2, q4⟩ := vBool_ok hq
  exact ⟨y3, ⟨e2, hd⟩, q4⟩
def Q0 (Kn : T0) (Kr : T0) : XPost
  | .normal, g, h => D0 Kn g h
  | .ret, g, h => D0 Kr g h
  | _, _, _ => False
abbrev T1 := Int → H → Prop
def E1 (g : Env) (x0 : Int) : Prop := g.v 0 = (.int .i32 x0) ∧ g.ds = []
def D1 (K : T1) (g : Env) (h : H) : Prop := nilDs g.ds (vInt .i32 (g.v 0) fun i5 => K i5 h)
theorem D1_ok {K : T1} {g : Env} {h : H} (hq : D1 K g h) : ∃ (x0 : Int), E1 g x0 ∧ K x0 h := by
  obtain ⟨hd, hq⟩ := nilDs_ok hq
  obtain ⟨y7, e6, q8⟩ := vInt_ok hq
  exact ⟨y7, ⟨e6, hd⟩, q8⟩
abbrev n1 (x0 : Int) (Kn : T0) (Kr : T0) (h : H) : Prop :=
  Spl (x0 < (128 : Int)) (HCalls Tryd.prog 55 ⟨[(.int .u8 (IntKind.wrap .u8 x0))]⟩ h fun v9 h10 => vBool v9 fun b11 => cond b11 (Kr true h10) (Kr false h10)) (Kr false h)
theorem n1_ok (x0 : Int) (Kn : T0) (Kr : T0) (g : Env) (hg : E1 g x0) (h : H) (hS : n1 x0 Kn Kr h) : wpC none Tryd.prog 10 code (Q0 Kn Kr) g h := by
  obtain ⟨hg0, hds⟩ := hg
  refine wpC_of_wpx (by kernel_rfl) (by kernel_rfl) (g' := (⟨g.v, []⟩ : Env).upd (some 0) (.int .i32 x0)) (by rw [env_ds hds, upd_self hg0]) ?_
  have e : (n1 x0 Kn Kr h) = wpx none Tryd.prog 10 code (Q0 Kn Kr) ((⟨g.v, []⟩ : Env).upd (some 0) (.int .i32 x0)) h := by kernel_rfl
  exact e ▸ hS
/-- WHAT tympan/auto.trimmed$1 ASKS -/
abbrev asks (x0 : Int) (K : Value → H → Prop) (h : H) : Prop := n1 x0 (fun y2 h => K (.bool y2) h) (fun y2 h => K (.bool y2) h) h
theorem ok (x0 : Int) (K : Value → H → Prop) (h : H) (hS : asks x0 K h) : HCalls Tryd.prog 54 ⟨[(.int .i32 x0)]⟩ h K := by
  refine calls_of_wpC (c := code) Tryd.func54 (by kernel_rfl) (Nat.le_of_ble_eq_true (by kernel_rfl)) ?_
  refine (n1_ok x0 (fun y2 h => K (.bool y2) h) (fun y2 h => K (.bool y2) h) (env0 [(.int .i32 x0)]) ⟨rfl, rfl⟩ h hS).mono ?_
  intro e g' h' hq
  cases e with
  | normal =>
    have hq : D0 (fun y2 h => K (.bool y2) h) g' h' := hq
    obtain ⟨y2, ⟨hg2, hd⟩, hq⟩ := D0_ok hq
    show leaveX g'.ds h' _
    rw [hd]
    show K (g'.v 2) h'
    rw [hg2]
    exact hq
  | ret =>
    have hq : D0 (fun y2 h => K (.bool y2) h) g' h' := hq
    obtain ⟨y2, ⟨hg2, hd⟩, hq⟩ := D0_ok hq
    show leaveX g'.ds h' _
    rw [hd]
    show K (g'.v 2) h'
    rw [hg2]
    exact hq
  | _ => exact hq
end Sx.auto_trimmed_1

/-! ### tympan/auto.word -/
namespace Sx.auto_word
noncomputable def code : Code := bodyOf Tryd.f55
abbrev T0 := Bool → H → Prop
def E0 (g : Env) (x2 : Bool) : Prop := g.v 2 = (.bool x2) ∧ g.ds = []
def D0 (K : T0) (g : Env) (h : H) : Prop := nilDs g.ds (vBool (g.v 2) fun b1 => K b1 h)
theorem D0_ok {K : T0} {g : Env} {h : H} (hq : D0 K g h) : ∃ (x2 : Bool), E0 g x2 ∧ K x2 h := by
  obtain ⟨hd, hq⟩ := nilDs_ok hq
  obtain ⟨y3, e2, q4⟩ := vBool_ok hq
  exact ⟨y3, ⟨e2, hd⟩, q4⟩
def Q0 (Kn : T0) (Kr : T0) : XPost
  | .normal, g, h => D0 Kn g h
  | .ret, g, h => D0 Kr g h
  | _, _, _ => False
abbrev T1 := Int → H → Prop
def E1 (g : Env) (x0 : Int) : Prop := g.v 0 = (.int .u8 x0) ∧ g.ds = []
def D1 (K : T1) (g : Env) (h : H) : Prop := nilDs g.ds (vInt .u8 (g.v 0) fun i5 => K i5 h)
theorem D1_ok {K : T1} {g : Env} {h : H} (hq : D1 K g h) : ∃ (x0 : Int), E1 g x0 ∧ K x0 h := by
  obtain ⟨hd, hq⟩ := nilDs_ok hq
  obtain ⟨y7, e6, q8⟩ := vInt_ok hq
  exact ⟨y7, ⟨e6, hd⟩, q8⟩
abbrev n1 (x0 : Int) (Kn : T0) (Kr : T0) (h : H) : Prop :=
  HCalls Tryd.prog 64 ⟨[(.int .u8 x0)]⟩ h fun v9 h10 => vBool v9 fun b11 => cond b11 (Kr true h10) (HCalls Tryd.prog 65 ⟨[(.int .u8 x0)]⟩ h10 fun v12 h13 => vBool v12 fun b14 => cond b14 (Kr true h13) (Kr false h13))
theorem n1_ok (x0 : Int) (Kn : T0) (Kr : T0) (g : Env) (hg : E1 g x0) (h : H) (hS : n1 x0 Kn Kr h) : wpC none Tryd.prog 9 code (Q0 Kn Kr) g h := by
  obtain ⟨hg0, hds⟩ := hg
  refine wpC_of_wpx (by kernel_rfl) (by kernel_rfl) (g' := (⟨g.v, []⟩ : Env).upd (some 0) (.int .u8 x0)) (by rw [env_ds hds, upd_self hg0]) ?_
  have e : (n1 x0 Kn Kr h) = wpx none Tryd.prog 9 code (Q0 Kn Kr) ((⟨g.v, []⟩ : Env).upd (some 0) (.int .u8 x0)) h := by kernel_rfl
  exact e ▸ hS
/-- WHAT tympan/auto.word ASKS -/
abbrev asks (x0 : Int) (K : Value → H → Prop) (h : H) : Prop := n1 x0 (fun y2 h => K (.bool y2) h) (fun y2 h => K (.bool y2) h) h
theorem ok (x0 : Int) (K : Value → H → Prop) (h : H) (hS : asks x0 K h) : HCalls Tryd.prog 55 ⟨[(.int .u8 x0)]⟩ h K := by
  refine calls_of_wpC (c := code) Tryd.func55 (by kernel_rfl) (Nat.le_of_ble_eq_true (by kernel_rfl)) ?_
  refine (n1_ok x0 (fun y2 h => K (.bool y2) h) (fun y2 h => K (.bool y2) h) (env0 [(.int .u8 x0)]) ⟨rfl, rfl⟩ h hS).mono ?_
  intro e g' h' hq
  cases e with
  | normal =>
    have hq : D0 (fun y2 h => K (.bool y2) h) g' h' := hq
    obtain ⟨y2, ⟨hg2, hd⟩, hq⟩ := D0_ok hq
    show leaveX g'.ds h' _
    rw [hd]
    show K (g'.v 2) h'
    rw [hg2]
    exact hq
  | ret =>
    have hq : D0 (fun y2 h => K (.bool y2) h) g' h' := hq
    obtain ⟨y2, ⟨hg2, hd⟩, hq⟩ := D0_ok hq
    show leaveX g'.ds h' _
    rw [hd]
    show K (g'.v 2) h'
    rw [hg2]
    exact hq
  | _ => exact hq
end Sx.auto_word

/-! ### tympan/auto.found$1 -/
namespace Sx.auto_found_1
noncomputable def code : Code := bodyOf Tryd.f16
abbrev T0 := H → Prop
def E0 (g : Env)  : Prop := g.ds = []
def D0 (K : T0) (g : Env) (h : H) : Prop := nilDs g.ds (K h)
theorem D0_ok {K : T0} {g : Env} {h : H} (hq : D0 K g h) : E0 g  ∧ K  h := by
  obtain ⟨hd, hq⟩ := nilDs_ok hq
  skip
  exact ⟨hd, hq⟩
def Q0 (Kn : T0) (Kr : T0) : XPost
  | .normal, g, h => D0 Kn g h
  | .ret, g, h => D0 Kr g h
  | _, _, _ => False
abbrev T1 := Value → Addr → H → Prop
def E1 (g : Env) (x0 : Value) (x1 : Addr) : Prop := g.v 0 = x0 ∧ g.v 1 = (.pointer (some x1)) ∧ g.ds = []
def D1 (K : T1) (g : Env) (h : H) : Prop := nilDs g.ds (vAddr (g.v 1) fun a1 => K (g.v 0) a1 h)
theorem D1_ok {K : T1} {g : Env} {h : H} (hq : D1 K g h) : ∃ (x0 : Value) (x1 : Addr), E1 g x0 x1 ∧ K x0 x1 h := by
  obtain ⟨hd, hq⟩ := nilDs_ok hq
  obtain ⟨y3, e2, q4⟩ := vAddr_ok hq
  exact ⟨(g.v 0), y3, ⟨rfl, e2, hd⟩, q4⟩
noncomputable def n1_c1 : Code := cFst code
noncomputable def n1_c2 : Code := cSnd code
abbrev T2 := Value → Addr → Int → H → Prop
def E2 (g : Env) (x0 : Value) (x1 : Addr) (x3 : Int) : Prop := g.v 0 = x0 ∧ g.v 1 = (.pointer (some x1)) ∧ g.v 3 = (.int .i64 x3) ∧ g.ds = []
def D2 (K : T2) (g : Env) (h : H) : Prop := nilDs g.ds (vAddr (g.v 1) fun a5 => vInt .i64 (g.v 3) fun i6 => K (g.v 0) a5 i6 h)
theorem D2_ok {K : T2} {g : Env} {h : H} (hq : D2 K g h) : ∃ (x0 : Value) (x1 : Addr) (x3 : Int), E2 g x0 x1 x3 ∧ K x0 x1 x3 h := by
  obtain ⟨hd, hq⟩ := nilDs_ok hq
  obtain ⟨y8, e7, q9⟩ := vAddr_ok hq
  obtain ⟨y11, e10, q12⟩ := vInt_ok q9
  exact ⟨(g.v 0), y8, y11, ⟨rfl, e7, e10, hd⟩, q12⟩
noncomputable def n2_c1 : Code := cFst n1_c2
def Q1 (Kn : T0) (Ke0 : T0) (Kr : T0) : XPost
  | .normal, g, h => D0 Kn g h
  | .ret, g, h => D0 Kr g h
  | .exit id, g, h => cond (Nat.beq id 0) (D0 Ke0 g h) (False)
  | _, _, _ => False
noncomputable def n3_c1 : Code := cFst n2_c1
def Q2 (Kn : T2) (Ke0 : T0) (Kr : T0) : XPost
  | .normal, g, h => D2 Kn g h
  | .ret, g, h => D0 Kr g h
  | .exit id, g, h => cond (Nat.beq id 0) (D0 Ke0 g h) (False)
  | _, _, _ => False
noncomputable def n4_c1 : Code := cFst n3_c1
noncomputable def n4_c2 : Code := cSnd n3_c1
noncomputable def n5_c1 : Code := cFst n4_c2
def Q3 (Kn : T2) (Ke1 : T2) (Ke0 : T0) (Kr : T0) : XPost
  | .normal, g, h => D2 Kn g h
  | .ret, g, h => D0 Kr g h
  | .exit id, g, h => cond (Nat.beq id 1) (D2 Ke1 g h) (cond (Nat.beq id 0) (D0 Ke0 g h) (False))
  | _, _, _ => False
noncomputable def n6_c1 : Code := cFst n5_c1
noncomputable def n6_c2 : Code := cSnd n5_c1
abbrev T3 := Value → Addr → Int → Int → H → Prop
def E3 (g : Env) (x0 : Value) (x1 : Addr) (x3 : Int) (x4 : Int) : Prop := g.v 0 = x0 ∧ g.v 1 = (.pointer (some x1)) ∧ g.v 3 = (.int .i64 x3) ∧ g.v 4 = (.int .i32 x4) ∧ g.ds = []
def D3 (K : T3) (g : Env) (h : H) : Prop := nilDs g.ds (vAddr (g.v 1) fun a13 => vInt .i64 (g.v 3) fun i14 => vInt .i32 (g.v 4) fun i15 => K (g.v 0) a13 i14 i15 h)
theorem D3_ok {K : T3} {g : Env} {h : H} (hq : D3 K g h) : ∃ (x0 : Value) (x1 : Addr) (x3 : Int) (x4 : Int), E3 g x0 x1 x3 x4 ∧ K x0 x1 x3 x4 h := by
  obtain ⟨hd, hq⟩ := nilDs_ok hq
  obtain ⟨y17, e16, q18⟩ := vAddr_ok hq
  obtain ⟨y20, e19, q21⟩ := vInt_ok q18
  obtain ⟨y23, e22, q24⟩ := vInt_ok q21
  exact ⟨(g.v 0), y17, y20, y23, ⟨rfl, e16, e19, e22, hd⟩, q24⟩
noncomputable def n7_c1 : Code := cFst n6_c2
noncomputable def n7_c2 : Code := cSnd n6_c2
abbrev T4 := Value → Addr → Int → Int → (List UInt8) → (List UInt8) → H → Prop
def E4 (g : Env) (x0 : Value) (x1 : Addr) (x3 : Int) (x4 : Int) (x5 : List UInt8) (x6 : List UInt8) : Prop := g.v 0 = x0 ∧ g.v 1 = (.pointer (some x1)) ∧ g.v 3 = (.int .i64 x3) ∧ g.v 4 = (.int .i32 x4) ∧ g.v 5 = (S x5) ∧ g.v 6 = (S x6) ∧ g.ds = []
def D4 (K : T4) (g : Env) (h : H) : Prop := nilDs g.ds (vAddr (g.v 1) fun a25 => vInt .i64 (g.v 3) fun i26 => vInt .i32 (g.v 4) fun i27 => vStr (g.v 5) fun s28 => vStr (g.v 6) fun s29 => K (g.v 0) a25 i26 i27 s28 s29 h)
theorem D4_ok {K : T4} {g : Env} {h : H} (hq : D4 K g h) : ∃ (x0 : Value) (x1 : Addr) (x3 : Int) (x4 : Int) (x5 : List UInt8) (x6 : List UInt8), E4 g x0 x1 x3 x4 x5 x6 ∧ K x0 x1 x3 x4 x5 x6 h := by
  obtain ⟨hd, hq⟩ := nilDs_ok hq
  obtain ⟨y31, e30, q32⟩ := vAddr_ok hq
  obtain ⟨y34, e33, q35⟩ := vInt_ok q32
  obtain ⟨y37, e36, q38⟩ := vInt_ok q35
  obtain ⟨y40, e39, q41⟩ := vStr_ok q38
  obtain ⟨y43, e42, q44⟩ := vStr_ok q41
  exact ⟨(g.v 0), y31, y34, y37, y40, y43, ⟨rfl, e30, e33, e36, e39, e42, hd⟩, q44⟩
noncomputable def n8_c1 : Code := cFst n7_c2
noncomputable def n8_c2 : Code := cSnd n7_c2
abbrev T5 := Value → Addr → Int → (List UInt8) → (List UInt8) → H → Prop
def E5 (g : Env) (x0 : Value) (x1 : Addr) (x3 : Int) (x5 : List UInt8) (x6 : List UInt8) : Prop := g.v 0 = x0 ∧ g.v 1 = (.pointer (some x1)) ∧ g.v 3 = (.int .i64 x3) ∧ g.v 5 = (S x5) ∧ g.v 6 = (S x6) ∧ g.ds = []
def D5 (K : T5) (g : Env) (h : H) : Prop := nilDs g.ds (vAddr (g.v 1) fun a45 => vInt .i64 (g.v 3) fun i46 => vStr (g.v 5) fun s47 => vStr (g.v 6) fun s48 => K (g.v 0) a45 i46 s47 s48 h)
theorem D5_ok {K : T5} {g : Env} {h : H} (hq : D5 K g h) : ∃ (x0 : Value) (x1 : Addr) (x3 : Int) (x5 : List UInt8) (x6 : List UInt8), E5 g x0 x1 x3 x5 x6 ∧ K x0 x1 x3 x5 x6 h := by
  obtain ⟨hd, hq⟩ := nilDs_ok hq
  obtain ⟨y50, e49, q51⟩ := vAddr_ok hq
  obtain ⟨y53, e52, q54⟩ := vInt_ok q51
  obtain ⟨y56, e55, q57⟩ := vStr_ok q54
  obtain ⟨y59, e58, q60⟩ := vStr_ok q57
  exact ⟨(g.v 0), y50, y53, y56, y59, ⟨rfl, e49, e52, e55, e58, hd⟩, q60⟩
noncomputable def n9_c1 : Code := cFst n8_c2
noncomputable def n9_c2 : Code := cSnd n8_c2
abbrev n10 (x0 : Value) (x1 : Addr) (x3 : Int) (x5 : List UInt8) (x6 : List UInt8) (Kn : T2) (Ke1 : T2) (Ke0 : T0) (Kr : T0) (h : H) : Prop :=
  Rng .i64 (x3 + (x5.length : Int)) ∧ (CallV Tryd.prog 4 x0 ⟨[(.agg ⟨[(.int .i64 x3), (.int .i64 (x3 + (x5.length : Int))), (S x6)]⟩)]⟩ h fun v61 h62 => vBool v61 fun b63 => cond b63 (Rng .i64 (x3 + (x5.length : Int)) ∧ (Kn x0 x1 (x3 + (x5.length : Int)) h62)) (Kr h62))
theorem n10_ok (x0 : Value) (x1 : Addr) (x3 : Int) (x5 : List UInt8) (x6 : List UInt8) (Kn : T2) (Ke1 : T2) (Ke0 : T0) (Kr : T0) (g : Env) (hg : E5 g x0 x1 x3 x5 x6) (h : H) (hS : n10 x0 x1 x3 x5 x6 Kn Ke1 Ke0 Kr h) : wpC none Tryd.prog 70 n9_c2 (Q3 Kn Ke1 Ke0 Kr) g h := by
  obtain ⟨hg0, hg1, hg3, hg5, hg6, hds⟩ := hg
  refine wpC_of_wpx (by kernel_rfl) (by kernel_rfl) (g' := (((((⟨g.v, []⟩ : Env).upd (some 0) x0).upd (some 1) (.pointer (some x1))).upd (some 3) (.int .i64 x3)).upd (some 5) (S x5)).upd (some 6) (S x6)) (by rw [env_ds hds, upd_self hg0, upd_self hg1, upd_self hg3, upd_self hg5, upd_self hg6]) ?_
  have e : (n10 x0 x1 x3 x5 x6 Kn Ke1 Ke0 Kr h) = wpx none Tryd.prog 70 n9_c2 (Q3 Kn Ke1 Ke0 Kr) ((((((⟨g.v, []⟩ : Env).upd (some 0) x0).upd (some 1) (.pointer (some x1))).upd (some 3) (.int .i64 x3)).upd (some 5) (S x5)).upd (some 6) (S x6)) h := by kernel_rfl
  exact e ▸ hS
def Q4 (Kn : T5) (Ke1 : T2) (Ke0 : T0) (Kr : T0) : XPost
  | .normal, g, h => D5 Kn g h
  | .ret, g, h => D0 Kr g h
  | .exit id, g, h => cond (Nat.beq id 1) (D2 Ke1 g h) (cond (Nat.beq id 0) (D0 Ke0 g h) (False))
  | _, _, _ => False
noncomputable def n11_c1 : Code := cFst n9_c1
noncomputable def n11_c2 : Code := cSnd n9_c1
abbrev T6 := Value → Addr → Int → (List UInt8) → (List UInt8) → Bool → H → Prop
def E6 (g : Env) (x0 : Value) (x1 : Addr) (x3 : Int) (x5 : List UInt8) (x6 : List UInt8) (x45 : Bool) : Prop := g.v 0 = x0 ∧ g.v 1 = (.pointer (some x1)) ∧ g.v 3 = (.int .i64 x3) ∧ g.v 5 = (S x5) ∧ g.v 6 = (S x6) ∧ g.v 45 = (.bool x45) ∧ g.ds = []
def D6 (K : T6) (g : Env) (h : H) : Prop := nilDs g.ds (vAddr (g.v 1) fun a64 => vInt .i64 (g.v 3) fun i65 => vStr (g.v 5) fun s66 => vStr (g.v 6) fun s67 => vBool (g.v 45) fun b68 => K (g.v 0) a64 i65 s66 s67 b68 h)
theorem D6_ok {K : T6} {g : Env} {h : H} (hq : D6 K g h) : ∃ (x0 : Value) (x1 : Addr) (x3 : Int) (x5 : List UInt8) (x6 : List UInt8) (x45 : Bool), E6 g x0 x1 x3 x5 x6 x45 ∧ K x0 x1 x3 x5 x6 x45 h := by
  obtain ⟨hd, hq⟩ := nilDs_ok hq
  obtain ⟨y70, e69, q71⟩ := vAddr_ok hq
  obtain ⟨y73, e72, q74⟩ := vInt_ok q71
  obtain ⟨y76, e75, q77⟩ := vStr_ok q74
  obtain ⟨y79, e78, q80⟩ := vStr_ok q77
  obtain ⟨y82, e81, q83⟩ := vBool_ok q80
  exact ⟨(g.v 0), y70, y73, y76, y79, y82, ⟨rfl, e69, e72, e75, e78, e81, hd⟩, q83⟩
abbrev n12 (x0 : Value) (x1 : Addr) (x3 : Int) (x5 : List UInt8) (x6 : List UInt8) (x45 : Bool) (Kn : T5) (Ke1 : T2) (Ke0 : T0) (Kr : T0) (h : H) : Prop :=
  cond x45 (∃ s84, cell h x1 = some (S s84) ∧ ((0 ≤ x3 ∧ x3 ≤ (s84.length : Int) ∧ (s84.length : Int) ≤ (s84.length : Int)) ∧ (HCalls Tryd.prog 22 ⟨[(S (sub s84 x3 (s84.length : Int)))]⟩ h fun v85 h86 => vTup v85 fun l87 => uncons l87 fun e88 l89 => vInt .i32 e88 fun i90 => uncons l89 fun e91 l92 => vInt .i64 e91 fun i93 => unnil l92 (Rng .i64 (x3 + i93) ∧ (Ke1 x0 x1 (x3 + i93) h86))))) (Kn x0 x1 x3 x5 x6 h)
theorem n12_ok (x0 : Value) (x1 : Addr) (x3 : Int) (x5 : List UInt8) (x6 : List UInt8) (x45 : Bool) (Kn : T5) (Ke1 : T2) (Ke0 : T0) (Kr : T0) (g : Env) (hg : E6 g x0 x1 x3 x5 x6 x45) (h : H) (hS : n12 x0 x1 x3 x5 x6 x45 Kn Ke1 Ke0 Kr h) : wpC none Tryd.prog 70 n11_c2 (Q4 Kn Ke1 Ke0 Kr) g h := by
  obtain ⟨hg0, hg1, hg3, hg5, hg6, hg45, hds⟩ := hg
  refine wpC_of_wpx (by kernel_rfl) (by kernel_rfl) (g' := ((((((⟨g.v, []⟩ : Env).upd (some 0) x0).upd (some 1) (.pointer (some x1))).upd (some 3) (.int .i64 x3)).upd (some 5) (S x5)).upd (some 6) (S x6)).upd (some 45) (.bool x45)) (by rw [env_ds hds, upd_self hg0, upd_self hg1, upd_self hg3, upd_self hg5, upd_self hg6, upd_self hg45]) ?_
  have e : (n12 x0 x1 x3 x5 x6 x45 Kn Ke1 Ke0 Kr h) = wpx none Tryd.prog 70 n11_c2 (Q4 Kn Ke1 Ke0 Kr) (((((((⟨g.v, []⟩ : Env).upd (some 0) x0).upd (some 1) (.pointer (some x1))).upd (some 3) (.int .i64 x3)).upd (some 5) (S x5)).upd (some 6) (S x6)).upd (some 45) (.bool x45)) h := by kernel_rfl
  exact e ▸ hS
def Q5 (Kn : T6) (Ke1 : T2) (Ke0 : T0) (Kr : T0) : XPost
  | .normal, g, h => D6 Kn g h
  | .ret, g, h => D0 Kr g h
  | .exit id, g, h => cond (Nat.beq id 1) (D2 Ke1 g h) (cond (Nat.beq id 0) (D0 Ke0 g h) (False))
  | _, _, _ => False
abbrev n11 (x0 : Value) (x1 : Addr) (x3 : Int) (x5 : List UInt8) (x6 : List UInt8) (Kn : T5) (Ke1 : T2) (Ke0 : T0) (Kr : T0) (h : H) : Prop :=
  Spl (x5 = ([] : List UInt8)) (n12 x0 x1 x3 x5 x6 true Kn Ke1 Ke0 Kr h) (n12 x0 x1 x3 x5 x6 false Kn Ke1 Ke0 Kr h)
theorem n11_ok (x0 : Value) (x1 : Addr) (x3 : Int) (x5 : List UInt8) (x6 : List UInt8) (Kn : T5) (Ke1 : T2) (Ke0 : T0) (Kr : T0) (g : Env) (hg : E5 g x0 x1 x3 x5 x6) (h : H) (hS : n11 x0 x1 x3 x5 x6 Kn Ke1 Ke0 Kr h) : wpC none Tryd.prog 70 n9_c1 (Q4 Kn Ke1 Ke0 Kr) g h := by
  obtain ⟨hg0, hg1, hg3, hg5, hg6, hds⟩ := hg
  refine wpC_seq' (x := n11_c1) (y := n11_c2) (Q' := (Q5 (fun z0 z1 z3 z5 z6 z45 h => n12 z0 z1 z3 z5 z6 z45 Kn Ke1 Ke0 Kr h) Ke1 Ke0 Kr)) (by kernel_rfl) ?_ ?_
  · refine wpC_of_wpx (by kernel_rfl) (by kernel_rfl) (g' := (((((⟨g.v, []⟩ : Env).upd (some 0) x0).upd (some 1) (.pointer (some x1))).upd (some 3) (.int .i64 x3)).upd (some 5) (S x5)).upd (some 6) (S x6)) (by rw [env_ds hds, upd_self hg0, upd_self hg1, upd_self hg3, upd_self hg5, upd_self hg6]) ?_
    have e : (n11 x0 x1 x3 x5 x6 Kn Ke1 Ke0 Kr h) = wpx none Tryd.prog 70 n11_c1 (Q5 (fun z0 z1 z3 z5 z6 z45 h => n12 z0 z1 z3 z5 z6 z45 Kn Ke1 Ke0 Kr h) Ke1 Ke0 Kr) ((((((⟨g.v, []⟩ : Env).upd (some 0) x0).upd (some 1) (.pointer (some x1))).upd (some 3) (.int .i64 x3)).upd (some 5) (S x5)).upd (some 6) (S x6)) h := by kernel_rfl
    exact e ▸ hS
  · intro e g' h' hq
    cases e with
    | normal =>
      have hq : D6 (fun z0 z1 z3 z5 z6 z45 h => n12 z0 z1 z3 z5 z6 z45 Kn Ke1 Ke0 Kr h) g' h' := hq
      obtain ⟨y0, y1, y3, y5, y6, y45, hg', hq⟩ := D6_ok hq
      exact n12_ok y0 y1 y3 y5 y6 y45 Kn Ke1 Ke0 Kr g' hg' h' hq
    | _ => exact hq
abbrev n9 (x0 : Value) (x1 : Addr) (x3 : Int) (x5 : List UInt8) (x6 : List UInt8) (Kn : T2) (Ke1 : T2) (Ke0 : T0) (Kr : T0) (h : H) : Prop := n11 x0 x1 x3 x5 x6 (fun z0 z1 z3 z5 z6 h => n10 z0 z1 z3 z5 z6 Kn Ke1 Ke0 Kr h) Ke1 Ke0 Kr h
theorem n9_ok (x0 : Value) (x1 : Addr) (x3 : Int) (x5 : List UInt8) (x6 : List UInt8) (Kn : T2) (Ke1 : T2) (Ke0 : T0) (Kr : T0) (g : Env) (hg : E5 g x0 x1 x3 x5 x6) (h : H) (hS : n9 x0 x1 x3 x5 x6 Kn Ke1 Ke0 Kr h) : wpC none Tryd.prog 70 n8_c2 (Q3 Kn Ke1 Ke0 Kr) g h := by
  refine wpC_seq' (x := n9_c1) (y := n9_c2) (by kernel_rfl) (n11_ok x0 x1 x3 x5 x6 (fun z0 z1 z3 z5 z6 h => n10 z0 z1 z3 z5 z6 Kn Ke1 Ke0 Kr h) Ke1 Ke0 Kr g hg h hS) ?_
  intro e g' h' hq
  cases e with
  | normal =>
    have hq : D5 (fun z0 z1 z3 z5 z6 h => n10 z0 z1 z3 z5 z6 Kn Ke1 Ke0 Kr h) g' h' := hq
    obtain ⟨y0, y1, y3, y5, y6, hg', hq⟩ := D5_ok hq
    exact n10_ok y0 y1 y3 y5 y6 Kn Ke1 Ke0 Kr g' hg' h' hq
  | _ => exact hq
noncomputable def n13_c1 : Code := cFst n8_c1
noncomputable def n13_c2 : Code := cSnd n8_c1
abbrev T7 := Value → Addr → Int → (List UInt8) → (List UInt8) → Bool → H → Prop
def E7 (g : Env) (x0 : Value) (x1 : Addr) (x3 : Int) (x5 : List UInt8) (x6 : List UInt8) (x27 : Bool) : Prop := g.v 0 = x0 ∧ g.v 1 = (.pointer (some x1)) ∧ g.v 3 = (.int .i64 x3) ∧ g.v 5 = (S x5) ∧ g.v 6 = (S x6) ∧ g.v 27 = (.bool x27) ∧ g.ds = []
def D7 (K : T7) (g : Env) (h : H) : Prop := nilDs g.ds (vAddr (g.v 1) fun a94 => vInt .i64 (g.v 3) fun i95 => vStr (g.v 5) fun s96 => vStr (g.v 6) fun s97 => vBool (g.v 27) fun b98 => K (g.v 0) a94 i95 s96 s97 b98 h)
theorem D7_ok {K : T7} {g : Env} {h : H} (hq : D7 K g h) : ∃ (x0 : Value) (x1 : Addr) (x3 : Int) (x5 : List UInt8) (x6 : List UInt8) (x27 : Bool), E7 g x0 x1 x3 x5 x6 x27 ∧ K x0 x1 x3 x5 x6 x27 h := by
  obtain ⟨hd, hq⟩ := nilDs_ok hq
  obtain ⟨y100, e99, q101⟩ := vAddr_ok hq
  obtain ⟨y103, e102, q104⟩ := vInt_ok q101
  obtain ⟨y106, e105, q107⟩ := vStr_ok q104
  obtain ⟨y109, e108, q110⟩ := vStr_ok q107
  obtain ⟨y112, e111, q113⟩ := vBool_ok q110
  exact ⟨(g.v 0), y100, y103, y106, y109, y112, ⟨rfl, e99, e102, e105, e108, e111, hd⟩, q113⟩
abbrev n14 (x0 : Value) (x1 : Addr) (x3 : Int) (x5 : List UInt8) (x6 : List UInt8) (x27 : Bool) (Kn : T5) (Ke1 : T2) (Ke0 : T0) (Kr : T0) (h : H) : Prop :=
  cond x27 (∃ s114, cell h x1 = some (S s114) ∧ ((0 ≤ x3 ∧ x3 ≤ (s114.length : Int) ∧ (s114.length : Int) ≤ (s114.length : Int)) ∧ (HCalls Tryd.prog 20 ⟨[(S (sub s114 x3 (s114.length : Int)))]⟩ h fun v115 h116 => vTup v115 fun l117 => uncons l117 fun e118 l119 => vStr e118 fun s120 => uncons l119 fun e121 l122 => vStr e121 fun s123 => unnil l122 (Spl (s120 = ([] : List UInt8)) (∃ s124, cell h116 x1 = some (S s124) ∧ ((0 ≤ x3 ∧ x3 ≤ (s124.length : Int) ∧ (s124.length : Int) ≤ (s124.length : Int)) ∧ (HCalls Tryd.prog 21 ⟨[(S (sub s124 x3 (s124.length : Int)))]⟩ h116 fun v125 h126 => vTup v125 fun l127 => uncons l127 fun e128 l129 => vStr e128 fun s130 => uncons l129 fun e131 l132 => vStr e131 fun s133 => unnil l132 (Kn x0 x1 x3 s130 s133 h126)))) (Kn x0 x1 x3 s120 s123 h116))))) (Kn x0 x1 x3 x5 x6 h)
theorem n14_ok (x0 : Value) (x1 : Addr) (x3 : Int) (x5 : List UInt8) (x6 : List UInt8) (x27 : Bool) (Kn : T5) (Ke1 : T2) (Ke0 : T0) (Kr : T0) (g : Env) (hg : E7 g x0 x1 x3 x5 x6 x27) (h : H) (hS : n14 x0 x1 x3 x5 x6 x27 Kn Ke1 Ke0 Kr h) : wpC none Tryd.prog 70 n13_c2 (Q4 Kn Ke1 Ke0 Kr) g h := by
  obtain ⟨hg0, hg1, hg3, hg5, hg6, hg27, hds⟩ := hg
  refine wpC_of_wpx (by kernel_rfl) (by kernel_rfl) (g' := ((((((⟨g.v, []⟩ : Env).upd (some 0) x0).upd (some 1) (.pointer (some x1))).upd (some 3) (.int .i64 x3)).upd (some 5) (S x5)).upd (some 6) (S x6)).upd (some 27) (.bool x27)) (by rw [env_ds hds, upd_self hg0, upd_self hg1, upd_self hg3, upd_self hg5, upd_self hg6, upd_self hg27]) ?_
  have e : (n14 x0 x1 x3 x5 x6 x27 Kn Ke1 Ke0 Kr h) = wpx none Tryd.prog 70 n13_c2 (Q4 Kn Ke1 Ke0 Kr) (((((((⟨g.v, []⟩ : Env).upd (some 0) x0).upd (some 1) (.pointer (some x1))).upd (some 3) (.int .i64 x3)).upd (some 5) (S x5)).upd (some 6) (S x6)).upd (some 27) (.bool x27)) h := by kernel_rfl
  exact e ▸ hS
def Q6 (Kn : T7) (Ke1 : T2) (Ke0 : T0) (Kr : T0) : XPost
  | .normal, g, h => D7 Kn g h
  | .ret, g, h => D0 Kr g h
  | .exit id, g, h => cond (Nat.beq id 1) (D2 Ke1 g h) (cond (Nat.beq id 0) (D0 Ke0 g h) (False))
  | _, _, _ => False
abbrev n13 (x0 : Value) (x1 : Addr) (x3 : Int) (x4 : Int) (x5 : List UInt8) (x6 : List UInt8) (Kn : T5) (Ke1 : T2) (Ke0 : T0) (Kr : T0) (h : H) : Prop :=
  HCalls Tryd.prog 18 ⟨[(.int .i32 x4)]⟩ h fun v134 h135 => vBool v134 fun b136 => cond b136 (n14 x0 x1 x3 x5 x6 true Kn Ke1 Ke0 Kr h135) (Spl (x4 < (128 : Int)) (HCalls Tryd.prog 19 ⟨[(S ([42, 95, 126, 40] : List UInt8)), (.int .u8 (IntKind.wrap .u8 x4))]⟩ h135 fun v137 h138 => vInt .i64 v137 fun i139 => Spl (i139 ≥ (0 : Int)) (n14 x0 x1 x3 x5 x6 true Kn Ke1 Ke0 Kr h138) (n14 x0 x1 x3 x5 x6 false Kn Ke1 Ke0 Kr h138)) (n14 x0 x1 x3 x5 x6 false Kn Ke1 Ke0 Kr h135))
theorem n13_ok (x0 : Value) (x1 : Addr) (x3 : Int) (x4 : Int) (x5 : List UInt8) (x6 : List UInt8) (Kn : T5) (Ke1 : T2) (Ke0 : T0) (Kr : T0) (g : Env) (hg : E4 g x0 x1 x3 x4 x5 x6) (h : H) (hS : n13 x0 x1 x3 x4 x5 x6 Kn Ke1 Ke0 Kr h) : wpC none Tryd.prog 70 n8_c1 (Q4 Kn Ke1 Ke0 Kr) g h := by
  obtain ⟨hg0, hg1, hg3, hg4, hg5, hg6, hds⟩ := hg
  refine wpC_seq' (x := n13_c1) (y := n13_c2) (Q' := (Q6 (fun z0 z1 z3 z5 z6 z27 h => n14 z0 z1 z3 z5 z6 z27 Kn Ke1 Ke0 Kr h) Ke1 Ke0 Kr)) (by kernel_rfl) ?_ ?_
  · refine wpC_of_wpx (by kernel_rfl) (by kernel_rfl) (g' := ((((((⟨g.v, []⟩ : Env).upd (some 0) x0).upd (some 1) (.pointer (some x1))).upd (some 3) (.int .i64 x3)).upd (some 4) (.int .i32 x4)).upd (some 5) (S x5)).upd (some 6) (S x6)) (by rw [env_ds hds, upd_self hg0, upd_self hg1, upd_self hg3, upd_self hg4, upd_self hg5, upd_self hg6]) ?_
    have e : (n13 x0 x1 x3 x4 x5 x6 Kn Ke1 Ke0 Kr h) = wpx none Tryd.prog 70 n13_c1 (Q6 (fun z0 z1 z3 z5 z6 z27 h => n14 z0 z1 z3 z5 z6 z27 Kn Ke1 Ke0 Kr h) Ke1 Ke0 Kr) (((((((⟨g.v, []⟩ : Env).upd (some 0) x0).upd (some 1) (.pointer (some x1))).upd (some 3) (.int .i64 x3)).upd (some 4) (.int .i32 x4)).upd (some 5) (S x5)).upd (some 6) (S x6)) h := by kernel_rfl
    exact e ▸ hS
  · intro e g' h' hq
    cases e with
    | normal =>
      have hq : D7 (fun z0 z1 z3 z5 z6 z27 h => n14 z0 z1 z3 z5 z6 z27 Kn Ke1 Ke0 Kr h) g' h' := hq
      obtain ⟨y0, y1, y3, y5, y6, y27, hg', hq⟩ := D7_ok hq
      exact n14_ok y0 y1 y3 y5 y6 y27 Kn Ke1 Ke0 Kr g' hg' h' hq
    | _ => exact hq
abbrev n8 (x0 : Value) (x1 : Addr) (x3 : Int) (x4 : Int) (x5 : List UInt8) (x6 : List UInt8) (Kn : T2) (Ke1 : T2) (Ke0 : T0) (Kr : T0) (h : H) : Prop := n13 x0 x1 x3 x4 x5 x6 (fun z0 z1 z3 z5 z6 h => n9 z0 z1 z3 z5 z6 Kn Ke1 Ke0 Kr h) Ke1 Ke0 Kr h
theorem n8_ok (x0 : Value) (x1 : Addr) (x3 : Int) (x4 : Int) (x5 : List UInt8) (x6 : List UInt8) (Kn : T2) (Ke1 : T2) (Ke0 : T0) (Kr : T0) (g : Env) (hg : E4 g x0 x1 x3 x4 x5 x6) (h : H) (hS : n8 x0 x1 x3 x4 x5 x6 Kn Ke1 Ke0 Kr h) : wpC none Tryd.prog 70 n7_c2 (Q3 Kn Ke1 Ke0 Kr) g h := by
  refine wpC_seq' (x := n8_c1) (y := n8_c2) (by kernel_rfl) (n13_ok x0 x1 x3 x4 x5 x6 (fun z0 z1 z3 z5 z6 h => n9 z0 z1 z3 z5 z6 Kn Ke1 Ke0 Kr h) Ke1 Ke0 Kr g hg h hS) ?_
  intro e g' h' hq
  cases e with
  | normal =>
    have hq : D5 (fun z0 z1 z3 z5 z6 h => n9 z0 z1 z3 z5 z6 Kn Ke1 Ke0 Kr h) g' h' := hq
    obtain ⟨y0, y1, y3, y5, y6, hg', hq⟩ := D5_ok hq
    exact n9_ok y0 y1 y3 y5 y6 Kn Ke1 Ke0 Kr g' hg' h' hq
  | _ => exact hq
def Q7 (Kn : T4) (Ke1 : T2) (Ke0 : T0) (Kr : T0) : XPost
  | .normal, g, h => D4 Kn g h
  | .ret, g, h => D0 Kr g h
  | .exit id, g, h => cond (Nat.beq id 1) (D2 Ke1 g h) (cond (Nat.beq id 0) (D0 Ke0 g h) (False))
  | _, _, _ => False
abbrev n7 (x0 : Value) (x1 : Addr) (x3 : Int) (x4 : Int) (Kn : T2) (Ke1 : T2) (Ke0 : T0) (Kr : T0) (h : H) : Prop :=
  n8 x0 x1 x3 x4 ([] : List UInt8) ([] : List UInt8) Kn Ke1 Ke0 Kr h
theorem n7_ok (x0 : Value) (x1 : Addr) (x3 : Int) (x4 : Int) (Kn : T2) (Ke1 : T2) (Ke0 : T0) (Kr : T0) (g : Env) (hg : E3 g x0 x1 x3 x4) (h : H) (hS : n7 x0 x1 x3 x4 Kn Ke1 Ke0 Kr h) : wpC none Tryd.prog 70 n6_c2 (Q3 Kn Ke1 Ke0 Kr) g h := by
  obtain ⟨hg0, hg1, hg3, hg4, hds⟩ := hg
  refine wpC_seq' (x := n7_c1) (y := n7_c2) (Q' := (Q7 (fun z0 z1 z3 z4 z5 z6 h => n8 z0 z1 z3 z4 z5 z6 Kn Ke1 Ke0 Kr h) Ke1 Ke0 Kr)) (by kernel_rfl) ?_ ?_
  · refine wpC_of_wpx (by kernel_rfl) (by kernel_rfl) (g' := ((((⟨g.v, []⟩ : Env).upd (some 0) x0).upd (some 1) (.pointer (some x1))).upd (some 3) (.int .i64 x3)).upd (some 4) (.int .i32 x4)) (by rw [env_ds hds, upd_self hg0, upd_self hg1, upd_self hg3, upd_self hg4]) ?_
    have e : (n7 x0 x1 x3 x4 Kn Ke1 Ke0 Kr h) = wpx none Tryd.prog 70 n7_c1 (Q7 (fun z0 z1 z3 z4 z5 z6 h => n8 z0 z1 z3 z4 z5 z6 Kn Ke1 Ke0 Kr h) Ke1 Ke0 Kr) (((((⟨g.v, []⟩ : Env).upd (some 0) x0).upd (some 1) (.pointer (some x1))).upd (some 3) (.int .i64 x3)).upd (some 4) (.int .i32 x4)) h := by kernel_rfl
    exact e ▸ hS
  · intro e g' h' hq
    cases e with
    | normal =>
      have hq : D4 (fun z0 z1 z3 z4 z5 z6 h => n8 z0 z1 z3 z4 z5 z6 Kn Ke1 Ke0 Kr h) g' h' := hq
      obtain ⟨y0, y1, y3, y4, y5, y6, hg', hq⟩ := D4_ok hq
      exact n8_ok y0 y1 y3 y4 y5 y6 Kn Ke1 Ke0 Kr g' hg' h' hq
    | _ => exact hq
def Q8 (Kn : T3) (Ke1 : T2) (Ke0 : T0) (Kr : T0) : XPost
  | .normal, g, h => D3 Kn g h
  | .ret, g, h => D0 Kr g h
  | .exit id, g, h => cond (Nat.beq id 1) (D2 Ke1 g h) (cond (Nat.beq id 0) (D0 Ke0 g h) (False))
  | _, _, _ => False
abbrev n6 (x0 : Value) (x1 : Addr) (x3 : Int) (Kn : T2) (Ke1 : T2) (Ke0 : T0) (Kr : T0) (h : H) : Prop :=
  ∃ s140, cell h x1 = some (S s140) ∧ (HCalls Tryd.prog 17 ⟨[(S s140), (.int .i64 x3)]⟩ h fun v141 h142 => vInt .i32 v141 fun i143 => n7 x0 x1 x3 i143 Kn Ke1 Ke0 Kr h142)
theorem n6_ok (x0 : Value) (x1 : Addr) (x3 : Int) (Kn : T2) (Ke1 : T2) (Ke0 : T0) (Kr : T0) (g : Env) (hg : E2 g x0 x1 x3) (h : H) (hS : n6 x0 x1 x3 Kn Ke1 Ke0 Kr h) : wpC none Tryd.prog 70 n5_c1 (Q3 Kn Ke1 Ke0 Kr) g h := by
  obtain ⟨hg0, hg1, hg3, hds⟩ := hg
  refine wpC_seq' (x := n6_c1) (y := n6_c2) (Q' := (Q8 (fun z0 z1 z3 z4 h => n7 z0 z1 z3 z4 Kn Ke1 Ke0 Kr h) Ke1 Ke0 Kr)) (by kernel_rfl) ?_ ?_
  · refine wpC_of_wpx (by kernel_rfl) (by kernel_rfl) (g' := (((⟨g.v, []⟩ : Env).upd (some 0) x0).upd (some 1) (.pointer (some x1))).upd (some 3) (.int .i64 x3)) (by rw [env_ds hds, upd_self hg0, upd_self hg1, upd_self hg3]) ?_
    have e : (n6 x0 x1 x3 Kn Ke1 Ke0 Kr h) = wpx none Tryd.prog 70 n6_c1 (Q8 (fun z0 z1 z3 z4 h => n7 z0 z1 z3 z4 Kn Ke1 Ke0 Kr h) Ke1 Ke0 Kr) ((((⟨g.v, []⟩ : Env).upd (some 0) x0).upd (some 1) (.pointer (some x1))).upd (some 3) (.int .i64 x3)) h := by kernel_rfl
    exact e ▸ hS
  · intro e g' h' hq
    cases e with
    | normal =>
      have hq : D3 (fun z0 z1 z3 z4 h => n7 z0 z1 z3 z4 Kn Ke1 Ke0 Kr h) g' h' := hq
      obtain ⟨y0, y1, y3, y4, hg', hq⟩ := D3_ok hq
      exact n7_ok y0 y1 y3 y4 Kn Ke1 Ke0 Kr g' hg' h' hq
    | _ => exact hq
abbrev n5 (x0 : Value) (x1 : Addr) (x3 : Int) (Kn : T2) (Ke0 : T0) (Kr : T0) (h : H) : Prop := n6 x0 x1 x3 Kn Kn Ke0 Kr h
theorem n5_ok (x0 : Value) (x1 : Addr) (x3 : Int) (Kn : T2) (Ke0 : T0) (Kr : T0) (g : Env) (hg : E2 g x0 x1 x3) (h : H) (hS : n5 x0 x1 x3 Kn Ke0 Kr h) : wpC none Tryd.prog 70 n4_c2 (Q2 Kn Ke0 Kr) g h := by
  refine wpC_block' (id := 1) (x := n5_c1) (by kernel_rfl) (n6_ok x0 x1 x3 Kn Kn Ke0 Kr g hg h hS) ?_
  intro e g' h' hq
  cases e <;> exact hq
abbrev n4 (x0 : Value) (x1 : Addr) (x3 : Int) (Kn : T2) (Ke0 : T0) (Kr : T0) (h : H) : Prop :=
  ∃ s144, cell h x1 = some (S s144) ∧ (Spl (x3 < (s144.length : Int)) (n5 x0 x1 x3 Kn Ke0 Kr h) (Ke0 h))
theorem n4_ok (x0 : Value) (x1 : Addr) (x3 : Int) (Kn : T2) (Ke0 : T0) (Kr : T0) (g : Env) (hg : E2 g x0 x1 x3) (h : H) (hS : n4 x0 x1 x3 Kn Ke0 Kr h) : wpC none Tryd.prog 70 n3_c1 (Q2 Kn Ke0 Kr) g h := by
  obtain ⟨hg0, hg1, hg3, hds⟩ := hg
  refine wpC_seq' (x := n4_c1) (y := n4_c2) (Q' := (Q2 (fun z0 z1 z3 h => n5 z0 z1 z3 Kn Ke0 Kr h) Ke0 Kr)) (by kernel_rfl) ?_ ?_
  · refine wpC_of_wpx (by kernel_rfl) (by kernel_rfl) (g' := (((⟨g.v, []⟩ : Env).upd (some 0) x0).upd (some 1) (.pointer (some x1))).upd (some 3) (.int .i64 x3)) (by rw [env_ds hds, upd_self hg0, upd_self hg1, upd_self hg3]) ?_
    have e : (n4 x0 x1 x3 Kn Ke0 Kr h) = wpx none Tryd.prog 70 n4_c1 (Q2 (fun z0 z1 z3 h => n5 z0 z1 z3 Kn Ke0 Kr h) Ke0 Kr) ((((⟨g.v, []⟩ : Env).upd (some 0) x0).upd (some 1) (.pointer (some x1))).upd (some 3) (.int .i64 x3)) h := by kernel_rfl
    exact e ▸ hS
  · intro e g' h' hq
    cases e with
    | normal =>
      have hq : D2 (fun z0 z1 z3 h => n5 z0 z1 z3 Kn Ke0 Kr h) g' h' := hq
      obtain ⟨y0, y1, y3, hg', hq⟩ := D2_ok hq
      exact n5_ok y0 y1 y3 Kn Ke0 Kr g' hg' h' hq
    | _ => exact hq
def n3_L (Kn : T0) (Ke0 : T0) (Kr : T0) : Nat → Value → Addr → Int → H → Prop
  | 0 => fun _ _ _ _ => False
  | N + 1 => fun x0 x1 x3 h => n4 x0 x1 x3 (fun z0 z1 z3 h => n3_L Kn Ke0 Kr N z0 z1 z3 h) Ke0 Kr h
abbrev n3 (x0 : Value) (x1 : Addr) (x3 : Int) (Kn : T0) (Ke0 : T0) (Kr : T0) (h : H) : Prop := ∃ N, n3_L Kn Ke0 Kr N x0 x1 x3 h
theorem n3_ok (x0 : Value) (x1 : Addr) (x3 : Int) (Kn : T0) (Ke0 : T0) (Kr : T0) (g : Env) (hg : E2 g x0 x1 x3) (h : H) (hS : n3 x0 x1 x3 Kn Ke0 Kr h) : wpC none Tryd.prog 70 n2_c1 (Q1 Kn Ke0 Kr) g h := by
  obtain ⟨N0, hS⟩ := hS
  refine wpC_loop' (x := n3_c1) (by kernel_rfl) (fun k g h => ∃ (x0 : Value) (x1 : Addr) (x3 : Int), E2 g x0 x1 x3 ∧ n3_L Kn Ke0 Kr k x0 x1 x3 h) (fun g h hr => ?_) (fun N g h hr => ?_) N0 ⟨x0, x1, x3, hg, hS⟩
  · obtain ⟨x0, x1, x3, hg, hS⟩ := hr
    exact hS.elim
  · obtain ⟨x0, x1, x3, hg, hS⟩ := hr
    refine (n4_ok x0 x1 x3 (fun z0 z1 z3 h => n3_L Kn Ke0 Kr N z0 z1 z3 h) Ke0 Kr g hg h hS).mono ?_
    intro e g' h' hq
    cases e with
    | normal => exact D2_ok (K := (fun z0 z1 z3 h => n3_L Kn Ke0 Kr N z0 z1 z3 h)) hq
    | _ => exact hq
abbrev n2 (x0 : Value) (x1 : Addr) (x3 : Int) (Kn : T0) (Kr : T0) (h : H) : Prop := n3 x0 x1 x3 Kn Kn Kr h
theorem n2_ok (x0 : Value) (x1 : Addr) (x3 : Int) (Kn : T0) (Kr : T0) (g : Env) (hg : E2 g x0 x1 x3) (h : H) (hS : n2 x0 x1 x3 Kn Kr h) : wpC none Tryd.prog 70 n1_c2 (Q0 Kn Kr) g h := by
  refine wpC_block' (id := 0) (x := n2_c1) (by kernel_rfl) (n3_ok x0 x1 x3 Kn Kn Kr g hg h hS) ?_
  intro e g' h' hq
  cases e <;> exact hq
def Q9 (Kn : T2) (Kr : T0) : XPost
  | .normal, g, h => D2 Kn g h
  | .ret, g, h => D0 Kr g h
  | _, _, _ => False
abbrev n1 (x0 : Value) (x1 : Addr) (Kn : T0) (Kr : T0) (h : H) : Prop :=
  n2 x0 x1 (0 : Int) Kn Kr h
theorem n1_ok (x0 : Value) (x1 : Addr) (Kn : T0) (Kr : T0) (g : Env) (hg : E1 g x0 x1) (h : H) (hS : n1 x0 x1 Kn Kr h) : wpC none Tryd.prog 70 code (Q0 Kn Kr) g h := by
  obtain ⟨hg0, hg1, hds⟩ := hg
  refine wpC_seq' (x := n1_c1) (y := n1_c2) (Q' := (Q9 (fun z0 z1 z3 h => n2 z0 z1 z3 Kn Kr h) Kr)) (by kernel_rfl) ?_ ?_
  · refine wpC_of_wpx (by kernel_rfl) (by kernel_rfl) (g' := ((⟨g.v, []⟩ : Env).upd (some 0) x0).upd (some 1) (.pointer (some x1))) (by rw [env_ds hds, upd_self hg0, upd_self hg1]) ?_
    have e : (n1 x0 x1 Kn Kr h) = wpx none Tryd.prog 70 n1_c1 (Q9 (fun z0 z1 z3 h => n2 z0 z1 z3 Kn Kr h) Kr) (((⟨g.v, []⟩ : Env).upd (some 0) x0).upd (some 1) (.pointer (some x1))) h := by kernel_rfl
    exact e ▸ hS
  · intro e g' h' hq
    cases e with
    | normal =>
      have hq : D2 (fun z0 z1 z3 h => n2 z0 z1 z3 Kn Kr h) g' h' := hq
      obtain ⟨y0, y1, y3, hg', hq⟩ := D2_ok hq
      exact n2_ok y0 y1 y3 Kn Kr g' hg' h' hq
    | _ => exact hq
/-- WHAT tympan/auto.found$1 ASKS -/
abbrev asks (x0 : Value) (x1 : Addr) (K : Value → H → Prop) (h : H) : Prop := n1 x0 x1 (fun h => K (.tuple ⟨[]⟩) h) (fun h => K (.tuple ⟨[]⟩) h) h
theorem ok (x0 : Value) (x1 : Addr) (K : Value → H → Prop) (h : H) (hS : asks x0 x1 K h) : HCalls Tryd.prog 16 ⟨[x0, (.pointer (some x1))]⟩ h K := by
  refine calls_of_wpC (c := code) Tryd.func16 (by kernel_rfl) (Nat.le_of_ble_eq_true (by kernel_rfl)) ?_
  refine (n1_ok x0 x1 (fun h => K (.tuple ⟨[]⟩) h) (fun h => K (.tuple ⟨[]⟩) h) (env0 [x0, (.pointer (some x1))]) ⟨rfl, rfl, rfl⟩ h hS).mono ?_
  intro e g' h' hq
  cases e with
  | normal =>
    have hq : D0 (fun h => K (.tuple ⟨[]⟩) h) g' h' := hq
    obtain ⟨hd, hq⟩ := D0_ok hq
    show leaveX g'.ds h' _
    rw [hd]
    show K (.tuple ⟨[]⟩) h'
    exact hq
  | ret =>
    have hq : D0 (fun h => K (.tuple ⟨[]⟩) h) g' h' := hq
    obtain ⟨hd, hq⟩ := D0_ok hq
    show leaveX g'.ds h' _
    rw [hd]
    show K (.tuple ⟨[]⟩) h'
    exact hq
  | _ => exact hq
end Sx.auto_found_1

/-! ### tympan/auto.Find -/
namespace Sx.auto_Find
noncomputable def code : Code := bodyOf Tryd.f6
abbrev T0 := (Option Addr) → Nat → Nat → (List Deferred) → H → Prop
def E0 (g : Env) (x2b : Option Addr) (x2n : Nat) (x2c : Nat) (ds : List Deferred) : Prop := g.v 2 = (.slice x2b x2n x2c) ∧ g.ds = ds
def D0 (K : T0) (g : Env) (h : H) : Prop := vSlice (g.v 2) fun s1b s1n s1c => K s1b s1n s1c g.ds h
theorem D0_ok {K : T0} {g : Env} {h : H} (hq : D0 K g h) : ∃ (x2b : Option Addr) (x2n : Nat) (x2c : Nat) (ds : List Deferred), E0 g x2b x2n x2c ds ∧ K x2b x2n x2c ds h := by
  obtain ⟨y3b, y3n, y3c, e2, q4⟩ := vSlice_ok hq
  exact ⟨y3b, y3n, y3c, g.ds, ⟨e2, rfl⟩, q4⟩
theorem D0_mk {K : T0} {g : Env} {h : H} {x2b : Option Addr} {x2n : Nat} {x2c : Nat} {ds : List Deferred} (hg : E0 g x2b x2n x2c ds) (hk : K x2b x2n x2c ds h) : D0 K g h := by
  obtain ⟨hg2, hds⟩ := hg
  unfold D0
  rw [hg2, hds]
  exact hk
def Q0 (Kn : T0) (Kr : T0) : XPost
  | .normal, g, h => D0 Kn g h
  | .ret, g, h => D0 Kr g h
  | _, _, _ => False
abbrev T1 := (List UInt8) → (List Deferred) → H → Prop
def E1 (g : Env) (x0 : List UInt8) (ds : List Deferred) : Prop := g.v 0 = (S x0) ∧ g.ds = ds
def D1 (K : T1) (g : Env) (h : H) : Prop := vStr (g.v 0) fun s5 => K s5 g.ds h
theorem D1_ok {K : T1} {g : Env} {h : H} (hq : D1 K g h) : ∃ (x0 : List UInt8) (ds : List Deferred), E1 g x0 ds ∧ K x0 ds h := by
  obtain ⟨y7, e6, q8⟩ := vStr_ok hq
  exact ⟨y7, g.ds, ⟨e6, rfl⟩, q8⟩
theorem D1_mk {K : T1} {g : Env} {h : H} {x0 : List UInt8} {ds : List Deferred} (hg : E1 g x0 ds) (hk : K x0 ds h) : D1 K g h := by
  obtain ⟨hg0, hds⟩ := hg
  unfold D1
  rw [hg0, hds]
  exact hk
noncomputable def n1_c1 : Code := cFst code
noncomputable def n1_c2 : Code := cSnd code
noncomputable def n2_c1 : Code := cFst n1_c2
noncomputable def n2_c2 : Code := cSnd n1_c2
abbrev T2 := (List UInt8) → Addr → (List Deferred) → H → Prop
def E2 (g : Env) (x0 : List UInt8) (x3 : Addr) (ds : List Deferred) : Prop := g.v 0 = (S x0) ∧ g.v 3 = (.pointer (some x3)) ∧ g.ds = ds
def D2 (K : T2) (g : Env) (h : H) : Prop := vStr (g.v 0) fun s9 => vAddr (g.v 3) fun a10 => K s9 a10 g.ds h
theorem D2_ok {K : T2} {g : Env} {h : H} (hq : D2 K g h) : ∃ (x0 : List UInt8) (x3 : Addr) (ds : List Deferred), E2 g x0 x3 ds ∧ K x0 x3 ds h := by
  obtain ⟨y12, e11, q13⟩ := vStr_ok hq
  obtain ⟨y15, e14, q16⟩ := vAddr_ok q13
  exact ⟨y12, y15, g.ds, ⟨e11, e14, rfl⟩, q16⟩
theorem D2_mk {K : T2} {g : Env} {h : H} {x0 : List UInt8} {x3 : Addr} {ds : List Deferred} (hg : E2 g x0 x3 ds) (hk : K x0 x3 ds h) : D2 K g h := by
  obtain ⟨hg0, hg3, hds⟩ := hg
  unfold D2
  rw [hg0, hg3, hds]
  exact hk
noncomputable def n3_c1 : Code := cFst n2_c2
noncomputable def n3_c2 : Code := cSnd n2_c2
abbrev T3 := Addr → (List Deferred) → H → Prop
def E3 (g : Env) (x3 : Addr) (ds : List Deferred) : Prop := g.v 3 = (.pointer (some x3)) ∧ g.ds = ds
def D3 (K : T3) (g : Env) (h : H) : Prop := vAddr (g.v 3) fun a17 => K a17 g.ds h
theorem D3_ok {K : T3} {g : Env} {h : H} (hq : D3 K g h) : ∃ (x3 : Addr) (ds : List Deferred), E3 g x3 ds ∧ K x3 ds h := by
  obtain ⟨y19, e18, q20⟩ := vAddr_ok hq
  exact ⟨y19, g.ds, ⟨e18, rfl⟩, q20⟩
theorem D3_mk {K : T3} {g : Env} {h : H} {x3 : Addr} {ds : List Deferred} (hg : E3 g x3 ds) (hk : K x3 ds h) : D3 K g h := by
  obtain ⟨hg3, hds⟩ := hg
  unfold D3
  rw [hg3, hds]
  exact hk
abbrev n4 (x3 : Addr) (ds : List Deferred) (Kn : T0) (Kr : T0) (h : H) : Prop :=
  ∃ s21b s21n s21c, cell h x3 = some (.slice s21b s21n s21c) ∧ (Kr s21b s21n s21c ds h)
theorem n4_ok (x3 : Addr) (ds : List Deferred) (Kn : T0) (Kr : T0) (g : Env) (hg : E3 g x3 ds) (h : H) (hS : n4 x3 ds Kn Kr h) : wpC none Tryd.prog 13 n3_c2 (Q0 Kn Kr) g h := by
  obtain ⟨hg3, hds⟩ := hg
  refine wpC_of_wpx (by kernel_rfl) (by kernel_rfl) (g' := (⟨g.v, ds⟩ : Env).upd (some 3) (.pointer (some x3))) (by rw [env_ds hds, upd_self hg3]) ?_
  have e : (n4 x3 ds Kn Kr h) = wpx none Tryd.prog 13 n3_c2 (Q0 Kn Kr) ((⟨g.v, ds⟩ : Env).upd (some 3) (.pointer (some x3))) h := by kernel_rfl
  exact e ▸ hS
def Q1 (Kn : T3) (Kr : T0) : XPost
  | .normal, g, h => D3 Kn g h
  | .ret, g, h => D0 Kr g h
  | _, _, _ => False
noncomputable def n5_c1 : Code := cFst n3_c1
noncomputable def n5_c2 : Code := cSnd n3_c1
abbrev T4 := Addr → Value → (List Deferred) → H → Prop
def E4 (g : Env) (x3 : Addr) (x6 : Value) (ds : List Deferred) : Prop := g.v 3 = (.pointer (some x3)) ∧ g.v 6 = x6 ∧ g.ds = ds
def D4 (K : T4) (g : Env) (h : H) : Prop := vAddr (g.v 3) fun a22 => K a22 (g.v 6) g.ds h
theorem D4_ok {K : T4} {g : Env} {h : H} (hq : D4 K g h) : ∃ (x3 : Addr) (x6 : Value) (ds : List Deferred), E4 g x3 x6 ds ∧ K x3 x6 ds h := by
  obtain ⟨y24, e23, q25⟩ := vAddr_ok hq
  exact ⟨y24, (g.v 6), g.ds, ⟨e23, rfl, rfl⟩, q25⟩
theorem D4_mk {K : T4} {g : Env} {h : H} {x3 : Addr} {x6 : Value} {ds : List Deferred} (hg : E4 g x3 x6 ds) (hk : K x3 x6 ds h) : D4 K g h := by
  obtain ⟨hg3, hg6, hds⟩ := hg
  unfold D4
  rw [hg3, hg6, hds]
  exact hk
noncomputable def n6_c1 : Code := cFst n5_c2
def Q2 (Kn : T3) (Ke0 : T3) (Kr : T0) : XPost
  | .normal, g, h => D3 Kn g h
  | .ret, g, h => D0 Kr g h
  | .exit id, g, h => cond (Nat.beq id 0) (D3 Ke0 g h) (False)
  | _, _, _ => False
noncomputable def n7_c1 : Code := cFst n6_c1
noncomputable def n7_c2 : Code := cSnd n6_c1
def n7_rd (x3 : Addr) (x6 : Value) (ds : List Deferred) (Kn : T3) (Ke0 : T3) (Kr : T0) (h : H) (p7_0 : Int) (p7_1 : Int) (p7_2 : List UInt8) (Mid : H → (H → Prop) → Prop) (Kc : H → H → Prop) (Fin : H → H → (H → Prop) → Prop) (h1 : H) : Prop :=
  newx h1 ⟨[(.int .i64 (0 : Int)), (.int .i64 (0 : Int)), (S ([] : List UInt8))]⟩ 28 fun a26 h27 => stL a26 [(.int .i64 p7_0), (.int .i64 p7_1), (S p7_2)] 0 h27 fun h28 => Mid h28 fun hb29 => ∃ s30b s30n s30c, cell hb29 x3 = some (.slice s30b s30n s30c) ∧ (∃ i31, cell hb29 ((a26).add 0) = some (.int .i64 i31) ∧ (∃ i32, cell hb29 ((a26).add 1) = some (.int .i64 i32) ∧ (∃ s33, cell hb29 ((a26).add 2) = some (S s33) ∧ (newx hb29 #[(.int .i64 i31), (.int .i64 i32), (S s33)] 28 fun a34 h35 => SemH Tryd.prog (Builtin.append_ #[24, 24] 24 ⟨[(.slice s30b s30n s30c), (.slice (some a34) 1 1)]⟩) h35 fun v36 h37 => vSlice v36 fun s38b s38n s38c => stL x3 [(.slice s38b s38n s38c)] 0 h37 fun h39 => Kc hb29 h39))))
abbrev n7 (x3 : Addr) (x6 : Value) (ds : List Deferred) (Kn : T3) (Ke0 : T3) (Kr : T0) (h : H) : Prop := Ranges Tryd.prog x6 1 h (fun l40 Mid Kc Fin h1 => uncons l40 fun e41 l42 => vAgg e41 fun l43 => uncons l43 fun e44 l45 => vInt .i64 e44 fun i46 => uncons l45 fun e47 l48 => vInt .i64 e47 fun i49 => uncons l48 fun e50 l51 => vStr e50 fun s52 => unnil l51 (unnil l42 (n7_rd x3 x6 ds Kn Ke0 Kr h i46 i49 s52 Mid Kc Fin h1))) (fun h4 => Kn x3 (markD h.size :: ds) h4)
theorem n7_ok (x3 : Addr) (x6 : Value) (ds : List Deferred) (Kn : T3) (Ke0 : T3) (Kr : T0) (g : Env) (hg : E4 g x3 x6 ds) (h : H) (hS : n7 x3 x6 ds Kn Ke0 Kr h) : wpC none Tryd.prog 13 n6_c1 (Q2 Kn Ke0 Kr) g h := by
  obtain ⟨hg3, hg6, hds⟩ := hg
  subst hds
  have ho : (((⟨g.v, g.ds⟩ : Env).upd (some 3) (.pointer (some x3))).upd (some 6) x6 : Env) = g := by rw [env_ds rfl, upd_self hg3, upd_self hg6]
  have hc : n6_c1 = .rangeFunc (.tmp 6) #[7] n7_c1 n7_c2 := by kernel_rfl
  rw [hc]
  refine wpC_range (f := x6) (rd := (fun l40 Mid Kc Fin h1 => uncons l40 fun e41 l42 => vAgg e41 fun l43 => uncons l43 fun e44 l45 => vInt .i64 e44 fun i46 => uncons l45 fun e47 l48 => vInt .i64 e47 fun i49 => uncons l48 fun e50 l51 => vStr e50 fun s52 => unnil l51 (unnil l42 (n7_rd x3 x6 g.ds Kn Ke0 Kr h i46 i49 s52 Mid Kc Fin h1)))) (done := (fun h4 => Kn x3 (markD h.size :: g.ds) h4)) ?_ hS ?_ ?_
  · rw [← ho]; kernel_rfl
  · intro h4 hd
    have e : (Kn x3 (markD h.size :: g.ds) h4) = (Q2 Kn Ke0 Kr) .normal ⟨(((⟨g.v, g.ds⟩ : Env).upd (some 3) (.pointer (some x3))).upd (some 6) x6).v, markD h.size :: g.ds⟩ h4 := by kernel_rfl
    rw [ho] at e
    exact e ▸ hd
  · intro L x Mid Kc Fin h1 hM hx
    obtain ⟨u53, l54, rfl, q55⟩ := uncons_ok hx
    obtain ⟨l56, rfl, q57⟩ := vAgg_ok q55
    obtain ⟨u58, l59, rfl, q60⟩ := uncons_ok q57
    obtain ⟨y61, rfl, q62⟩ := vInt_ok q60
    obtain ⟨u63, l64, rfl, q65⟩ := uncons_ok q62
    obtain ⟨y66, rfl, q67⟩ := vInt_ok q65
    obtain ⟨u68, l69, rfl, q70⟩ := uncons_ok q67
    obtain ⟨y71, rfl, q72⟩ := vStr_ok q70
    obtain ⟨rfl, q73⟩ := unnil_ok q72
    obtain ⟨rfl, q74⟩ := unnil_ok q73
    have e : (n7_rd x3 x6 g.ds Kn Ke0 Kr h y61 y66 y71 Mid Kc Fin h1) = wpx (some L) Tryd.prog 13 n7_c1 (thenX (fun g1 he => Mid he fun hb => wpx (some L) Tryd.prog 13 n7_c2 (rpost Kc Fin (Q2 Kn Ke0 Kr) ⟨(((⟨g.v, g.ds⟩ : Env).upd (some 3) (.pointer (some x3))).upd (some 6) x6).v, markD h.size :: g.ds⟩ hb) g1 hb) fun _ _ _ => False) (setps (((⟨g.v, g.ds⟩ : Env).upd (some 3) (.pointer (some x3))).upd (some 6) x6) [7] [(.agg ⟨[(.int .i64 y61), (.int .i64 y66), (S y71)]⟩)]) h1 := by kernel_rfl
    rw [ho] at e
    exact (wpx_ok (by kernel_rfl) _ _ _ _ (by kernel_rfl) (e ▸ q74)).mono (thenX_mono fun g1 he hm => hM he _ _ (fun hb => wpx_ok (by kernel_rfl) _ _ _ _ (by kernel_rfl)) hm)
abbrev n6 (x3 : Addr) (x6 : Value) (ds : List Deferred) (Kn : T3) (Kr : T0) (h : H) : Prop := n7 x3 x6 ds Kn Kn Kr h
theorem n6_ok (x3 : Addr) (x6 : Value) (ds : List Deferred) (Kn : T3) (Kr : T0) (g : Env) (hg : E4 g x3 x6 ds) (h : H) (hS : n6 x3 x6 ds Kn Kr h) : wpC none Tryd.prog 13 n5_c2 (Q1 Kn Kr) g h := by
  refine wpC_block' (id := 0) (x := n6_c1) (by kernel_rfl) (n7_ok x3 x6 ds Kn Kn Kr g hg h hS) ?_
  intro e g' h' hq
  cases e <;> exact hq
def Q3 (Kn : T4) (Kr : T0) : XPost
  | .normal, g, h => D4 Kn g h
  | .ret, g, h => D0 Kr g h
  | _, _, _ => False
abbrev n5 (x0 : List UInt8) (x3 : Addr) (ds : List Deferred) (Kn : T3) (Kr : T0) (h : H) : Prop :=
  HCalls Tryd.prog 10 ⟨[(S x0)]⟩ h fun v75 h76 => n6 x3 v75 ds Kn Kr h76
theorem n5_ok (x0 : List UInt8) (x3 : Addr) (ds : List Deferred) (Kn : T3) (Kr : T0) (g : Env) (hg : E2 g x0 x3 ds) (h : H) (hS : n5 x0 x3 ds Kn Kr h) : wpC none Tryd.prog 13 n3_c1 (Q1 Kn Kr) g h := by
  obtain ⟨hg0, hg3, hds⟩ := hg
  refine wpC_seq' (x := n5_c1) (y := n5_c2) (Q' := (Q3 (fun z3 z6 zds h => n6 z3 z6 zds Kn Kr h) Kr)) (by kernel_rfl) ?_ ?_
  · refine wpC_of_wpx (by kernel_rfl) (by kernel_rfl) (g' := ((⟨g.v, ds⟩ : Env).upd (some 0) (S x0)).upd (some 3) (.pointer (some x3))) (by rw [env_ds hds, upd_self hg0, upd_self hg3]) ?_
    have e : (n5 x0 x3 ds Kn Kr h) = wpx none Tryd.prog 13 n5_c1 (Q3 (fun z3 z6 zds h => n6 z3 z6 zds Kn Kr h) Kr) (((⟨g.v, ds⟩ : Env).upd (some 0) (S x0)).upd (some 3) (.pointer (some x3))) h := by kernel_rfl
    exact e ▸ hS
  · intro e g' h' hq
    cases e with
    | normal =>
      have hq : D4 (fun z3 z6 zds h => n6 z3 z6 zds Kn Kr h) g' h' := hq
      obtain ⟨y3, y6, yds, hg', hq⟩ := D4_ok hq
      exact n6_ok y3 y6 yds Kn Kr g' hg' h' hq
    | _ => exact hq
abbrev n3 (x0 : List UInt8) (x3 : Addr) (ds : List Deferred) (Kn : T0) (Kr : T0) (h : H) : Prop := n5 x0 x3 ds (fun z3 zds h => n4 z3 zds Kn Kr h) Kr h
theorem n3_ok (x0 : List UInt8) (x3 : Addr) (ds : List Deferred) (Kn : T0) (Kr : T0) (g : Env) (hg : E2 g x0 x3 ds) (h : H) (hS : n3 x0 x3 ds Kn Kr h) : wpC none Tryd.prog 13 n2_c2 (Q0 Kn Kr) g h := by
  refine wpC_seq' (x := n3_c1) (y := n3_c2) (by kernel_rfl) (n5_ok x0 x3 ds (fun z3 zds h => n4 z3 zds Kn Kr h) Kr g hg h hS) ?_
  intro e g' h' hq
  cases e with
  | normal =>
    have hq : D3 (fun z3 zds h => n4 z3 zds Kn Kr h) g' h' := hq
    obtain ⟨y3, yds, hg', hq⟩ := D3_ok hq
    exact n4_ok y3 yds Kn Kr g' hg' h' hq
  | _ => exact hq
def Q4 (Kn : T2) (Kr : T0) : XPost
  | .normal, g, h => D2 Kn g h
  | .ret, g, h => D0 Kr g h
  | _, _, _ => False
abbrev n2 (x0 : List UInt8) (ds : List Deferred) (Kn : T0) (Kr : T0) (h : H) : Prop :=
  newx h #[(.slice none 0 0)] 24 fun a77 h78 => n3 x0 a77 ds Kn Kr h78
theorem n2_ok (x0 : List UInt8) (ds : List Deferred) (Kn : T0) (Kr : T0) (g : Env) (hg : E1 g x0 ds) (h : H) (hS : n2 x0 ds Kn Kr h) : wpC none Tryd.prog 13 n1_c2 (Q0 Kn Kr) g h := by
  obtain ⟨hg0, hds⟩ := hg
  refine wpC_seq' (x := n2_c1) (y := n2_c2) (Q' := (Q4 (fun z0 z3 zds h => n3 z0 z3 zds Kn Kr h) Kr)) (by kernel_rfl) ?_ ?_
  · refine wpC_of_wpx (by kernel_rfl) (by kernel_rfl) (g' := (⟨g.v, ds⟩ : Env).upd (some 0) (S x0)) (by rw [env_ds hds, upd_self hg0]) ?_
    have e : (n2 x0 ds Kn Kr h) = wpx none Tryd.prog 13 n2_c1 (Q4 (fun z0 z3 zds h => n3 z0 z3 zds Kn Kr h) Kr) ((⟨g.v, ds⟩ : Env).upd (some 0) (S x0)) h := by kernel_rfl
    exact e ▸ hS
  · intro e g' h' hq
    cases e with
    | normal =>
      have hq : D2 (fun z0 z3 zds h => n3 z0 z3 zds Kn Kr h) g' h' := hq
      obtain ⟨y0, y3, yds, hg', hq⟩ := D2_ok hq
      exact n3_ok y0 y3 yds Kn Kr g' hg' h' hq
    | _ => exact hq
def Q5 (Kn : T1) (Kr : T0) : XPost
  | .normal, g, h => D1 Kn g h
  | .ret, g, h => D0 Kr g h
  | _, _, _ => False
abbrev n1 (x0 : List UInt8) (ds : List Deferred) (Kn : T0) (Kr : T0) (h : H) : Prop :=
  n2 x0 ds Kn Kr h
theorem n1_ok (x0 : List UInt8) (ds : List Deferred) (Kn : T0) (Kr : T0) (g : Env) (hg : E1 g x0 ds) (h : H) (hS : n1 x0 ds Kn Kr h) : wpC none Tryd.prog 13 code (Q0 Kn Kr) g h := by
  obtain ⟨hg0, hds⟩ := hg
  refine wpC_seq' (x := n1_c1) (y := n1_c2) (Q' := (Q5 (fun z0 zds h => n2 z0 zds Kn Kr h) Kr)) (by kernel_rfl) ?_ ?_
  · refine wpC_of_wpx (by kernel_rfl) (by kernel_rfl) (g' := (⟨g.v, ds⟩ : Env).upd (some 0) (S x0)) (by rw [env_ds hds, upd_self hg0]) ?_
    have e : (n1 x0 ds Kn Kr h) = wpx none Tryd.prog 13 n1_c1 (Q5 (fun z0 zds h => n2 z0 zds Kn Kr h) Kr) ((⟨g.v, ds⟩ : Env).upd (some 0) (S x0)) h := by kernel_rfl
    exact e ▸ hS
  · intro e g' h' hq
    cases e with
    | normal =>
      have hq : D1 (fun z0 zds h => n2 z0 zds Kn Kr h) g' h' := hq
      obtain ⟨y0, yds, hg', hq⟩ := D1_ok hq
      exact n2_ok y0 yds Kn Kr g' hg' h' hq
    | _ => exact hq
/-- WHAT tympan/auto.Find ASKS -/
abbrev asks (x0 : List UInt8) (K : Value → H → Prop) (h : H) : Prop := n1 x0 [] (fun y2b y2n y2c ds h => leaveX ds h fun h => K (.slice y2b y2n y2c) h) (fun y2b y2n y2c ds h => leaveX ds h fun h => K (.slice y2b y2n y2c) h) h
theorem ok (x0 : List UInt8) (K : Value → H → Prop) (h : H) (hS : asks x0 K h) : HCalls Tryd.prog 6 ⟨[(S x0)]⟩ h K := by
  refine calls_of_wpC (c := code) Tryd.func6 (by kernel_rfl) (Nat.le_of_ble_eq_true (by kernel_rfl)) ?_
  refine (n1_ok x0 [] (fun y2b y2n y2c ds h => leaveX ds h fun h => K (.slice y2b y2n y2c) h) (fun y2b y2n y2c ds h => leaveX ds h fun h => K (.slice y2b y2n y2c) h) (env0 [(S x0)]) ⟨rfl, rfl⟩ h hS).mono ?_
  intro e g' h' hq
  cases e with
  | normal =>
    have hq : D0 (fun y2b y2n y2c ds h => leaveX ds h fun h => K (.slice y2b y2n y2c) h) g' h' := hq
    obtain ⟨y2b, y2n, y2c, ds, ⟨hg2, hd⟩, hq⟩ := D0_ok hq
    show leaveX g'.ds h' _
    rw [hd]
    show leaveX ds h' fun h => K (g'.v 2) h
    rw [hg2]
    exact hq
  | ret =>
    have hq : D0 (fun y2b y2n y2c ds h => leaveX ds h fun h => K (.slice y2b y2n y2c) h) g' h' := hq
    obtain ⟨y2b, y2n, y2c, ds, ⟨hg2, hd⟩, hq⟩ := D0_ok hq
    show leaveX g'.ds h' _
    rw [hd]
    show leaveX ds h' fun h => K (g'.v 2) h
    rw [hg2]
    exact hq
  | _ => exact hq
end Sx.auto_Find

/-! ### tympan/class.Letter -/
namespace Sx.class_Letter
noncomputable def code : Code := bodyOf Tryd.f64
abbrev T0 := Bool → H → Prop
def E0 (g : Env) (x2 : Bool) : Prop := g.v 2 = (.bool x2) ∧ g.ds = []
def D0 (K : T0) (g : Env) (h : H) : Prop := nilDs g.ds (vBool (g.v 2) fun b1 => K b1 h)
theorem D0_ok {K : T0} {g : Env} {h : H} (hq : D0 K g h) : ∃ (x2 : Bool), E0 g x2 ∧ K x2 h := by
  obtain ⟨hd, hq⟩ := nilDs_ok hq
  obtain ⟨y3, e2, q4⟩ := vBool_ok hq
  exact ⟨y3, ⟨e2, hd⟩, q4⟩
def Q0 (Kn : T0) (Kr : T0) : XPost
  | .normal, g, h => D0 Kn g h
  | .ret, g, h => D0 Kr g h
  | _, _, _ => False
abbrev T1 := Int → H → Prop
def E1 (g : Env) (x0 : Int) : Prop := g.v 0 = (.int .u8 x0) ∧ g.ds = []
def D1 (K : T1) (g : Env) (h : H) : Prop := nilDs g.ds (vInt .u8 (g.v 0) fun i5 => K i5 h)
theorem D1_ok {K : T1} {g : Env} {h : H} (hq : D1 K g h) : ∃ (x0 : Int), E1 g x0 ∧ K x0 h := by
  obtain ⟨hd, hq⟩ := nilDs_ok hq
  obtain ⟨y7, e6, q8⟩ := vInt_ok hq
  exact ⟨y7, ⟨e6, hd⟩, q8⟩
abbrev n1 (x0 : Int) (Kn : T0) (Kr : T0) (h : H) : Prop :=
  Spl ((bits .or .u8 x0 (32 : Int)) ≥ (97 : Int)) (Spl ((bits .or .u8 x0 (32 : Int)) ≤ (122 : Int)) (Kr true h) (Kr false h)) (Kr false h)
theorem n1_ok (x0 : Int) (Kn : T0) (Kr : T0) (g : Env) (hg : E1 g x0) (h : H) (hS : n1 x0 Kn Kr h) : wpC none Tryd.prog 11 code (Q0 Kn Kr) g h := by
  obtain ⟨hg0, hds⟩ := hg
  refine wpC_of_wpx (by kernel_rfl) (by kernel_rfl) (g' := (⟨g.v, []⟩ : Env).upd (some 0) (.int .u8 x0)) (by rw [env_ds hds, upd_self hg0]) ?_
  have e : (n1 x0 Kn Kr h) = wpx none Tryd.prog 11 code (Q0 Kn Kr) ((⟨g.v, []⟩ : Env).upd (some 0) (.int .u8 x0)) h := by kernel_rfl
  exact e ▸ hS
/-- WHAT tympan/class.Letter ASKS -/
abbrev asks (x0 : Int) (K : Value → H → Prop) (h : H) : Prop := n1 x0 (fun y2 h => K (.bool y2) h) (fun y2 h => K (.bool y2) h) h
theorem ok (x0 : Int) (K : Value → H → Prop) (h : H) (hS : asks x0 K h) : HCalls Tryd.prog 64 ⟨[(.int .u8 x0)]⟩ h K := by
  refine calls_of_wpC (c := code) Tryd.func64 (by kernel_rfl) (Nat.le_of_ble_eq_true (by kernel_rfl)) ?_
  refine (n1_ok x0 (fun y2 h => K (.bool y2) h) (fun y2 h => K (.bool y2) h) (env0 [(.int .u8 x0)]) ⟨rfl, rfl⟩ h hS).mono ?_
  intro e g' h' hq
  cases e with
  | normal =>
    have hq : D0 (fun y2 h => K (.bool y2) h) g' h' := hq
    obtain ⟨y2, ⟨hg2, hd⟩, hq⟩ := D0_ok hq
    show leaveX g'.ds h' _
    rw [hd]
    show K (g'.v 2) h'
    rw [hg2]
    exact hq
  | ret =>
    have hq : D0 (fun y2 h => K (.bool y2) h) g' h' := hq
    obtain ⟨y2, ⟨hg2, hd⟩, hq⟩ := D0_ok hq
    show leaveX g'.ds h' _
    rw [hd]
    show K (g'.v 2) h'
    rw [hg2]
    exact hq
  | _ => exact hq
end Sx.class_Letter

/-! ### tympan/class.Digit -/
namespace Sx.class_Digit
noncomputable def code : Code := bodyOf Tryd.f65
abbrev T0 := Bool → H → Prop
def E0 (g : Env) (x2 : Bool) : Prop := g.v 2 = (.bool x2) ∧ g.ds = []
def D0 (K : T0) (g : Env) (h : H) : Prop := nilDs g.ds (vBool (g.v 2) fun b1 => K b1 h)
theorem D0_ok {K : T0} {g : Env} {h : H} (hq : D0 K g h) : ∃ (x2 : Bool), E0 g x2 ∧ K x2 h := by
  obtain ⟨hd, hq⟩ := nilDs_ok hq
  obtain ⟨y3, e2, q4⟩ := vBool_ok hq
  exact ⟨y3, ⟨e2, hd⟩, q4⟩
def Q0 (Kn : T0) (Kr : T0) : XPost
  | .normal, g, h => D0 Kn g h
  | .ret, g, h => D0 Kr g h
  | _, _, _ => False
abbrev T1 := Int → H → Prop
def E1 (g : Env) (x0 : Int) : Prop := g.v 0 = (.int .u8 x0) ∧ g.ds = []
def D1 (K : T1) (g : Env) (h : H) : Prop := nilDs g.ds (vInt .u8 (g.v 0) fun i5 => K i5 h)
theorem D1_ok {K : T1} {g : Env} {h : H} (hq : D1 K g h) : ∃ (x0 : Int), E1 g x0 ∧ K x0 h := by
  obtain ⟨hd, hq⟩ := nilDs_ok hq
  obtain ⟨y7, e6, q8⟩ := vInt_ok hq
  exact ⟨y7, ⟨e6, hd⟩, q8⟩
abbrev n1 (x0 : Int) (Kn : T0) (Kr : T0) (h : H) : Prop :=
  Spl ((IntKind.wrap .u8 (x0 - (48 : Int))) < (10 : Int)) (Kr true h) (Kr false h)
theorem n1_ok (x0 : Int) (Kn : T0) (Kr : T0) (g : Env) (hg : E1 g x0) (h : H) (hS : n1 x0 Kn Kr h) : wpC none Tryd.prog 6 code (Q0 Kn Kr) g h := by
  obtain ⟨hg0, hds⟩ := hg
  refine wpC_of_wpx (by kernel_rfl) (by kernel_rfl) (g' := (⟨g.v, []⟩ : Env).upd (some 0) (.int .u8 x0)) (by rw [env_ds hds, upd_self hg0]) ?_
  have e : (n1 x0 Kn Kr h) = wpx none Tryd.prog 6 code (Q0 Kn Kr) ((⟨g.v, []⟩ : Env).upd (some 0) (.int .u8 x0)) h := by kernel_rfl
  exact e ▸ hS
/-- WHAT tympan/class.Digit ASKS -/
abbrev asks (x0 : Int) (K : Value → H → Prop) (h : H) : Prop := n1 x0 (fun y2 h => K (.bool y2) h) (fun y2 h => K (.bool y2) h) h
theorem ok (x0 : Int) (K : Value → H → Prop) (h : H) (hS : asks x0 K h) : HCalls Tryd.prog 65 ⟨[(.int .u8 x0)]⟩ h K := by
  refine calls_of_wpC (c := code) Tryd.func65 (by kernel_rfl) (Nat.le_of_ble_eq_true (by kernel_rfl)) ?_
  refine (n1_ok x0 (fun y2 h => K (.bool y2) h) (fun y2 h => K (.bool y2) h) (env0 [(.int .u8 x0)]) ⟨rfl, rfl⟩ h hS).mono ?_
  intro e g' h' hq
  cases e with
  | normal =>
    have hq : D0 (fun y2 h => K (.bool y2) h) g' h' := hq
    obtain ⟨y2, ⟨hg2, hd⟩, hq⟩ := D0_ok hq
    show leaveX g'.ds h' _
    rw [hd]
    show K (g'.v 2) h'
    rw [hg2]
    exact hq
  | ret =>
    have hq : D0 (fun y2 h => K (.bool y2) h) g' h' := hq
    obtain ⟨y2, ⟨hg2, hd⟩, hq⟩ := D0_ok hq
    show leaveX g'.ds h' _
    rw [hd]
    show K (g'.v 2) h'
    rw [hg2]
    exact hq
  | _ => exact hq
end Sx.class_Digit
end Go.Proofs
