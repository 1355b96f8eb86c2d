/- The shallow forms of functions, printed by sh.py out of the translation; each with its proof. No condition. -/
import Derived.Test.YtodponooeepilaaDoorShJ
import Derived.Test.YtodponooeepilaaDoorProg
namespace Go.Proofs
open Go Go.Sh
set_option linter.unusedVariables false
set_option maxRecDepth 100000

/-! ### tympan/tympanlaw01.UtfTexts -/
namespace Sx.l01_UtfTexts
noncomputable def code : Code := bodyOf Tryd.f3
abbrev T0 := Bool → H → Prop
def E0 (g : Env) (x2 : Bool) : Prop := g.v 2 = (.bool x2) ∧ g.ds = []
def D0 (K : T0) (g : Env) (h : H) : Prop := nilDs g.ds (vBool (g.v 2) fun b1 => K b1 h)
theorem D0_ok {K : T0} {g : Env} {h : H} (hq : D0 K g h) : ∃ (x2 : Bool), E0 g x2 ∧ K x2 h := by
  obtain ⟨hd, hq⟩ := nilDs_ok hq
  obtain ⟨y3, e2, q4⟩ := vBool_ok hq
  exact ⟨y3, ⟨e2, hd⟩, q4⟩
def Q0 (Kn : T0) (Kr : T0) : XPost
  | .normal, g, h => D0 Kn g h
  | .ret, g, h => D0 Kr g h
  | _, _, _ => False
abbrev T1 := (Option Addr) → Nat → Nat → H → Prop
def E1 (g : Env) (x0b : Option Addr) (x0n : Nat) (x0c : Nat) : Prop := g.v 0 = (.slice x0b x0n x0c) ∧ g.ds = []
def D1 (K : T1) (g : Env) (h : H) : Prop := nilDs g.ds (vSlice (g.v 0) fun s5b s5n s5c => K s5b s5n s5c h)
theorem D1_ok {K : T1} {g : Env} {h : H} (hq : D1 K g h) : ∃ (x0b : Option Addr) (x0n : Nat) (x0c : Nat), E1 g x0b x0n x0c ∧ K x0b x0n x0c h := by
  obtain ⟨hd, hq⟩ := nilDs_ok hq
  obtain ⟨y7b, y7n, y7c, e6, q8⟩ := vSlice_ok hq
  exact ⟨y7b, y7n, y7c, ⟨e6, hd⟩, q8⟩
abbrev n1 (x0b : Option Addr) (x0n : Nat) (x0c : Nat) (Kn : T0) (Kr : T0) (h : H) : Prop :=
  Spl ((x0n : Int) > (20000 : Int)) (Kr true h) (SemH Tryd.prog (Builtin.append_ #[22, 22] 22 ⟨[(.slice none 0 0), (.slice x0b x0n x0c)]⟩) h fun v9 h10 => vSlice v9 fun s11b s11n s11c => HCalls Tryd.prog 10 ⟨[(.slice s11b s11n s11c)]⟩ h10 fun v12 h13 => vStr v12 fun s14 => HCalls Tryd.prog 11 ⟨[]⟩ h13 fun v15 h16 => vBool v15 fun b17 => cond b17 (HCalls Tryd.prog 12 ⟨[(.slice x0b x0n x0c)]⟩ h16 fun v18 h19 => vStr v18 fun s20 => Spl (s14 = s20) (HCalls Tryd.prog 13 ⟨[(.slice s11b s11n s11c), (.slice x0b x0n x0c)]⟩ h19 fun v21 h22 => vBool v21 fun b23 => cond b23 (Kr true h22) (Kr false h22)) (Kr false h19)) (Kr false h16))
theorem n1_ok (x0b : Option Addr) (x0n : Nat) (x0c : Nat) (Kn : T0) (Kr : T0) (g : Env) (hg : E1 g x0b x0n x0c) (h : H) (hS : n1 x0b x0n x0c Kn Kr h) : wpC none Tryd.prog 25 code (Q0 Kn Kr) g h := by
  obtain ⟨hg0, hds⟩ := hg
  refine wpC_of_wpx (by kernel_rfl) (by kernel_rfl) (g' := (⟨g.v, []⟩ : Env).upd (some 0) (.slice x0b x0n x0c)) (by rw [env_ds hds, upd_self hg0]) ?_
  have e : (n1 x0b x0n x0c Kn Kr h) = wpx none Tryd.prog 25 code (Q0 Kn Kr) ((⟨g.v, []⟩ : Env).upd (some 0) (.slice x0b x0n x0c)) h := by kernel_rfl
  exact e ▸ hS
/-- WHAT tympan/tympanlaw01.UtfTexts ASKS -/
abbrev asks (x0b : Option Addr) (x0n : Nat) (x0c : Nat) (K : Value → H → Prop) (h : H) : Prop := n1 x0b x0n x0c (fun y2 h => K (.bool y2) h) (fun y2 h => K (.bool y2) h) h
theorem ok (x0b : Option Addr) (x0n : Nat) (x0c : Nat) (K : Value → H → Prop) (h : H) (hS : asks x0b x0n x0c K h) : HCalls Tryd.prog 3 ⟨[(.slice x0b x0n x0c)]⟩ h K := by
  refine calls_of_wpC (c := code) Tryd.func3 (by kernel_rfl) (Nat.le_of_ble_eq_true (by kernel_rfl)) ?_
  refine (n1_ok x0b x0n x0c (fun y2 h => K (.bool y2) h) (fun y2 h => K (.bool y2) h) (env0 [(.slice x0b x0n x0c)]) ⟨rfl, rfl⟩ h hS).mono ?_
  intro e g' h' hq
  cases e with
  | normal =>
    have hq : D0 (fun y2 h => K (.bool y2) h) g' h' := hq
    obtain ⟨y2, ⟨hg2, hd⟩, hq⟩ := D0_ok hq
    show leaveX g'.ds h' _
    rw [hd]
    show K (g'.v 2) h'
    rw [hg2]
    exact hq
  | ret =>
    have hq : D0 (fun y2 h => K (.bool y2) h) g' h' := hq
    obtain ⟨y2, ⟨hg2, hd⟩, hq⟩ := D0_ok hq
    show leaveX g'.ds h' _
    rw [hd]
    show K (g'.v 2) h'
    rw [hg2]
    exact hq
  | _ => exact hq
end Sx.l01_UtfTexts

/-! ### tympan/tympanlaw01.UtfRight -/
namespace Sx.l01_UtfRight
noncomputable def code : Code := bodyOf Tryd.f4
abbrev T0 := Bool → H → Prop
def E0 (g : Env) (x2 : Bool) : Prop := g.v 2 = (.bool x2) ∧ g.ds = []
def D0 (K : T0) (g : Env) (h : H) : Prop := nilDs g.ds (vBool (g.v 2) fun b1 => K b1 h)
theorem D0_ok {K : T0} {g : Env} {h : H} (hq : D0 K g h) : ∃ (x2 : Bool), E0 g x2 ∧ K x2 h := by
  obtain ⟨hd, hq⟩ := nilDs_ok hq
  obtain ⟨y3, e2, q4⟩ := vBool_ok hq
  exact ⟨y3, ⟨e2, hd⟩, q4⟩
def Q0 (Kn : T0) (Kr : T0) : XPost
  | .normal, g, h => D0 Kn g h
  | .ret, g, h => D0 Kr g h
  | _, _, _ => False
abbrev T1 := (List UInt8) → H → Prop
def E1 (g : Env) (x0 : List UInt8) : Prop := g.v 0 = (S x0) ∧ g.ds = []
def D1 (K : T1) (g : Env) (h : H) : Prop := nilDs g.ds (vStr (g.v 0) fun s5 => K s5 h)
theorem D1_ok {K : T1} {g : Env} {h : H} (hq : D1 K g h) : ∃ (x0 : List UInt8), E1 g x0 ∧ K x0 h := by
  obtain ⟨hd, hq⟩ := nilDs_ok hq
  obtain ⟨y7, e6, q8⟩ := vStr_ok hq
  exact ⟨y7, ⟨e6, hd⟩, q8⟩
abbrev n1 (x0 : List UInt8) (Kn : T0) (Kr : T0) (h : H) : Prop :=
  Spl ((x0.length : Int) > (20000 : Int)) (Kr true h) (HCalls Tryd.prog 11 ⟨[]⟩ h fun v9 h10 => vBool v9 fun b11 => cond b11 (HCalls Tryd.prog 14 ⟨[(S x0)]⟩ h10 fun v12 h13 => vBool v12 fun b14 => cond b14 (HCalls Tryd.prog 15 ⟨[(S x0)]⟩ h13 fun v15 h16 => vBool v15 fun b17 => cond b17 (Kr true h16) (Kr false h16)) (HCalls Tryd.prog 15 ⟨[(S x0)]⟩ h13 fun v18 h19 => vBool v18 fun b20 => cond b20 (Kr false h19) (Kr true h19))) (Kr false h10))
theorem n1_ok (x0 : List UInt8) (Kn : T0) (Kr : T0) (g : Env) (hg : E1 g x0) (h : H) (hS : n1 x0 Kn Kr h) : wpC none Tryd.prog 16 code (Q0 Kn Kr) g h := by
  obtain ⟨hg0, hds⟩ := hg
  refine wpC_of_wpx (by kernel_rfl) (by kernel_rfl) (g' := (⟨g.v, []⟩ : Env).upd (some 0) (S x0)) (by rw [env_ds hds, upd_self hg0]) ?_
  have e : (n1 x0 Kn Kr h) = wpx none Tryd.prog 16 code (Q0 Kn Kr) ((⟨g.v, []⟩ : Env).upd (some 0) (S x0)) h := by kernel_rfl
  exact e ▸ hS
/-- WHAT tympan/tympanlaw01.UtfRight ASKS -/
abbrev asks (x0 : List UInt8) (K : Value → H → Prop) (h : H) : Prop := n1 x0 (fun y2 h => K (.bool y2) h) (fun y2 h => K (.bool y2) h) h
theorem ok (x0 : List UInt8) (K : Value → H → Prop) (h : H) (hS : asks x0 K h) : HCalls Tryd.prog 4 ⟨[(S x0)]⟩ h K := by
  refine calls_of_wpC (c := code) Tryd.func4 (by kernel_rfl) (Nat.le_of_ble_eq_true (by kernel_rfl)) ?_
  refine (n1_ok x0 (fun y2 h => K (.bool y2) h) (fun y2 h => K (.bool y2) h) (env0 [(S x0)]) ⟨rfl, rfl⟩ h hS).mono ?_
  intro e g' h' hq
  cases e with
  | normal =>
    have hq : D0 (fun y2 h => K (.bool y2) h) g' h' := hq
    obtain ⟨y2, ⟨hg2, hd⟩, hq⟩ := D0_ok hq
    show leaveX g'.ds h' _
    rw [hd]
    show K (g'.v 2) h'
    rw [hg2]
    exact hq
  | ret =>
    have hq : D0 (fun y2 h => K (.bool y2) h) g' h' := hq
    obtain ⟨y2, ⟨hg2, hd⟩, hq⟩ := D0_ok hq
    show leaveX g'.ds h' _
    rw [hd]
    show K (g'.v 2) h'
    rw [hg2]
    exact hq
  | _ => exact hq
end Sx.l01_UtfRight

/-! ### tympan/tympanlaw01.UtfLines -/
namespace Sx.l01_UtfLines
noncomputable def code : Code := bodyOf Tryd.f5
abbrev T0 := Bool → H → Prop
def E0 (g : Env) (x2 : Bool) : Prop := g.v 2 = (.bool x2) ∧ g.ds = []
def D0 (K : T0) (g : Env) (h : H) : Prop := nilDs g.ds (vBool (g.v 2) fun b1 => K b1 h)
theorem D0_ok {K : T0} {g : Env} {h : H} (hq : D0 K g h) : ∃ (x2 : Bool), E0 g x2 ∧ K x2 h := by
  obtain ⟨hd, hq⟩ := nilDs_ok hq
  obtain ⟨y3, e2, q4⟩ := vBool_ok hq
  exact ⟨y3, ⟨e2, hd⟩, q4⟩
def Q0 (Kn : T0) (Kr : T0) : XPost
  | .normal, g, h => D0 Kn g h
  | .ret, g, h => D0 Kr g h
  | _, _, _ => False
abbrev T1 := (List UInt8) → H → Prop
def E1 (g : Env) (x0 : List UInt8) : Prop := g.v 0 = (S x0) ∧ g.ds = []
def D1 (K : T1) (g : Env) (h : H) : Prop := nilDs g.ds (vStr (g.v 0) fun s5 => K s5 h)
theorem D1_ok {K : T1} {g : Env} {h : H} (hq : D1 K g h) : ∃ (x0 : List UInt8), E1 g x0 ∧ K x0 h := by
  obtain ⟨hd, hq⟩ := nilDs_ok hq
  obtain ⟨y7, e6, q8⟩ := vStr_ok hq
  exact ⟨y7, ⟨e6, hd⟩, q8⟩
abbrev n1 (x0 : List UInt8) (Kn : T0) (Kr : T0) (h : H) : Prop :=
  Spl ((x0.length : Int) > (20000 : Int)) (Kr true h) (HCalls Tryd.prog 11 ⟨[]⟩ h fun v9 h10 => vBool v9 fun b11 => cond b11 (HCalls Tryd.prog 16 ⟨[(S x0)]⟩ h10 fun v12 h13 => vStr v12 fun s14 => HCalls Tryd.prog 17 ⟨[(S x0)]⟩ h13 fun v15 h16 => vStr v15 fun s17 => Spl (s14 = s17) (HCalls Tryd.prog 19 ⟨[(S x0)]⟩ h16 fun v18 h19 => vSlice v18 fun s20b s20n s20c => HCalls Tryd.prog 20 ⟨[(S x0)]⟩ h19 fun v21 h22 => vSlice v21 fun s23b s23n s23c => HCalls Tryd.prog 18 ⟨[(.slice s20b s20n s20c), (.slice s23b s23n s23c)]⟩ h22 fun v24 h25 => vBool v24 fun b26 => cond b26 (Kr true h25) (Kr false h25)) (Kr false h16)) (Kr false h10))
theorem n1_ok (x0 : List UInt8) (Kn : T0) (Kr : T0) (g : Env) (hg : E1 g x0) (h : H) (hS : n1 x0 Kn Kr h) : wpC none Tryd.prog 21 code (Q0 Kn Kr) g h := by
  obtain ⟨hg0, hds⟩ := hg
  refine wpC_of_wpx (by kernel_rfl) (by kernel_rfl) (g' := (⟨g.v, []⟩ : Env).upd (some 0) (S x0)) (by rw [env_ds hds, upd_self hg0]) ?_
  have e : (n1 x0 Kn Kr h) = wpx none Tryd.prog 21 code (Q0 Kn Kr) ((⟨g.v, []⟩ : Env).upd (some 0) (S x0)) h := by kernel_rfl
  exact e ▸ hS
/-- WHAT tympan/tympanlaw01.UtfLines ASKS -/
abbrev asks (x0 : List UInt8) (K : Value → H → Prop) (h : H) : Prop := n1 x0 (fun y2 h => K (.bool y2) h) (fun y2 h => K (.bool y2) h) h
theorem ok (x0 : List UInt8) (K : Value → H → Prop) (h : H) (hS : asks x0 K h) : HCalls Tryd.prog 5 ⟨[(S x0)]⟩ h K := by
  refine calls_of_wpC (c := code) Tryd.func5 (by kernel_rfl) (Nat.le_of_ble_eq_true (by kernel_rfl)) ?_
  refine (n1_ok x0 (fun y2 h => K (.bool y2) h) (fun y2 h => K (.bool y2) h) (env0 [(S x0)]) ⟨rfl, rfl⟩ h hS).mono ?_
  intro e g' h' hq
  cases e with
  | normal =>
    have hq : D0 (fun y2 h => K (.bool y2) h) g' h' := hq
    obtain ⟨y2, ⟨hg2, hd⟩, hq⟩ := D0_ok hq
    show leaveX g'.ds h' _
    rw [hd]
    show K (g'.v 2) h'
    rw [hg2]
    exact hq
  | ret =>
    have hq : D0 (fun y2 h => K (.bool y2) h) g' h' := hq
    obtain ⟨y2, ⟨hg2, hd⟩, hq⟩ := D0_ok hq
    show leaveX g'.ds h' _
    rw [hd]
    show K (g'.v 2) h'
    rw [hg2]
    exact hq
  | _ => exact hq
end Sx.l01_UtfLines

/-! ### tympan/tympanlaw01.UtfStays -/
namespace Sx.l01_UtfStays
noncomputable def code : Code := bodyOf Tryd.f6
abbrev T0 := Bool → H → Prop
def E0 (g : Env) (x4 : Bool) : Prop := g.v 4 = (.bool x4) ∧ g.ds = []
def D0 (K : T0) (g : Env) (h : H) : Prop := nilDs g.ds (vBool (g.v 4) fun b1 => K b1 h)
theorem D0_ok {K : T0} {g : Env} {h : H} (hq : D0 K g h) : ∃ (x4 : Bool), E0 g x4 ∧ K x4 h := by
  obtain ⟨hd, hq⟩ := nilDs_ok hq
  obtain ⟨y3, e2, q4⟩ := vBool_ok hq
  exact ⟨y3, ⟨e2, hd⟩, q4⟩
def Q0 (Kn : T0) (Kr : T0) : XPost
  | .normal, g, h => D0 Kn g h
  | .ret, g, h => D0 Kr g h
  | _, _, _ => False
abbrev T1 := (Option Addr) → Nat → Nat → (Option Addr) → Nat → Nat → H → Prop
def E1 (g : Env) (x0b : Option Addr) (x0n : Nat) (x0c : Nat) (x1b : Option Addr) (x1n : Nat) (x1c : Nat) : Prop := g.v 0 = (.slice x0b x0n x0c) ∧ g.v 1 = (.slice x1b x1n x1c) ∧ g.ds = []
def D1 (K : T1) (g : Env) (h : H) : Prop := nilDs g.ds (vSlice (g.v 0) fun s5b s5n s5c => vSlice (g.v 1) fun s6b s6n s6c => K s5b s5n s5c s6b s6n s6c h)
theorem D1_ok {K : T1} {g : Env} {h : H} (hq : D1 K g h) : ∃ (x0b : Option Addr) (x0n : Nat) (x0c : Nat) (x1b : Option Addr) (x1n : Nat) (x1c : Nat), E1 g x0b x0n x0c x1b x1n x1c ∧ K x0b x0n x0c x1b x1n x1c h := by
  obtain ⟨hd, hq⟩ := nilDs_ok hq
  obtain ⟨y8b, y8n, y8c, e7, q9⟩ := vSlice_ok hq
  obtain ⟨y11b, y11n, y11c, e10, q12⟩ := vSlice_ok q9
  exact ⟨y8b, y8n, y8c, y11b, y11n, y11c, ⟨e7, e10, hd⟩, q12⟩
abbrev n1 (x0b : Option Addr) (x0n : Nat) (x0c : Nat) (x1b : Option Addr) (x1n : Nat) (x1c : Nat) (Kn : T0) (Kr : T0) (h : H) : Prop :=
  Spl ((x0n : Int) > (20000 : Int)) (HCalls Tryd.prog 11 ⟨[]⟩ h fun v13 h14 => vBool v13 fun b15 => cond b15 (Kr true h14) (Kr false h14)) (Spl ((x1n : Int) > (20000 : Int)) (HCalls Tryd.prog 11 ⟨[]⟩ h fun v16 h17 => vBool v16 fun b18 => cond b18 (Kr true h17) (Kr false h17)) (HCalls Tryd.prog 11 ⟨[]⟩ h fun v19 h20 => vBool v19 fun b21 => cond b21 (HCalls Tryd.prog 10 ⟨[(.slice x0b x0n x0c)]⟩ h20 fun v22 h23 => vStr v22 fun s24 => ((([97] : List UInt8).length + s24.length : Nat) : Int) ≤ 9223372036854775807 ∧ (SemH Tryd.prog (convert 9 22 (S (([97] : List UInt8) ++ s24))) h23 fun v25 h26 => vSlice v25 fun s27b s27n s27c => HCalls Tryd.prog 10 ⟨[(.slice s27b s27n s27c)]⟩ h26 fun v28 h29 => vStr v28 fun s30 => ((([97] : List UInt8).length + s24.length : Nat) : Int) ≤ 9223372036854775807 ∧ ((((([97] : List UInt8) ++ s24).length + ([98] : List UInt8).length : Nat) : Int) ≤ 9223372036854775807 ∧ (SemH Tryd.prog (Builtin.append_ #[22, 9] 22 ⟨[(.slice none 0 0), (S ((([97] : List UInt8) ++ s24) ++ ([98] : List UInt8)))]⟩) h29 fun v31 h32 => vSlice v31 fun s33b s33n s33c => SemH Tryd.prog (Builtin.append_ #[22, 22] 22 ⟨[(.slice s33b s33n s33c), (.slice x1b x1n x1c)]⟩) h32 fun v34 h35 => vSlice v34 fun s36b s36n s36c => newx h35 #[(.int .u8 (98 : Int))] 5 fun a37 h38 => SemH Tryd.prog (convert 22 22 (.slice (some a37) 1 1)) h38 fun v39 h40 => vSlice v39 fun s41b s41n s41c => SemH Tryd.prog (Builtin.append_ #[22, 22] 22 ⟨[(.slice s41b s41n s41c), (.slice x1b x1n x1c)]⟩) h40 fun v42 h43 => vSlice v42 fun s44b s44n s44c => HCalls Tryd.prog 10 ⟨[(.slice s44b s44n s44c)]⟩ h43 fun v45 h46 => vStr v45 fun s47 => HCalls Tryd.prog 14 ⟨[(S s24)]⟩ h46 fun v48 h49 => vBool v48 fun b50 => cond b50 (((([97] : List UInt8).length + s24.length : Nat) : Int) ≤ 9223372036854775807 ∧ (Spl (s30 = (([97] : List UInt8) ++ s24)) (HCalls Tryd.prog 10 ⟨[(.slice s36b s36n s36c)]⟩ h49 fun v51 h52 => vStr v51 fun s53 => ((([97] : List UInt8).length + s24.length : Nat) : Int) ≤ 9223372036854775807 ∧ ((((([97] : List UInt8) ++ s24).length + s47.length : Nat) : Int) ≤ 9223372036854775807 ∧ (Spl (s53 = ((([97] : List UInt8) ++ s24) ++ s47)) (Kr true h52) (Kr false h52)))) (Kr false h49))) (Kr false h49))))) (HCalls Tryd.prog 11 ⟨[]⟩ h20 fun v54 h55 => vBool v54 fun b56 => cond b56 (Kr true h55) (Kr false h55))))
theorem n1_ok (x0b : Option Addr) (x0n : Nat) (x0c : Nat) (x1b : Option Addr) (x1n : Nat) (x1c : Nat) (Kn : T0) (Kr : T0) (g : Env) (hg : E1 g x0b x0n x0c x1b x1n x1c) (h : H) (hS : n1 x0b x0n x0c x1b x1n x1c Kn Kr h) : wpC none Tryd.prog 58 code (Q0 Kn Kr) g h := by
  obtain ⟨hg0, hg1, hds⟩ := hg
  refine wpC_of_wpx (by kernel_rfl) (by kernel_rfl) (g' := ((⟨g.v, []⟩ : Env).upd (some 0) (.slice x0b x0n x0c)).upd (some 1) (.slice x1b x1n x1c)) (by rw [env_ds hds, upd_self hg0, upd_self hg1]) ?_
  have e : (n1 x0b x0n x0c x1b x1n x1c Kn Kr h) = wpx none Tryd.prog 58 code (Q0 Kn Kr) (((⟨g.v, []⟩ : Env).upd (some 0) (.slice x0b x0n x0c)).upd (some 1) (.slice x1b x1n x1c)) h := by kernel_rfl
  exact e ▸ hS
/-- WHAT tympan/tympanlaw01.UtfStays ASKS -/
abbrev asks (x0b : Option Addr) (x0n : Nat) (x0c : Nat) (x1b : Option Addr) (x1n : Nat) (x1c : Nat) (K : Value → H → Prop) (h : H) : Prop := n1 x0b x0n x0c x1b x1n x1c (fun y4 h => K (.bool y4) h) (fun y4 h => K (.bool y4) h) h
theorem ok (x0b : Option Addr) (x0n : Nat) (x0c : Nat) (x1b : Option Addr) (x1n : Nat) (x1c : Nat) (K : Value → H → Prop) (h : H) (hS : asks x0b x0n x0c x1b x1n x1c K h) : HCalls Tryd.prog 6 ⟨[(.slice x0b x0n x0c), (.slice x1b x1n x1c)]⟩ h K := by
  refine calls_of_wpC (c := code) Tryd.func6 (by kernel_rfl) (Nat.le_of_ble_eq_true (by kernel_rfl)) ?_
  refine (n1_ok x0b x0n x0c x1b x1n x1c (fun y4 h => K (.bool y4) h) (fun y4 h => K (.bool y4) h) (env0 [(.slice x0b x0n x0c), (.slice x1b x1n x1c)]) ⟨rfl, rfl, rfl⟩ h hS).mono ?_
  intro e g' h' hq
  cases e with
  | normal =>
    have hq : D0 (fun y4 h => K (.bool y4) h) g' h' := hq
    obtain ⟨y4, ⟨hg4, hd⟩, hq⟩ := D0_ok hq
    show leaveX g'.ds h' _
    rw [hd]
    show K (g'.v 4) h'
    rw [hg4]
    exact hq
  | ret =>
    have hq : D0 (fun y4 h => K (.bool y4) h) g' h' := hq
    obtain ⟨y4, ⟨hg4, hd⟩, hq⟩ := D0_ok hq
    show leaveX g'.ds h' _
    rw [hd]
    show K (g'.v 4) h'
    rw [hg4]
    exact hq
  | _ => exact hq
end Sx.l01_UtfStays

/-! ### tympan/tympanlaw01.UtfEnds -/
namespace Sx.l01_UtfEnds
noncomputable def code : Code := bodyOf Tryd.f7
abbrev T0 := Bool → H → Prop
def E0 (g : Env) (x2 : Bool) : Prop := g.v 2 = (.bool x2) ∧ g.ds = []
def D0 (K : T0) (g : Env) (h : H) : Prop := nilDs g.ds (vBool (g.v 2) fun b1 => K b1 h)
theorem D0_ok {K : T0} {g : Env} {h : H} (hq : D0 K g h) : ∃ (x2 : Bool), E0 g x2 ∧ K x2 h := by
  obtain ⟨hd, hq⟩ := nilDs_ok hq
  obtain ⟨y3, e2, q4⟩ := vBool_ok hq
  exact ⟨y3, ⟨e2, hd⟩, q4⟩
def Q0 (Kn : T0) (Kr : T0) : XPost
  | .normal, g, h => D0 Kn g h
  | .ret, g, h => D0 Kr g h
  | _, _, _ => False
abbrev T1 := (List UInt8) → H → Prop
def E1 (g : Env) (x0 : List UInt8) : Prop := g.v 0 = (S x0) ∧ g.ds = []
def D1 (K : T1) (g : Env) (h : H) : Prop := nilDs g.ds (vStr (g.v 0) fun s5 => K s5 h)
theorem D1_ok {K : T1} {g : Env} {h : H} (hq : D1 K g h) : ∃ (x0 : List UInt8), E1 g x0 ∧ K x0 h := by
  obtain ⟨hd, hq⟩ := nilDs_ok hq
  obtain ⟨y7, e6, q8⟩ := vStr_ok hq
  exact ⟨y7, ⟨e6, hd⟩, q8⟩
noncomputable def n1_c1 : Code := cFst code
noncomputable def n1_c2 : Code := cSnd code
noncomputable def n2_c1 : Code := cFst n1_c2
noncomputable def n2_c2 : Code := cSnd n1_c2
noncomputable def n3_c1 : Code := cFst n2_c2
noncomputable def n3_c2 : Code := cSnd n2_c2
abbrev T2 := (List UInt8) → (List UInt8) → H → Prop
def E2 (g : Env) (x0 : List UInt8) (x3 : List UInt8) : Prop := g.v 0 = (S x0) ∧ g.v 3 = (S x3) ∧ g.ds = []
def D2 (K : T2) (g : Env) (h : H) : Prop := nilDs g.ds (vStr (g.v 0) fun s9 => vStr (g.v 3) fun s10 => K s9 s10 h)
theorem D2_ok {K : T2} {g : Env} {h : H} (hq : D2 K g h) : ∃ (x0 : List UInt8) (x3 : List UInt8), E2 g x0 x3 ∧ K x0 x3 h := by
  obtain ⟨hd, hq⟩ := nilDs_ok hq
  obtain ⟨y12, e11, q13⟩ := vStr_ok hq
  obtain ⟨y15, e14, q16⟩ := vStr_ok q13
  exact ⟨y12, y15, ⟨e11, e14, hd⟩, q16⟩
noncomputable def n4_c1 : Code := cFst n3_c2
noncomputable def n4_c2 : Code := cSnd n3_c2
abbrev T3 := (List UInt8) → (Option Addr) → Nat → Nat → H → Prop
def E3 (g : Env) (x3 : List UInt8) (x4b : Option Addr) (x4n : Nat) (x4c : Nat) : Prop := g.v 3 = (S x3) ∧ g.v 4 = (.slice x4b x4n x4c) ∧ g.ds = []
def D3 (K : T3) (g : Env) (h : H) : Prop := nilDs g.ds (vStr (g.v 3) fun s17 => vSlice (g.v 4) fun s18b s18n s18c => K s17 s18b s18n s18c h)
theorem D3_ok {K : T3} {g : Env} {h : H} (hq : D3 K g h) : ∃ (x3 : List UInt8) (x4b : Option Addr) (x4n : Nat) (x4c : Nat), E3 g x3 x4b x4n x4c ∧ K x3 x4b x4n x4c h := by
  obtain ⟨hd, hq⟩ := nilDs_ok hq
  obtain ⟨y20, e19, q21⟩ := vStr_ok hq
  obtain ⟨y23b, y23n, y23c, e22, q24⟩ := vSlice_ok q21
  exact ⟨y20, y23b, y23n, y23c, ⟨e19, e22, hd⟩, q24⟩
noncomputable def n5_c1 : Code := cFst n4_c2
noncomputable def n5_c2 : Code := cSnd n4_c2
noncomputable def n6_c1 : Code := cFst n5_c2
noncomputable def n6_c2 : Code := cSnd n5_c2
abbrev T4 := (List UInt8) → (Option Addr) → Nat → Nat → (List UInt8) → H → Prop
def E4 (g : Env) (x3 : List UInt8) (x4b : Option Addr) (x4n : Nat) (x4c : Nat) (x5 : List UInt8) : Prop := g.v 3 = (S x3) ∧ g.v 4 = (.slice x4b x4n x4c) ∧ g.v 5 = (S x5) ∧ g.ds = []
def D4 (K : T4) (g : Env) (h : H) : Prop := nilDs g.ds (vStr (g.v 3) fun s25 => vSlice (g.v 4) fun s26b s26n s26c => vStr (g.v 5) fun s27 => K s25 s26b s26n s26c s27 h)
theorem D4_ok {K : T4} {g : Env} {h : H} (hq : D4 K g h) : ∃ (x3 : List UInt8) (x4b : Option Addr) (x4n : Nat) (x4c : Nat) (x5 : List UInt8), E4 g x3 x4b x4n x4c x5 ∧ K x3 x4b x4n x4c x5 h := by
  obtain ⟨hd, hq⟩ := nilDs_ok hq
  obtain ⟨y29, e28, q30⟩ := vStr_ok hq
  obtain ⟨y32b, y32n, y32c, e31, q33⟩ := vSlice_ok q30
  obtain ⟨y35, e34, q36⟩ := vStr_ok q33
  exact ⟨y29, y32b, y32n, y32c, y35, ⟨e28, e31, e34, hd⟩, q36⟩
noncomputable def n7_c1 : Code := cFst n6_c2
noncomputable def n7_c2 : Code := cSnd n6_c2
abbrev T5 := (List UInt8) → (List UInt8) → H → Prop
def E5 (g : Env) (x3 : List UInt8) (x5 : List UInt8) : Prop := g.v 3 = (S x3) ∧ g.v 5 = (S x5) ∧ g.ds = []
def D5 (K : T5) (g : Env) (h : H) : Prop := nilDs g.ds (vStr (g.v 3) fun s37 => vStr (g.v 5) fun s38 => K s37 s38 h)
theorem D5_ok {K : T5} {g : Env} {h : H} (hq : D5 K g h) : ∃ (x3 : List UInt8) (x5 : List UInt8), E5 g x3 x5 ∧ K x3 x5 h := by
  obtain ⟨hd, hq⟩ := nilDs_ok hq
  obtain ⟨y40, e39, q41⟩ := vStr_ok hq
  obtain ⟨y43, e42, q44⟩ := vStr_ok q41
  exact ⟨y40, y43, ⟨e39, e42, hd⟩, q44⟩
abbrev n8 (x3 : List UInt8) (x5 : List UInt8) (Kn : T0) (Kr : T0) (h : H) : Prop :=
  Spl (x5 = x3) (Kr true h) (((x3.length + ([10] : List UInt8).length : Nat) : Int) ≤ 9223372036854775807 ∧ (Spl (x5 = (x3 ++ ([10] : List UInt8))) (Kr true h) (Kr false h)))
theorem n8_ok (x3 : List UInt8) (x5 : List UInt8) (Kn : T0) (Kr : T0) (g : Env) (hg : E5 g x3 x5) (h : H) (hS : n8 x3 x5 Kn Kr h) : wpC none Tryd.prog 52 n7_c2 (Q0 Kn Kr) g h := by
  obtain ⟨hg3, hg5, hds⟩ := hg
  refine wpC_of_wpx (by kernel_rfl) (by kernel_rfl) (g' := ((⟨g.v, []⟩ : Env).upd (some 3) (S x3)).upd (some 5) (S x5)) (by rw [env_ds hds, upd_self hg3, upd_self hg5]) ?_
  have e : (n8 x3 x5 Kn Kr h) = wpx none Tryd.prog 52 n7_c2 (Q0 Kn Kr) (((⟨g.v, []⟩ : Env).upd (some 3) (S x3)).upd (some 5) (S x5)) h := by kernel_rfl
  exact e ▸ hS
def Q1 (Kn : T5) (Kr : T0) : XPost
  | .normal, g, h => D5 Kn g h
  | .ret, g, h => D0 Kr g h
  | _, _, _ => False
noncomputable def n9_c1 : Code := cFst n7_c1
noncomputable def n9_c2 : Code := cSnd n7_c1
abbrev T6 := (List UInt8) → (Option Addr) → Nat → Nat → (List UInt8) → Int → H → Prop
def E6 (g : Env) (x3 : List UInt8) (x4b : Option Addr) (x4n : Nat) (x4c : Nat) (x5 : List UInt8) (x6 : Int) : Prop := g.v 3 = (S x3) ∧ g.v 4 = (.slice x4b x4n x4c) ∧ g.v 5 = (S x5) ∧ g.v 6 = (.int .i64 x6) ∧ g.ds = []
def D6 (K : T6) (g : Env) (h : H) : Prop := nilDs g.ds (vStr (g.v 3) fun s45 => vSlice (g.v 4) fun s46b s46n s46c => vStr (g.v 5) fun s47 => vInt .i64 (g.v 6) fun i48 => K s45 s46b s46n s46c s47 i48 h)
theorem D6_ok {K : T6} {g : Env} {h : H} (hq : D6 K g h) : ∃ (x3 : List UInt8) (x4b : Option Addr) (x4n : Nat) (x4c : Nat) (x5 : List UInt8) (x6 : Int), E6 g x3 x4b x4n x4c x5 x6 ∧ K x3 x4b x4n x4c x5 x6 h := by
  obtain ⟨hd, hq⟩ := nilDs_ok hq
  obtain ⟨y50, e49, q51⟩ := vStr_ok hq
  obtain ⟨y53b, y53n, y53c, e52, q54⟩ := vSlice_ok q51
  obtain ⟨y56, e55, q57⟩ := vStr_ok q54
  obtain ⟨y59, e58, q60⟩ := vInt_ok q57
  exact ⟨y50, y53b, y53n, y53c, y56, y59, ⟨e49, e52, e55, e58, hd⟩, q60⟩
noncomputable def n10_c1 : Code := cFst n9_c2
def Q2 (Kn : T5) (Ke0 : T5) (Kr : T0) : XPost
  | .normal, g, h => D5 Kn g h
  | .ret, g, h => D0 Kr g h
  | .exit id, g, h => cond (Nat.beq id 0) (D5 Ke0 g h) (False)
  | _, _, _ => False
noncomputable def n11_c1 : Code := cFst n10_c1
def Q3 (Kn : T6) (Ke0 : T5) (Kr : T0) : XPost
  | .normal, g, h => D6 Kn g h
  | .ret, g, h => D0 Kr g h
  | .exit id, g, h => cond (Nat.beq id 0) (D5 Ke0 g h) (False)
  | _, _, _ => False
def n11_L (Kn : T5) (Ke0 : T5) (Kr : T0) : Nat → (List UInt8) → (Option Addr) → Nat → Nat → (List UInt8) → Int → H → Prop
  | 0 => fun _ _ _ _ _ _ _ => False
  | N + 1 => fun x3 x4b x4n x4c x5 x6 h => Spl (x6 < (x4n : Int)) ((0 ≤ x6 ∧ x6 < (x4n : Int)) ∧ (vSome x4b fun a61 => ∃ s62, cell h (a61.add (Int.toNat x6 * 1)) = some (S s62) ∧ (((x5.length + s62.length : Nat) : Int) ≤ 9223372036854775807 ∧ ((((x5 ++ s62).length + ([10] : List UInt8).length : Nat) : Int) ≤ 9223372036854775807 ∧ (Rng .i64 (x6 + (1 : Int)) ∧ (n11_L Kn Ke0 Kr N x3 x4b x4n x4c ((x5 ++ s62) ++ ([10] : List UInt8)) (x6 + (1 : Int)) h)))))) (Ke0 x3 x5 h)
abbrev n11 (x3 : List UInt8) (x4b : Option Addr) (x4n : Nat) (x4c : Nat) (x5 : List UInt8) (x6 : Int) (Kn : T5) (Ke0 : T5) (Kr : T0) (h : H) : Prop := ∃ N, n11_L Kn Ke0 Kr N x3 x4b x4n x4c x5 x6 h
theorem n11_ok (x3 : List UInt8) (x4b : Option Addr) (x4n : Nat) (x4c : Nat) (x5 : List UInt8) (x6 : Int) (Kn : T5) (Ke0 : T5) (Kr : T0) (g : Env) (hg : E6 g x3 x4b x4n x4c x5 x6) (h : H) (hS : n11 x3 x4b x4n x4c x5 x6 Kn Ke0 Kr h) : wpC none Tryd.prog 52 n10_c1 (Q2 Kn Ke0 Kr) g h := by
  obtain ⟨N0, hS⟩ := hS
  refine wpC_loop' (x := n11_c1) (by kernel_rfl) (fun k g h => ∃ (x3 : List UInt8) (x4b : Option Addr) (x4n : Nat) (x4c : Nat) (x5 : List UInt8) (x6 : Int), E6 g x3 x4b x4n x4c x5 x6 ∧ n11_L Kn Ke0 Kr k x3 x4b x4n x4c x5 x6 h) (fun g h hr => ?_) (fun N g h hr => ?_) N0 ⟨x3, x4b, x4n, x4c, x5, x6, hg, hS⟩
  · obtain ⟨x3, x4b, x4n, x4c, x5, x6, hg, hS⟩ := hr
    exact hS.elim
  · obtain ⟨x3, x4b, x4n, x4c, x5, x6, hg, hS⟩ := hr
    have hw : wpC none Tryd.prog 52 n11_c1 (Q3 (fun z3 z4b z4n z4c z5 z6 h => n11_L Kn Ke0 Kr N z3 z4b z4n z4c z5 z6 h) Ke0 Kr) g h := by
      obtain ⟨hg3, hg4, hg5, hg6, hds⟩ := hg
      refine wpC_of_wpx (by kernel_rfl) (by kernel_rfl) (g' := ((((⟨g.v, []⟩ : Env).upd (some 3) (S x3)).upd (some 4) (.slice x4b x4n x4c)).upd (some 5) (S x5)).upd (some 6) (.int .i64 x6)) (by rw [env_ds hds, upd_self hg3, upd_self hg4, upd_self hg5, upd_self hg6]) ?_
      have e : (n11_L Kn Ke0 Kr (N + 1) x3 x4b x4n x4c x5 x6 h) = wpx none Tryd.prog 52 n11_c1 (Q3 (fun z3 z4b z4n z4c z5 z6 h => n11_L Kn Ke0 Kr N z3 z4b z4n z4c z5 z6 h) Ke0 Kr) (((((⟨g.v, []⟩ : Env).upd (some 3) (S x3)).upd (some 4) (.slice x4b x4n x4c)).upd (some 5) (S x5)).upd (some 6) (.int .i64 x6)) h := by kernel_rfl
      exact e ▸ hS
    refine hw.mono ?_
    intro e g' h' hq
    cases e with
    | normal => exact D6_ok (K := (fun z3 z4b z4n z4c z5 z6 h => n11_L Kn Ke0 Kr N z3 z4b z4n z4c z5 z6 h)) hq
    | _ => exact hq
abbrev n10 (x3 : List UInt8) (x4b : Option Addr) (x4n : Nat) (x4c : Nat) (x5 : List UInt8) (x6 : Int) (Kn : T5) (Kr : T0) (h : H) : Prop := n11 x3 x4b x4n x4c x5 x6 Kn Kn Kr h
theorem n10_ok (x3 : List UInt8) (x4b : Option Addr) (x4n : Nat) (x4c : Nat) (x5 : List UInt8) (x6 : Int) (Kn : T5) (Kr : T0) (g : Env) (hg : E6 g x3 x4b x4n x4c x5 x6) (h : H) (hS : n10 x3 x4b x4n x4c x5 x6 Kn Kr h) : wpC none Tryd.prog 52 n9_c2 (Q1 Kn Kr) g h := by
  refine wpC_block' (id := 0) (x := n10_c1) (by kernel_rfl) (n11_ok x3 x4b x4n x4c x5 x6 Kn Kn Kr g hg h hS) ?_
  intro e g' h' hq
  cases e <;> exact hq
def Q4 (Kn : T6) (Kr : T0) : XPost
  | .normal, g, h => D6 Kn g h
  | .ret, g, h => D0 Kr g h
  | _, _, _ => False
abbrev n9 (x3 : List UInt8) (x4b : Option Addr) (x4n : Nat) (x4c : Nat) (x5 : List UInt8) (Kn : T5) (Kr : T0) (h : H) : Prop :=
  n10 x3 x4b x4n x4c x5 (0 : Int) Kn Kr h
theorem n9_ok (x3 : List UInt8) (x4b : Option Addr) (x4n : Nat) (x4c : Nat) (x5 : List UInt8) (Kn : T5) (Kr : T0) (g : Env) (hg : E4 g x3 x4b x4n x4c x5) (h : H) (hS : n9 x3 x4b x4n x4c x5 Kn Kr h) : wpC none Tryd.prog 52 n7_c1 (Q1 Kn Kr) g h := by
  obtain ⟨hg3, hg4, hg5, hds⟩ := hg
  refine wpC_seq' (x := n9_c1) (y := n9_c2) (Q' := (Q4 (fun z3 z4b z4n z4c z5 z6 h => n10 z3 z4b z4n z4c z5 z6 Kn Kr h) Kr)) (by kernel_rfl) ?_ ?_
  · refine wpC_of_wpx (by kernel_rfl) (by kernel_rfl) (g' := (((⟨g.v, []⟩ : Env).upd (some 3) (S x3)).upd (some 4) (.slice x4b x4n x4c)).upd (some 5) (S x5)) (by rw [env_ds hds, upd_self hg3, upd_self hg4, upd_self hg5]) ?_
    have e : (n9 x3 x4b x4n x4c x5 Kn Kr h) = wpx none Tryd.prog 52 n9_c1 (Q4 (fun z3 z4b z4n z4c z5 z6 h => n10 z3 z4b z4n z4c z5 z6 Kn Kr h) Kr) ((((⟨g.v, []⟩ : Env).upd (some 3) (S x3)).upd (some 4) (.slice x4b x4n x4c)).upd (some 5) (S x5)) h := by kernel_rfl
    exact e ▸ hS
  · intro e g' h' hq
    cases e with
    | normal =>
      have hq : D6 (fun z3 z4b z4n z4c z5 z6 h => n10 z3 z4b z4n z4c z5 z6 Kn Kr h) g' h' := hq
      obtain ⟨y3, y4b, y4n, y4c, y5, y6, hg', hq⟩ := D6_ok hq
      exact n10_ok y3 y4b y4n y4c y5 y6 Kn Kr g' hg' h' hq
    | _ => exact hq
abbrev n7 (x3 : List UInt8) (x4b : Option Addr) (x4n : Nat) (x4c : Nat) (x5 : List UInt8) (Kn : T0) (Kr : T0) (h : H) : Prop := n9 x3 x4b x4n x4c x5 (fun z3 z5 h => n8 z3 z5 Kn Kr h) Kr h
theorem n7_ok (x3 : List UInt8) (x4b : Option Addr) (x4n : Nat) (x4c : Nat) (x5 : List UInt8) (Kn : T0) (Kr : T0) (g : Env) (hg : E4 g x3 x4b x4n x4c x5) (h : H) (hS : n7 x3 x4b x4n x4c x5 Kn Kr h) : wpC none Tryd.prog 52 n6_c2 (Q0 Kn Kr) g h := by
  refine wpC_seq' (x := n7_c1) (y := n7_c2) (by kernel_rfl) (n9_ok x3 x4b x4n x4c x5 (fun z3 z5 h => n8 z3 z5 Kn Kr h) Kr g hg h hS) ?_
  intro e g' h' hq
  cases e with
  | normal =>
    have hq : D5 (fun z3 z5 h => n8 z3 z5 Kn Kr h) g' h' := hq
    obtain ⟨y3, y5, hg', hq⟩ := D5_ok hq
    exact n8_ok y3 y5 Kn Kr g' hg' h' hq
  | _ => exact hq
def Q5 (Kn : T4) (Kr : T0) : XPost
  | .normal, g, h => D4 Kn g h
  | .ret, g, h => D0 Kr g h
  | _, _, _ => False
abbrev n6 (x3 : List UInt8) (x4b : Option Addr) (x4n : Nat) (x4c : Nat) (Kn : T0) (Kr : T0) (h : H) : Prop :=
  n7 x3 x4b x4n x4c ([] : List UInt8) Kn Kr h
theorem n6_ok (x3 : List UInt8) (x4b : Option Addr) (x4n : Nat) (x4c : Nat) (Kn : T0) (Kr : T0) (g : Env) (hg : E3 g x3 x4b x4n x4c) (h : H) (hS : n6 x3 x4b x4n x4c Kn Kr h) : wpC none Tryd.prog 52 n5_c2 (Q0 Kn Kr) g h := by
  obtain ⟨hg3, hg4, hds⟩ := hg
  refine wpC_seq' (x := n6_c1) (y := n6_c2) (Q' := (Q5 (fun z3 z4b z4n z4c z5 h => n7 z3 z4b z4n z4c z5 Kn Kr h) Kr)) (by kernel_rfl) ?_ ?_
  · refine wpC_of_wpx (by kernel_rfl) (by kernel_rfl) (g' := ((⟨g.v, []⟩ : Env).upd (some 3) (S x3)).upd (some 4) (.slice x4b x4n x4c)) (by rw [env_ds hds, upd_self hg3, upd_self hg4]) ?_
    have e : (n6 x3 x4b x4n x4c Kn Kr h) = wpx none Tryd.prog 52 n6_c1 (Q5 (fun z3 z4b z4n z4c z5 h => n7 z3 z4b z4n z4c z5 Kn Kr h) Kr) (((⟨g.v, []⟩ : Env).upd (some 3) (S x3)).upd (some 4) (.slice x4b x4n x4c)) h := by kernel_rfl
    exact e ▸ hS
  · intro e g' h' hq
    cases e with
    | normal =>
      have hq : D4 (fun z3 z4b z4n z4c z5 h => n7 z3 z4b z4n z4c z5 Kn Kr h) g' h' := hq
      obtain ⟨y3, y4b, y4n, y4c, y5, hg', hq⟩ := D4_ok hq
      exact n7_ok y3 y4b y4n y4c y5 Kn Kr g' hg' h' hq
    | _ => exact hq
def Q6 (Kn : T3) (Kr : T0) : XPost
  | .normal, g, h => D3 Kn g h
  | .ret, g, h => D0 Kr g h
  | _, _, _ => False
abbrev n5 (x3 : List UInt8) (x4b : Option Addr) (x4n : Nat) (x4c : Nat) (Kn : T0) (Kr : T0) (h : H) : Prop :=
  HCalls Tryd.prog 19 ⟨[(S x3)]⟩ h fun v63 h64 => vSlice v63 fun s65b s65n s65c => HCalls Tryd.prog 18 ⟨[(.slice x4b x4n x4c), (.slice s65b s65n s65c)]⟩ h64 fun v66 h67 => vBool v66 fun b68 => cond b68 (HCalls Tryd.prog 16 ⟨[(S x3)]⟩ h67 fun v69 h70 => vStr v69 fun s71 => Spl (s71 = x3) (n6 x3 x4b x4n x4c Kn Kr h70) (Kr false h70)) (Kr false h67)
theorem n5_ok (x3 : List UInt8) (x4b : Option Addr) (x4n : Nat) (x4c : Nat) (Kn : T0) (Kr : T0) (g : Env) (hg : E3 g x3 x4b x4n x4c) (h : H) (hS : n5 x3 x4b x4n x4c Kn Kr h) : wpC none Tryd.prog 52 n4_c2 (Q0 Kn Kr) g h := by
  obtain ⟨hg3, hg4, hds⟩ := hg
  refine wpC_seq' (x := n5_c1) (y := n5_c2) (Q' := (Q6 (fun z3 z4b z4n z4c h => n6 z3 z4b z4n z4c Kn Kr h) Kr)) (by kernel_rfl) ?_ ?_
  · refine wpC_of_wpx (by kernel_rfl) (by kernel_rfl) (g' := ((⟨g.v, []⟩ : Env).upd (some 3) (S x3)).upd (some 4) (.slice x4b x4n x4c)) (by rw [env_ds hds, upd_self hg3, upd_self hg4]) ?_
    have e : (n5 x3 x4b x4n x4c Kn Kr h) = wpx none Tryd.prog 52 n5_c1 (Q6 (fun z3 z4b z4n z4c h => n6 z3 z4b z4n z4c Kn Kr h) Kr) (((⟨g.v, []⟩ : Env).upd (some 3) (S x3)).upd (some 4) (.slice x4b x4n x4c)) h := by kernel_rfl
    exact e ▸ hS
  · intro e g' h' hq
    cases e with
    | normal =>
      have hq : D3 (fun z3 z4b z4n z4c h => n6 z3 z4b z4n z4c Kn Kr h) g' h' := hq
      obtain ⟨y3, y4b, y4n, y4c, hg', hq⟩ := D3_ok hq
      exact n6_ok y3 y4b y4n y4c Kn Kr g' hg' h' hq
    | _ => exact hq
abbrev n4 (x0 : List UInt8) (x3 : List UInt8) (Kn : T0) (Kr : T0) (h : H) : Prop :=
  HCalls Tryd.prog 19 ⟨[(S x0)]⟩ h fun v72 h73 => vSlice v72 fun s74b s74n s74c => n5 x3 s74b s74n s74c Kn Kr h73
theorem n4_ok (x0 : List UInt8) (x3 : List UInt8) (Kn : T0) (Kr : T0) (g : Env) (hg : E2 g x0 x3) (h : H) (hS : n4 x0 x3 Kn Kr h) : wpC none Tryd.prog 52 n3_c2 (Q0 Kn Kr) g h := by
  obtain ⟨hg0, hg3, hds⟩ := hg
  refine wpC_seq' (x := n4_c1) (y := n4_c2) (Q' := (Q6 (fun z3 z4b z4n z4c h => n5 z3 z4b z4n z4c Kn Kr h) Kr)) (by kernel_rfl) ?_ ?_
  · refine wpC_of_wpx (by kernel_rfl) (by kernel_rfl) (g' := ((⟨g.v, []⟩ : Env).upd (some 0) (S x0)).upd (some 3) (S x3)) (by rw [env_ds hds, upd_self hg0, upd_self hg3]) ?_
    have e : (n4 x0 x3 Kn Kr h) = wpx none Tryd.prog 52 n4_c1 (Q6 (fun z3 z4b z4n z4c h => n5 z3 z4b z4n z4c Kn Kr h) Kr) (((⟨g.v, []⟩ : Env).upd (some 0) (S x0)).upd (some 3) (S x3)) h := by kernel_rfl
    exact e ▸ hS
  · intro e g' h' hq
    cases e with
    | normal =>
      have hq : D3 (fun z3 z4b z4n z4c h => n5 z3 z4b z4n z4c Kn Kr h) g' h' := hq
      obtain ⟨y3, y4b, y4n, y4c, hg', hq⟩ := D3_ok hq
      exact n5_ok y3 y4b y4n y4c Kn Kr g' hg' h' hq
    | _ => exact hq
def Q7 (Kn : T2) (Kr : T0) : XPost
  | .normal, g, h => D2 Kn g h
  | .ret, g, h => D0 Kr g h
  | _, _, _ => False
abbrev n3 (x0 : List UInt8) (Kn : T0) (Kr : T0) (h : H) : Prop :=
  HCalls Tryd.prog 16 ⟨[(S x0)]⟩ h fun v75 h76 => vStr v75 fun s77 => n4 x0 s77 Kn Kr h76
theorem n3_ok (x0 : List UInt8) (Kn : T0) (Kr : T0) (g : Env) (hg : E1 g x0) (h : H) (hS : n3 x0 Kn Kr h) : wpC none Tryd.prog 52 n2_c2 (Q0 Kn Kr) g h := by
  obtain ⟨hg0, hds⟩ := hg
  refine wpC_seq' (x := n3_c1) (y := n3_c2) (Q' := (Q7 (fun z0 z3 h => n4 z0 z3 Kn Kr h) Kr)) (by kernel_rfl) ?_ ?_
  · refine wpC_of_wpx (by kernel_rfl) (by kernel_rfl) (g' := (⟨g.v, []⟩ : Env).upd (some 0) (S x0)) (by rw [env_ds hds, upd_self hg0]) ?_
    have e : (n3 x0 Kn Kr h) = wpx none Tryd.prog 52 n3_c1 (Q7 (fun z0 z3 h => n4 z0 z3 Kn Kr h) Kr) ((⟨g.v, []⟩ : Env).upd (some 0) (S x0)) h := by kernel_rfl
    exact e ▸ hS
  · intro e g' h' hq
    cases e with
    | normal =>
      have hq : D2 (fun z0 z3 h => n4 z0 z3 Kn Kr h) g' h' := hq
      obtain ⟨y0, y3, hg', hq⟩ := D2_ok hq
      exact n4_ok y0 y3 Kn Kr g' hg' h' hq
    | _ => exact hq
def Q8 (Kn : T1) (Kr : T0) : XPost
  | .normal, g, h => D1 Kn g h
  | .ret, g, h => D0 Kr g h
  | _, _, _ => False
abbrev n2 (x0 : List UInt8) (Kn : T0) (Kr : T0) (h : H) : Prop :=
  Spl ((x0.length : Int) > (20000 : Int)) (HCalls Tryd.prog 11 ⟨[]⟩ h fun v78 h79 => vBool v78 fun b80 => cond b80 (Kr true h79) (Kr false h79)) (HCalls Tryd.prog 11 ⟨[]⟩ h fun v81 h82 => vBool v81 fun b83 => cond b83 (n3 x0 Kn Kr h82) (HCalls Tryd.prog 11 ⟨[]⟩ h82 fun v84 h85 => vBool v84 fun b86 => cond b86 (Kr true h85) (Kr false h85)))
theorem n2_ok (x0 : List UInt8) (Kn : T0) (Kr : T0) (g : Env) (hg : E1 g x0) (h : H) (hS : n2 x0 Kn Kr h) : wpC none Tryd.prog 52 n1_c2 (Q0 Kn Kr) g h := by
  obtain ⟨hg0, hds⟩ := hg
  refine wpC_seq' (x := n2_c1) (y := n2_c2) (Q' := (Q8 (fun z0 h => n3 z0 Kn Kr h) Kr)) (by kernel_rfl) ?_ ?_
  · refine wpC_of_wpx (by kernel_rfl) (by kernel_rfl) (g' := (⟨g.v, []⟩ : Env).upd (some 0) (S x0)) (by rw [env_ds hds, upd_self hg0]) ?_
    have e : (n2 x0 Kn Kr h) = wpx none Tryd.prog 52 n2_c1 (Q8 (fun z0 h => n3 z0 Kn Kr h) Kr) ((⟨g.v, []⟩ : Env).upd (some 0) (S x0)) h := by kernel_rfl
    exact e ▸ hS
  · intro e g' h' hq
    cases e with
    | normal =>
      have hq : D1 (fun z0 h => n3 z0 Kn Kr h) g' h' := hq
      obtain ⟨y0, hg', hq⟩ := D1_ok hq
      exact n3_ok y0 Kn Kr g' hg' h' hq
    | _ => exact hq
abbrev n1 (x0 : List UInt8) (Kn : T0) (Kr : T0) (h : H) : Prop :=
  n2 x0 Kn Kr h
theorem n1_ok (x0 : List UInt8) (Kn : T0) (Kr : T0) (g : Env) (hg : E1 g x0) (h : H) (hS : n1 x0 Kn Kr h) : wpC none Tryd.prog 52 code (Q0 Kn Kr) g h := by
  obtain ⟨hg0, hds⟩ := hg
  refine wpC_seq' (x := n1_c1) (y := n1_c2) (Q' := (Q8 (fun z0 h => n2 z0 Kn Kr h) Kr)) (by kernel_rfl) ?_ ?_
  · refine wpC_of_wpx (by kernel_rfl) (by kernel_rfl) (g' := (⟨g.v, []⟩ : Env).upd (some 0) (S x0)) (by rw [env_ds hds, upd_self hg0]) ?_
    have e : (n1 x0 Kn Kr h) = wpx none Tryd.prog 52 n1_c1 (Q8 (fun z0 h => n2 z0 Kn Kr h) Kr) ((⟨g.v, []⟩ : Env).upd (some 0) (S x0)) h := by kernel_rfl
    exact e ▸ hS
  · intro e g' h' hq
    cases e with
    | normal =>
      have hq : D1 (fun z0 h => n2 z0 Kn Kr h) g' h' := hq
      obtain ⟨y0, hg', hq⟩ := D1_ok hq
      exact n2_ok y0 Kn Kr g' hg' h' hq
    | _ => exact hq
/-- WHAT tympan/tympanlaw01.UtfEnds ASKS -/
abbrev asks (x0 : List UInt8) (K : Value → H → Prop) (h : H) : Prop := n1 x0 (fun y2 h => K (.bool y2) h) (fun y2 h => K (.bool y2) h) h
theorem ok (x0 : List UInt8) (K : Value → H → Prop) (h : H) (hS : asks x0 K h) : HCalls Tryd.prog 7 ⟨[(S x0)]⟩ h K := by
  refine calls_of_wpC (c := code) Tryd.func7 (by kernel_rfl) (Nat.le_of_ble_eq_true (by kernel_rfl)) ?_
  refine (n1_ok x0 (fun y2 h => K (.bool y2) h) (fun y2 h => K (.bool y2) h) (env0 [(S x0)]) ⟨rfl, rfl⟩ h hS).mono ?_
  intro e g' h' hq
  cases e with
  | normal =>
    have hq : D0 (fun y2 h => K (.bool y2) h) g' h' := hq
    obtain ⟨y2, ⟨hg2, hd⟩, hq⟩ := D0_ok hq
    show leaveX g'.ds h' _
    rw [hd]
    show K (g'.v 2) h'
    rw [hg2]
    exact hq
  | ret =>
    have hq : D0 (fun y2 h => K (.bool y2) h) g' h' := hq
    obtain ⟨y2, ⟨hg2, hd⟩, hq⟩ := D0_ok hq
    show leaveX g'.ds h' _
    rw [hd]
    show K (g'.v 2) h'
    rw [hg2]
    exact hq
  | _ => exact hq
end Sx.l01_UtfEnds

/-! ### tympan/tympanlaw01.UtfLong -/
namespace Sx.l01_UtfLong
noncomputable def code : Code := bodyOf Tryd.f8
abbrev T0 := Bool → H → Prop
def E0 (g : Env) (x2 : Bool) : Prop := g.v 2 = (.bool x2) ∧ g.ds = []
def D0 (K : T0) (g : Env) (h : H) : Prop := nilDs g.ds (vBool (g.v 2) fun b1 => K b1 h)
theorem D0_ok {K : T0} {g : Env} {h : H} (hq : D0 K g h) : ∃ (x2 : Bool), E0 g x2 ∧ K x2 h := by
  obtain ⟨hd, hq⟩ := nilDs_ok hq
  obtain ⟨y3, e2, q4⟩ := vBool_ok hq
  exact ⟨y3, ⟨e2, hd⟩, q4⟩
def Q0 (Kn : T0) (Kr : T0) : XPost
  | .normal, g, h => D0 Kn g h
  | .ret, g, h => D0 Kr g h
  | _, _, _ => False
abbrev T1 := (Option Addr) → Nat → Nat → H → Prop
def E1 (g : Env) (x0b : Option Addr) (x0n : Nat) (x0c : Nat) : Prop := g.v 0 = (.slice x0b x0n x0c) ∧ g.ds = []
def D1 (K : T1) (g : Env) (h : H) : Prop := nilDs g.ds (vSlice (g.v 0) fun s5b s5n s5c => K s5b s5n s5c h)
theorem D1_ok {K : T1} {g : Env} {h : H} (hq : D1 K g h) : ∃ (x0b : Option Addr) (x0n : Nat) (x0c : Nat), E1 g x0b x0n x0c ∧ K x0b x0n x0c h := by
  obtain ⟨hd, hq⟩ := nilDs_ok hq
  obtain ⟨y7b, y7n, y7c, e6, q8⟩ := vSlice_ok hq
  exact ⟨y7b, y7n, y7c, ⟨e6, hd⟩, q8⟩
noncomputable def n1_c1 : Code := cFst code
noncomputable def n1_c2 : Code := cSnd code
noncomputable def n2_c1 : Code := cFst n1_c2
noncomputable def n2_c2 : Code := cSnd n1_c2
noncomputable def n3_c1 : Code := cFst n2_c2
noncomputable def n3_c2 : Code := cSnd n2_c2
abbrev T2 := (Option Addr) → Nat → Nat → (List UInt8) → H → Prop
def E2 (g : Env) (x0b : Option Addr) (x0n : Nat) (x0c : Nat) (x3 : List UInt8) : Prop := g.v 0 = (.slice x0b x0n x0c) ∧ g.v 3 = (S x3) ∧ g.ds = []
def D2 (K : T2) (g : Env) (h : H) : Prop := nilDs g.ds (vSlice (g.v 0) fun s9b s9n s9c => vStr (g.v 3) fun s10 => K s9b s9n s9c s10 h)
theorem D2_ok {K : T2} {g : Env} {h : H} (hq : D2 K g h) : ∃ (x0b : Option Addr) (x0n : Nat) (x0c : Nat) (x3 : List UInt8), E2 g x0b x0n x0c x3 ∧ K x0b x0n x0c x3 h := by
  obtain ⟨hd, hq⟩ := nilDs_ok hq
  obtain ⟨y12b, y12n, y12c, e11, q13⟩ := vSlice_ok hq
  obtain ⟨y15, e14, q16⟩ := vStr_ok q13
  exact ⟨y12b, y12n, y12c, y15, ⟨e11, e14, hd⟩, q16⟩
noncomputable def n4_c1 : Code := cFst n3_c2
noncomputable def n4_c2 : Code := cSnd n3_c2
abbrev T3 := (Option Addr) → Nat → Nat → (List UInt8) → Int → H → Prop
def E3 (g : Env) (x0b : Option Addr) (x0n : Nat) (x0c : Nat) (x3 : List UInt8) (x4 : Int) : Prop := g.v 0 = (.slice x0b x0n x0c) ∧ g.v 3 = (S x3) ∧ g.v 4 = (.int .i64 x4) ∧ g.ds = []
def D3 (K : T3) (g : Env) (h : H) : Prop := nilDs g.ds (vSlice (g.v 0) fun s17b s17n s17c => vStr (g.v 3) fun s18 => vInt .i64 (g.v 4) fun i19 => K s17b s17n s17c s18 i19 h)
theorem D3_ok {K : T3} {g : Env} {h : H} (hq : D3 K g h) : ∃ (x0b : Option Addr) (x0n : Nat) (x0c : Nat) (x3 : List UInt8) (x4 : Int), E3 g x0b x0n x0c x3 x4 ∧ K x0b x0n x0c x3 x4 h := by
  obtain ⟨hd, hq⟩ := nilDs_ok hq
  obtain ⟨y21b, y21n, y21c, e20, q22⟩ := vSlice_ok hq
  obtain ⟨y24, e23, q25⟩ := vStr_ok q22
  obtain ⟨y27, e26, q28⟩ := vInt_ok q25
  exact ⟨y21b, y21n, y21c, y24, y27, ⟨e20, e23, e26, hd⟩, q28⟩
noncomputable def n5_c1 : Code := cFst n4_c2
noncomputable def n5_c2 : Code := cSnd n4_c2
noncomputable def n6_c1 : Code := cFst n5_c2
noncomputable def n6_c2 : Code := cSnd n5_c2
abbrev T4 := (Option Addr) → Nat → Nat → (List UInt8) → Int → Bool → H → Prop
def E4 (g : Env) (x0b : Option Addr) (x0n : Nat) (x0c : Nat) (x3 : List UInt8) (x4 : Int) (x6 : Bool) : Prop := g.v 0 = (.slice x0b x0n x0c) ∧ g.v 3 = (S x3) ∧ g.v 4 = (.int .i64 x4) ∧ g.v 6 = (.bool x6) ∧ g.ds = []
def D4 (K : T4) (g : Env) (h : H) : Prop := nilDs g.ds (vSlice (g.v 0) fun s29b s29n s29c => vStr (g.v 3) fun s30 => vInt .i64 (g.v 4) fun i31 => vBool (g.v 6) fun b32 => K s29b s29n s29c s30 i31 b32 h)
theorem D4_ok {K : T4} {g : Env} {h : H} (hq : D4 K g h) : ∃ (x0b : Option Addr) (x0n : Nat) (x0c : Nat) (x3 : List UInt8) (x4 : Int) (x6 : Bool), E4 g x0b x0n x0c x3 x4 x6 ∧ K x0b x0n x0c x3 x4 x6 h := by
  obtain ⟨hd, hq⟩ := nilDs_ok hq
  obtain ⟨y34b, y34n, y34c, e33, q35⟩ := vSlice_ok hq
  obtain ⟨y37, e36, q38⟩ := vStr_ok q35
  obtain ⟨y40, e39, q41⟩ := vInt_ok q38
  obtain ⟨y43, e42, q44⟩ := vBool_ok q41
  exact ⟨y34b, y34n, y34c, y37, y40, y43, ⟨e33, e36, e39, e42, hd⟩, q44⟩
noncomputable def n7_c1 : Code := cFst n6_c2
noncomputable def n7_c2 : Code := cSnd n6_c2
abbrev T5 := (Option Addr) → Nat → Nat → (List UInt8) → Int → Bool → Int → H → Prop
def E5 (g : Env) (x0b : Option Addr) (x0n : Nat) (x0c : Nat) (x3 : List UInt8) (x4 : Int) (x6 : Bool) (x7 : Int) : Prop := g.v 0 = (.slice x0b x0n x0c) ∧ g.v 3 = (S x3) ∧ g.v 4 = (.int .i64 x4) ∧ g.v 6 = (.bool x6) ∧ g.v 7 = (.int .i64 x7) ∧ g.ds = []
def D5 (K : T5) (g : Env) (h : H) : Prop := nilDs g.ds (vSlice (g.v 0) fun s45b s45n s45c => vStr (g.v 3) fun s46 => vInt .i64 (g.v 4) fun i47 => vBool (g.v 6) fun b48 => vInt .i64 (g.v 7) fun i49 => K s45b s45n s45c s46 i47 b48 i49 h)
theorem D5_ok {K : T5} {g : Env} {h : H} (hq : D5 K g h) : ∃ (x0b : Option Addr) (x0n : Nat) (x0c : Nat) (x3 : List UInt8) (x4 : Int) (x6 : Bool) (x7 : Int), E5 g x0b x0n x0c x3 x4 x6 x7 ∧ K x0b x0n x0c x3 x4 x6 x7 h := by
  obtain ⟨hd, hq⟩ := nilDs_ok hq
  obtain ⟨y51b, y51n, y51c, e50, q52⟩ := vSlice_ok hq
  obtain ⟨y54, e53, q55⟩ := vStr_ok q52
  obtain ⟨y57, e56, q58⟩ := vInt_ok q55
  obtain ⟨y60, e59, q61⟩ := vBool_ok q58
  obtain ⟨y63, e62, q64⟩ := vInt_ok q61
  exact ⟨y51b, y51n, y51c, y54, y57, y60, y63, ⟨e50, e53, e56, e59, e62, hd⟩, q64⟩
noncomputable def n8_c1 : Code := cFst n7_c2
noncomputable def n8_c2 : Code := cSnd n7_c2
abbrev T6 := (Option Addr) → Nat → Nat → (List UInt8) → Int → Int → H → Prop
def E6 (g : Env) (x0b : Option Addr) (x0n : Nat) (x0c : Nat) (x3 : List UInt8) (x4 : Int) (x7 : Int) : Prop := g.v 0 = (.slice x0b x0n x0c) ∧ g.v 3 = (S x3) ∧ g.v 4 = (.int .i64 x4) ∧ g.v 7 = (.int .i64 x7) ∧ g.ds = []
def D6 (K : T6) (g : Env) (h : H) : Prop := nilDs g.ds (vSlice (g.v 0) fun s65b s65n s65c => vStr (g.v 3) fun s66 => vInt .i64 (g.v 4) fun i67 => vInt .i64 (g.v 7) fun i68 => K s65b s65n s65c s66 i67 i68 h)
theorem D6_ok {K : T6} {g : Env} {h : H} (hq : D6 K g h) : ∃ (x0b : Option Addr) (x0n : Nat) (x0c : Nat) (x3 : List UInt8) (x4 : Int) (x7 : Int), E6 g x0b x0n x0c x3 x4 x7 ∧ K x0b x0n x0c x3 x4 x7 h := by
  obtain ⟨hd, hq⟩ := nilDs_ok hq
  obtain ⟨y70b, y70n, y70c, e69, q71⟩ := vSlice_ok hq
  obtain ⟨y73, e72, q74⟩ := vStr_ok q71
  obtain ⟨y76, e75, q77⟩ := vInt_ok q74
  obtain ⟨y79, e78, q80⟩ := vInt_ok q77
  exact ⟨y70b, y70n, y70c, y73, y76, y79, ⟨e69, e72, e75, e78, hd⟩, q80⟩
abbrev n9 (x0b : Option Addr) (x0n : Nat) (x0c : Nat) (x3 : List UInt8) (x4 : Int) (x7 : Int) (Kn : T0) (Kr : T0) (h : H) : Prop :=
  Rng .i64 ((3 : Int) * (x0n : Int)) ∧ (Spl ((x3.length : Int) ≤ ((3 : Int) * (x0n : Int))) (Rng .i64 ((4 : Int) * x4) ∧ (Spl (((4 : Int) * x4) ≥ x7) (Spl (x4 ≤ (x0n : Int)) (Kr true h) (Kr false h)) (Kr false h))) (Kr false h))
theorem n9_ok (x0b : Option Addr) (x0n : Nat) (x0c : Nat) (x3 : List UInt8) (x4 : Int) (x7 : Int) (Kn : T0) (Kr : T0) (g : Env) (hg : E6 g x0b x0n x0c x3 x4 x7) (h : H) (hS : n9 x0b x0n x0c x3 x4 x7 Kn Kr h) : wpC none Tryd.prog 80 n8_c2 (Q0 Kn Kr) g h := by
  obtain ⟨hg0, hg3, hg4, hg7, hds⟩ := hg
  refine wpC_of_wpx (by kernel_rfl) (by kernel_rfl) (g' := ((((⟨g.v, []⟩ : Env).upd (some 0) (.slice x0b x0n x0c)).upd (some 3) (S x3)).upd (some 4) (.int .i64 x4)).upd (some 7) (.int .i64 x7)) (by rw [env_ds hds, upd_self hg0, upd_self hg3, upd_self hg4, upd_self hg7]) ?_
  have e : (n9 x0b x0n x0c x3 x4 x7 Kn Kr h) = wpx none Tryd.prog 80 n8_c2 (Q0 Kn Kr) (((((⟨g.v, []⟩ : Env).upd (some 0) (.slice x0b x0n x0c)).upd (some 3) (S x3)).upd (some 4) (.int .i64 x4)).upd (some 7) (.int .i64 x7)) h := by kernel_rfl
  exact e ▸ hS
def Q1 (Kn : T6) (Kr : T0) : XPost
  | .normal, g, h => D6 Kn g h
  | .ret, g, h => D0 Kr g h
  | _, _, _ => False
abbrev n8 (x0b : Option Addr) (x0n : Nat) (x0c : Nat) (x3 : List UInt8) (x4 : Int) (x6 : Bool) (x7 : Int) (Kn : T0) (Kr : T0) (h : H) : Prop :=
  cond x6 (Rng .i64 (x7 - (3 : Int)) ∧ (n9 x0b x0n x0c x3 x4 (x7 - (3 : Int)) Kn Kr h)) (n9 x0b x0n x0c x3 x4 x7 Kn Kr h)
theorem n8_ok (x0b : Option Addr) (x0n : Nat) (x0c : Nat) (x3 : List UInt8) (x4 : Int) (x6 : Bool) (x7 : Int) (Kn : T0) (Kr : T0) (g : Env) (hg : E5 g x0b x0n x0c x3 x4 x6 x7) (h : H) (hS : n8 x0b x0n x0c x3 x4 x6 x7 Kn Kr h) : wpC none Tryd.prog 80 n7_c2 (Q0 Kn Kr) g h := by
  obtain ⟨hg0, hg3, hg4, hg6, hg7, hds⟩ := hg
  refine wpC_seq' (x := n8_c1) (y := n8_c2) (Q' := (Q1 (fun z0b z0n z0c z3 z4 z7 h => n9 z0b z0n z0c z3 z4 z7 Kn Kr h) Kr)) (by kernel_rfl) ?_ ?_
  · refine wpC_of_wpx (by kernel_rfl) (by kernel_rfl) (g' := (((((⟨g.v, []⟩ : Env).upd (some 0) (.slice x0b x0n x0c)).upd (some 3) (S x3)).upd (some 4) (.int .i64 x4)).upd (some 6) (.bool x6)).upd (some 7) (.int .i64 x7)) (by rw [env_ds hds, upd_self hg0, upd_self hg3, upd_self hg4, upd_self hg6, upd_self hg7]) ?_
    have e : (n8 x0b x0n x0c x3 x4 x6 x7 Kn Kr h) = wpx none Tryd.prog 80 n8_c1 (Q1 (fun z0b z0n z0c z3 z4 z7 h => n9 z0b z0n z0c z3 z4 z7 Kn Kr h) Kr) ((((((⟨g.v, []⟩ : Env).upd (some 0) (.slice x0b x0n x0c)).upd (some 3) (S x3)).upd (some 4) (.int .i64 x4)).upd (some 6) (.bool x6)).upd (some 7) (.int .i64 x7)) h := by kernel_rfl
    exact e ▸ hS
  · intro e g' h' hq
    cases e with
    | normal =>
      have hq : D6 (fun z0b z0n z0c z3 z4 z7 h => n9 z0b z0n z0c z3 z4 z7 Kn Kr h) g' h' := hq
      obtain ⟨y0b, y0n, y0c, y3, y4, y7, hg', hq⟩ := D6_ok hq
      exact n9_ok y0b y0n y0c y3 y4 y7 Kn Kr g' hg' h' hq
    | _ => exact hq
def Q2 (Kn : T5) (Kr : T0) : XPost
  | .normal, g, h => D5 Kn g h
  | .ret, g, h => D0 Kr g h
  | _, _, _ => False
abbrev n7 (x0b : Option Addr) (x0n : Nat) (x0c : Nat) (x3 : List UInt8) (x4 : Int) (x6 : Bool) (Kn : T0) (Kr : T0) (h : H) : Prop :=
  n8 x0b x0n x0c x3 x4 x6 (x0n : Int) Kn Kr h
theorem n7_ok (x0b : Option Addr) (x0n : Nat) (x0c : Nat) (x3 : List UInt8) (x4 : Int) (x6 : Bool) (Kn : T0) (Kr : T0) (g : Env) (hg : E4 g x0b x0n x0c x3 x4 x6) (h : H) (hS : n7 x0b x0n x0c x3 x4 x6 Kn Kr h) : wpC none Tryd.prog 80 n6_c2 (Q0 Kn Kr) g h := by
  obtain ⟨hg0, hg3, hg4, hg6, hds⟩ := hg
  refine wpC_seq' (x := n7_c1) (y := n7_c2) (Q' := (Q2 (fun z0b z0n z0c z3 z4 z6 z7 h => n8 z0b z0n z0c z3 z4 z6 z7 Kn Kr h) Kr)) (by kernel_rfl) ?_ ?_
  · refine wpC_of_wpx (by kernel_rfl) (by kernel_rfl) (g' := ((((⟨g.v, []⟩ : Env).upd (some 0) (.slice x0b x0n x0c)).upd (some 3) (S x3)).upd (some 4) (.int .i64 x4)).upd (some 6) (.bool x6)) (by rw [env_ds hds, upd_self hg0, upd_self hg3, upd_self hg4, upd_self hg6]) ?_
    have e : (n7 x0b x0n x0c x3 x4 x6 Kn Kr h) = wpx none Tryd.prog 80 n7_c1 (Q2 (fun z0b z0n z0c z3 z4 z6 z7 h => n8 z0b z0n z0c z3 z4 z6 z7 Kn Kr h) Kr) (((((⟨g.v, []⟩ : Env).upd (some 0) (.slice x0b x0n x0c)).upd (some 3) (S x3)).upd (some 4) (.int .i64 x4)).upd (some 6) (.bool x6)) h := by kernel_rfl
    exact e ▸ hS
  · intro e g' h' hq
    cases e with
    | normal =>
      have hq : D5 (fun z0b z0n z0c z3 z4 z6 z7 h => n8 z0b z0n z0c z3 z4 z6 z7 Kn Kr h) g' h' := hq
      obtain ⟨y0b, y0n, y0c, y3, y4, y6, y7, hg', hq⟩ := D5_ok hq
      exact n8_ok y0b y0n y0c y3 y4 y6 y7 Kn Kr g' hg' h' hq
    | _ => exact hq
def Q3 (Kn : T4) (Kr : T0) : XPost
  | .normal, g, h => D4 Kn g h
  | .ret, g, h => D0 Kr g h
  | _, _, _ => False
abbrev n6 (x0b : Option Addr) (x0n : Nat) (x0c : Nat) (x3 : List UInt8) (x4 : Int) (Kn : T0) (Kr : T0) (h : H) : Prop :=
  Spl ((x0n : Int) ≥ (3 : Int)) ((0 ≤ (0 : Int) ∧ (0 : Int) < (x0n : Int)) ∧ (vSome x0b fun a81 => ∃ i82, cell h (a81.add (Int.toNat (0 : Int) * 1)) = some (.int .u8 i82) ∧ (Spl (i82 = (239 : Int)) ((0 ≤ (1 : Int) ∧ (1 : Int) < (x0n : Int)) ∧ (vSome x0b fun a83 => ∃ i84, cell h (a83.add (Int.toNat (1 : Int) * 1)) = some (.int .u8 i84) ∧ (Spl (i84 = (187 : Int)) ((0 ≤ (2 : Int) ∧ (2 : Int) < (x0n : Int)) ∧ (vSome x0b fun a85 => ∃ i86, cell h (a85.add (Int.toNat (2 : Int) * 1)) = some (.int .u8 i86) ∧ (Spl (i86 = (191 : Int)) (n7 x0b x0n x0c x3 x4 true Kn Kr h) (n7 x0b x0n x0c x3 x4 false Kn Kr h)))) (n7 x0b x0n x0c x3 x4 false Kn Kr h)))) (n7 x0b x0n x0c x3 x4 false Kn Kr h)))) (n7 x0b x0n x0c x3 x4 false Kn Kr h)
theorem n6_ok (x0b : Option Addr) (x0n : Nat) (x0c : Nat) (x3 : List UInt8) (x4 : Int) (Kn : T0) (Kr : T0) (g : Env) (hg : E3 g x0b x0n x0c x3 x4) (h : H) (hS : n6 x0b x0n x0c x3 x4 Kn Kr h) : wpC none Tryd.prog 80 n5_c2 (Q0 Kn Kr) g h := by
  obtain ⟨hg0, hg3, hg4, hds⟩ := hg
  refine wpC_seq' (x := n6_c1) (y := n6_c2) (Q' := (Q3 (fun z0b z0n z0c z3 z4 z6 h => n7 z0b z0n z0c z3 z4 z6 Kn Kr h) Kr)) (by kernel_rfl) ?_ ?_
  · refine wpC_of_wpx (by kernel_rfl) (by kernel_rfl) (g' := (((⟨g.v, []⟩ : Env).upd (some 0) (.slice x0b x0n x0c)).upd (some 3) (S x3)).upd (some 4) (.int .i64 x4)) (by rw [env_ds hds, upd_self hg0, upd_self hg3, upd_self hg4]) ?_
    have e : (n6 x0b x0n x0c x3 x4 Kn Kr h) = wpx none Tryd.prog 80 n6_c1 (Q3 (fun z0b z0n z0c z3 z4 z6 h => n7 z0b z0n z0c z3 z4 z6 Kn Kr h) Kr) ((((⟨g.v, []⟩ : Env).upd (some 0) (.slice x0b x0n x0c)).upd (some 3) (S x3)).upd (some 4) (.int .i64 x4)) h := by kernel_rfl
    exact e ▸ hS
  · intro e g' h' hq
    cases e with
    | normal =>
      have hq : D4 (fun z0b z0n z0c z3 z4 z6 h => n7 z0b z0n z0c z3 z4 z6 Kn Kr h) g' h' := hq
      obtain ⟨y0b, y0n, y0c, y3, y4, y6, hg', hq⟩ := D4_ok hq
      exact n7_ok y0b y0n y0c y3 y4 y6 Kn Kr g' hg' h' hq
    | _ => exact hq
def Q4 (Kn : T3) (Kr : T0) : XPost
  | .normal, g, h => D3 Kn g h
  | .ret, g, h => D0 Kr g h
  | _, _, _ => False
noncomputable def n10_c1 : Code := cFst n5_c1
noncomputable def n10_c2 : Code := cSnd n5_c1
abbrev T7 := (Option Addr) → Nat → Nat → (List UInt8) → Int → Int → H → Prop
def E7 (g : Env) (x0b : Option Addr) (x0n : Nat) (x0c : Nat) (x3 : List UInt8) (x4 : Int) (x5 : Int) : Prop := g.v 0 = (.slice x0b x0n x0c) ∧ g.v 3 = (S x3) ∧ g.v 4 = (.int .i64 x4) ∧ g.v 5 = (.int .i64 x5) ∧ g.ds = []
def D7 (K : T7) (g : Env) (h : H) : Prop := nilDs g.ds (vSlice (g.v 0) fun s87b s87n s87c => vStr (g.v 3) fun s88 => vInt .i64 (g.v 4) fun i89 => vInt .i64 (g.v 5) fun i90 => K s87b s87n s87c s88 i89 i90 h)
theorem D7_ok {K : T7} {g : Env} {h : H} (hq : D7 K g h) : ∃ (x0b : Option Addr) (x0n : Nat) (x0c : Nat) (x3 : List UInt8) (x4 : Int) (x5 : Int), E7 g x0b x0n x0c x3 x4 x5 ∧ K x0b x0n x0c x3 x4 x5 h := by
  obtain ⟨hd, hq⟩ := nilDs_ok hq
  obtain ⟨y92b, y92n, y92c, e91, q93⟩ := vSlice_ok hq
  obtain ⟨y95, e94, q96⟩ := vStr_ok q93
  obtain ⟨y98, e97, q99⟩ := vInt_ok q96
  obtain ⟨y101, e100, q102⟩ := vInt_ok q99
  exact ⟨y92b, y92n, y92c, y95, y98, y101, ⟨e91, e94, e97, e100, hd⟩, q102⟩
noncomputable def n11_c1 : Code := cFst n10_c2
def Q5 (Kn : T3) (Ke0 : T3) (Kr : T0) : XPost
  | .normal, g, h => D3 Kn g h
  | .ret, g, h => D0 Kr g h
  | .exit id, g, h => cond (Nat.beq id 0) (D3 Ke0 g h) (False)
  | _, _, _ => False
noncomputable def n12_c1 : Code := cFst n11_c1
def Q6 (Kn : T7) (Ke0 : T3) (Kr : T0) : XPost
  | .normal, g, h => D7 Kn g h
  | .ret, g, h => D0 Kr g h
  | .exit id, g, h => cond (Nat.beq id 0) (D3 Ke0 g h) (False)
  | _, _, _ => False
def n12_L (Kn : T3) (Ke0 : T3) (Kr : T0) : Nat → (Option Addr) → Nat → Nat → (List UInt8) → Int → Int → H → Prop
  | 0 => fun _ _ _ _ _ _ _ => False
  | N + 1 => fun x0b x0n x0c x3 x4 x5 h => Spl (x5 < (x3.length : Int)) ((0 ≤ x5 ∧ x5 < (x3.length : Int)) ∧ (Spl (((List.getD x3 (Int.toNat x5) 0).toNat : Int) < (128 : Int)) (Rng .i64 (x4 + (1 : Int)) ∧ (Rng .i64 (x5 + (1 : Int)) ∧ (n12_L Kn Ke0 Kr N x0b x0n x0c x3 (x4 + (1 : Int)) (x5 + (1 : Int)) h))) ((0 ≤ x5 ∧ x5 < (x3.length : Int)) ∧ (Spl (((List.getD x3 (Int.toNat x5) 0).toNat : Int) ≥ (192 : Int)) (Rng .i64 (x4 + (1 : Int)) ∧ (Rng .i64 (x5 + (1 : Int)) ∧ (n12_L Kn Ke0 Kr N x0b x0n x0c x3 (x4 + (1 : Int)) (x5 + (1 : Int)) h))) (Rng .i64 (x5 + (1 : Int)) ∧ (n12_L Kn Ke0 Kr N x0b x0n x0c x3 x4 (x5 + (1 : Int)) h)))))) (Ke0 x0b x0n x0c x3 x4 h)
abbrev n12 (x0b : Option Addr) (x0n : Nat) (x0c : Nat) (x3 : List UInt8) (x4 : Int) (x5 : Int) (Kn : T3) (Ke0 : T3) (Kr : T0) (h : H) : Prop := ∃ N, n12_L Kn Ke0 Kr N x0b x0n x0c x3 x4 x5 h
theorem n12_ok (x0b : Option Addr) (x0n : Nat) (x0c : Nat) (x3 : List UInt8) (x4 : Int) (x5 : Int) (Kn : T3) (Ke0 : T3) (Kr : T0) (g : Env) (hg : E7 g x0b x0n x0c x3 x4 x5) (h : H) (hS : n12 x0b x0n x0c x3 x4 x5 Kn Ke0 Kr h) : wpC none Tryd.prog 80 n11_c1 (Q5 Kn Ke0 Kr) g h := by
  obtain ⟨N0, hS⟩ := hS
  refine wpC_loop' (x := n12_c1) (by kernel_rfl) (fun k g h => ∃ (x0b : Option Addr) (x0n : Nat) (x0c : Nat) (x3 : List UInt8) (x4 : Int) (x5 : Int), E7 g x0b x0n x0c x3 x4 x5 ∧ n12_L Kn Ke0 Kr k x0b x0n x0c x3 x4 x5 h) (fun g h hr => ?_) (fun N g h hr => ?_) N0 ⟨x0b, x0n, x0c, x3, x4, x5, hg, hS⟩
  · obtain ⟨x0b, x0n, x0c, x3, x4, x5, hg, hS⟩ := hr
    exact hS.elim
  · obtain ⟨x0b, x0n, x0c, x3, x4, x5, hg, hS⟩ := hr
    have hw : wpC none Tryd.prog 80 n12_c1 (Q6 (fun z0b z0n z0c z3 z4 z5 h => n12_L Kn Ke0 Kr N z0b z0n z0c z3 z4 z5 h) Ke0 Kr) g h := by
      obtain ⟨hg0, hg3, hg4, hg5, hds⟩ := hg
      refine wpC_of_wpx (by kernel_rfl) (by kernel_rfl) (g' := ((((⟨g.v, []⟩ : Env).upd (some 0) (.slice x0b x0n x0c)).upd (some 3) (S x3)).upd (some 4) (.int .i64 x4)).upd (some 5) (.int .i64 x5)) (by rw [env_ds hds, upd_self hg0, upd_self hg3, upd_self hg4, upd_self hg5]) ?_
      have e : (n12_L Kn Ke0 Kr (N + 1) x0b x0n x0c x3 x4 x5 h) = wpx none Tryd.prog 80 n12_c1 (Q6 (fun z0b z0n z0c z3 z4 z5 h => n12_L Kn Ke0 Kr N z0b z0n z0c z3 z4 z5 h) Ke0 Kr) (((((⟨g.v, []⟩ : Env).upd (some 0) (.slice x0b x0n x0c)).upd (some 3) (S x3)).upd (some 4) (.int .i64 x4)).upd (some 5) (.int .i64 x5)) h := by kernel_rfl
      exact e ▸ hS
    refine hw.mono ?_
    intro e g' h' hq
    cases e with
    | normal => exact D7_ok (K := (fun z0b z0n z0c z3 z4 z5 h => n12_L Kn Ke0 Kr N z0b z0n z0c z3 z4 z5 h)) hq
    | _ => exact hq
abbrev n11 (x0b : Option Addr) (x0n : Nat) (x0c : Nat) (x3 : List UInt8) (x4 : Int) (x5 : Int) (Kn : T3) (Kr : T0) (h : H) : Prop := n12 x0b x0n x0c x3 x4 x5 Kn Kn Kr h
theorem n11_ok (x0b : Option Addr) (x0n : Nat) (x0c : Nat) (x3 : List UInt8) (x4 : Int) (x5 : Int) (Kn : T3) (Kr : T0) (g : Env) (hg : E7 g x0b x0n x0c x3 x4 x5) (h : H) (hS : n11 x0b x0n x0c x3 x4 x5 Kn Kr h) : wpC none Tryd.prog 80 n10_c2 (Q4 Kn Kr) g h := by
  refine wpC_block' (id := 0) (x := n11_c1) (by kernel_rfl) (n12_ok x0b x0n x0c x3 x4 x5 Kn Kn Kr g hg h hS) ?_
  intro e g' h' hq
  cases e <;> exact hq
def Q7 (Kn : T7) (Kr : T0) : XPost
  | .normal, g, h => D7 Kn g h
  | .ret, g, h => D0 Kr g h
  | _, _, _ => False
abbrev n10 (x0b : Option Addr) (x0n : Nat) (x0c : Nat) (x3 : List UInt8) (x4 : Int) (Kn : T3) (Kr : T0) (h : H) : Prop :=
  n11 x0b x0n x0c x3 x4 (0 : Int) Kn Kr h
theorem n10_ok (x0b : Option Addr) (x0n : Nat) (x0c : Nat) (x3 : List UInt8) (x4 : Int) (Kn : T3) (Kr : T0) (g : Env) (hg : E3 g x0b x0n x0c x3 x4) (h : H) (hS : n10 x0b x0n x0c x3 x4 Kn Kr h) : wpC none Tryd.prog 80 n5_c1 (Q4 Kn Kr) g h := by
  obtain ⟨hg0, hg3, hg4, hds⟩ := hg
  refine wpC_seq' (x := n10_c1) (y := n10_c2) (Q' := (Q7 (fun z0b z0n z0c z3 z4 z5 h => n11 z0b z0n z0c z3 z4 z5 Kn Kr h) Kr)) (by kernel_rfl) ?_ ?_
  · refine wpC_of_wpx (by kernel_rfl) (by kernel_rfl) (g' := (((⟨g.v, []⟩ : Env).upd (some 0) (.slice x0b x0n x0c)).upd (some 3) (S x3)).upd (some 4) (.int .i64 x4)) (by rw [env_ds hds, upd_self hg0, upd_self hg3, upd_self hg4]) ?_
    have e : (n10 x0b x0n x0c x3 x4 Kn Kr h) = wpx none Tryd.prog 80 n10_c1 (Q7 (fun z0b z0n z0c z3 z4 z5 h => n11 z0b z0n z0c z3 z4 z5 Kn Kr h) Kr) ((((⟨g.v, []⟩ : Env).upd (some 0) (.slice x0b x0n x0c)).upd (some 3) (S x3)).upd (some 4) (.int .i64 x4)) h := by kernel_rfl
    exact e ▸ hS
  · intro e g' h' hq
    cases e with
    | normal =>
      have hq : D7 (fun z0b z0n z0c z3 z4 z5 h => n11 z0b z0n z0c z3 z4 z5 Kn Kr h) g' h' := hq
      obtain ⟨y0b, y0n, y0c, y3, y4, y5, hg', hq⟩ := D7_ok hq
      exact n11_ok y0b y0n y0c y3 y4 y5 Kn Kr g' hg' h' hq
    | _ => exact hq
abbrev n5 (x0b : Option Addr) (x0n : Nat) (x0c : Nat) (x3 : List UInt8) (x4 : Int) (Kn : T0) (Kr : T0) (h : H) : Prop := n10 x0b x0n x0c x3 x4 (fun z0b z0n z0c z3 z4 h => n6 z0b z0n z0c z3 z4 Kn Kr h) Kr h
theorem n5_ok (x0b : Option Addr) (x0n : Nat) (x0c : Nat) (x3 : List UInt8) (x4 : Int) (Kn : T0) (Kr : T0) (g : Env) (hg : E3 g x0b x0n x0c x3 x4) (h : H) (hS : n5 x0b x0n x0c x3 x4 Kn Kr h) : wpC none Tryd.prog 80 n4_c2 (Q0 Kn Kr) g h := by
  refine wpC_seq' (x := n5_c1) (y := n5_c2) (by kernel_rfl) (n10_ok x0b x0n x0c x3 x4 (fun z0b z0n z0c z3 z4 h => n6 z0b z0n z0c z3 z4 Kn Kr h) Kr g hg h hS) ?_
  intro e g' h' hq
  cases e with
  | normal =>
    have hq : D3 (fun z0b z0n z0c z3 z4 h => n6 z0b z0n z0c z3 z4 Kn Kr h) g' h' := hq
    obtain ⟨y0b, y0n, y0c, y3, y4, hg', hq⟩ := D3_ok hq
    exact n6_ok y0b y0n y0c y3 y4 Kn Kr g' hg' h' hq
  | _ => exact hq
abbrev n4 (x0b : Option Addr) (x0n : Nat) (x0c : Nat) (x3 : List UInt8) (Kn : T0) (Kr : T0) (h : H) : Prop :=
  n5 x0b x0n x0c x3 (0 : Int) Kn Kr h
theorem n4_ok (x0b : Option Addr) (x0n : Nat) (x0c : Nat) (x3 : List UInt8) (Kn : T0) (Kr : T0) (g : Env) (hg : E2 g x0b x0n x0c x3) (h : H) (hS : n4 x0b x0n x0c x3 Kn Kr h) : wpC none Tryd.prog 80 n3_c2 (Q0 Kn Kr) g h := by
  obtain ⟨hg0, hg3, hds⟩ := hg
  refine wpC_seq' (x := n4_c1) (y := n4_c2) (Q' := (Q4 (fun z0b z0n z0c z3 z4 h => n5 z0b z0n z0c z3 z4 Kn Kr h) Kr)) (by kernel_rfl) ?_ ?_
  · refine wpC_of_wpx (by kernel_rfl) (by kernel_rfl) (g' := ((⟨g.v, []⟩ : Env).upd (some 0) (.slice x0b x0n x0c)).upd (some 3) (S x3)) (by rw [env_ds hds, upd_self hg0, upd_self hg3]) ?_
    have e : (n4 x0b x0n x0c x3 Kn Kr h) = wpx none Tryd.prog 80 n4_c1 (Q4 (fun z0b z0n z0c z3 z4 h => n5 z0b z0n z0c z3 z4 Kn Kr h) Kr) (((⟨g.v, []⟩ : Env).upd (some 0) (.slice x0b x0n x0c)).upd (some 3) (S x3)) h := by kernel_rfl
    exact e ▸ hS
  · intro e g' h' hq
    cases e with
    | normal =>
      have hq : D3 (fun z0b z0n z0c z3 z4 h => n5 z0b z0n z0c z3 z4 Kn Kr h) g' h' := hq
      obtain ⟨y0b, y0n, y0c, y3, y4, hg', hq⟩ := D3_ok hq
      exact n5_ok y0b y0n y0c y3 y4 Kn Kr g' hg' h' hq
    | _ => exact hq
def Q8 (Kn : T2) (Kr : T0) : XPost
  | .normal, g, h => D2 Kn g h
  | .ret, g, h => D0 Kr g h
  | _, _, _ => False
abbrev n3 (x0b : Option Addr) (x0n : Nat) (x0c : Nat) (Kn : T0) (Kr : T0) (h : H) : Prop :=
  HCalls Tryd.prog 10 ⟨[(.slice x0b x0n x0c)]⟩ h fun v103 h104 => vStr v103 fun s105 => n4 x0b x0n x0c s105 Kn Kr h104
theorem n3_ok (x0b : Option Addr) (x0n : Nat) (x0c : Nat) (Kn : T0) (Kr : T0) (g : Env) (hg : E1 g x0b x0n x0c) (h : H) (hS : n3 x0b x0n x0c Kn Kr h) : wpC none Tryd.prog 80 n2_c2 (Q0 Kn Kr) g h := by
  obtain ⟨hg0, hds⟩ := hg
  refine wpC_seq' (x := n3_c1) (y := n3_c2) (Q' := (Q8 (fun z0b z0n z0c z3 h => n4 z0b z0n z0c z3 Kn Kr h) Kr)) (by kernel_rfl) ?_ ?_
  · refine wpC_of_wpx (by kernel_rfl) (by kernel_rfl) (g' := (⟨g.v, []⟩ : Env).upd (some 0) (.slice x0b x0n x0c)) (by rw [env_ds hds, upd_self hg0]) ?_
    have e : (n3 x0b x0n x0c Kn Kr h) = wpx none Tryd.prog 80 n3_c1 (Q8 (fun z0b z0n z0c z3 h => n4 z0b z0n z0c z3 Kn Kr h) Kr) ((⟨g.v, []⟩ : Env).upd (some 0) (.slice x0b x0n x0c)) h := by kernel_rfl
    exact e ▸ hS
  · intro e g' h' hq
    cases e with
    | normal =>
      have hq : D2 (fun z0b z0n z0c z3 h => n4 z0b z0n z0c z3 Kn Kr h) g' h' := hq
      obtain ⟨y0b, y0n, y0c, y3, hg', hq⟩ := D2_ok hq
      exact n4_ok y0b y0n y0c y3 Kn Kr g' hg' h' hq
    | _ => exact hq
def Q9 (Kn : T1) (Kr : T0) : XPost
  | .normal, g, h => D1 Kn g h
  | .ret, g, h => D0 Kr g h
  | _, _, _ => False
abbrev n2 (x0b : Option Addr) (x0n : Nat) (x0c : Nat) (Kn : T0) (Kr : T0) (h : H) : Prop :=
  Spl ((x0n : Int) > (20000 : Int)) (HCalls Tryd.prog 11 ⟨[]⟩ h fun v106 h107 => vBool v106 fun b108 => cond b108 (Kr true h107) (Kr false h107)) (HCalls Tryd.prog 11 ⟨[]⟩ h fun v109 h110 => vBool v109 fun b111 => cond b111 (n3 x0b x0n x0c Kn Kr h110) (HCalls Tryd.prog 11 ⟨[]⟩ h110 fun v112 h113 => vBool v112 fun b114 => cond b114 (Kr true h113) (Kr false h113)))
theorem n2_ok (x0b : Option Addr) (x0n : Nat) (x0c : Nat) (Kn : T0) (Kr : T0) (g : Env) (hg : E1 g x0b x0n x0c) (h : H) (hS : n2 x0b x0n x0c Kn Kr h) : wpC none Tryd.prog 80 n1_c2 (Q0 Kn Kr) g h := by
  obtain ⟨hg0, hds⟩ := hg
  refine wpC_seq' (x := n2_c1) (y := n2_c2) (Q' := (Q9 (fun z0b z0n z0c h => n3 z0b z0n z0c Kn Kr h) Kr)) (by kernel_rfl) ?_ ?_
  · refine wpC_of_wpx (by kernel_rfl) (by kernel_rfl) (g' := (⟨g.v, []⟩ : Env).upd (some 0) (.slice x0b x0n x0c)) (by rw [env_ds hds, upd_self hg0]) ?_
    have e : (n2 x0b x0n x0c Kn Kr h) = wpx none Tryd.prog 80 n2_c1 (Q9 (fun z0b z0n z0c h => n3 z0b z0n z0c Kn Kr h) Kr) ((⟨g.v, []⟩ : Env).upd (some 0) (.slice x0b x0n x0c)) h := by kernel_rfl
    exact e ▸ hS
  · intro e g' h' hq
    cases e with
    | normal =>
      have hq : D1 (fun z0b z0n z0c h => n3 z0b z0n z0c Kn Kr h) g' h' := hq
      obtain ⟨y0b, y0n, y0c, hg', hq⟩ := D1_ok hq
      exact n3_ok y0b y0n y0c Kn Kr g' hg' h' hq
    | _ => exact hq
abbrev n1 (x0b : Option Addr) (x0n : Nat) (x0c : Nat) (Kn : T0) (Kr : T0) (h : H) : Prop :=
  n2 x0b x0n x0c Kn Kr h
theorem n1_ok (x0b : Option Addr) (x0n : Nat) (x0c : Nat) (Kn : T0) (Kr : T0) (g : Env) (hg : E1 g x0b x0n x0c) (h : H) (hS : n1 x0b x0n x0c Kn Kr h) : wpC none Tryd.prog 80 code (Q0 Kn Kr) g h := by
  obtain ⟨hg0, hds⟩ := hg
  refine wpC_seq' (x := n1_c1) (y := n1_c2) (Q' := (Q9 (fun z0b z0n z0c h => n2 z0b z0n z0c Kn Kr h) Kr)) (by kernel_rfl) ?_ ?_
  · refine wpC_of_wpx (by kernel_rfl) (by kernel_rfl) (g' := (⟨g.v, []⟩ : Env).upd (some 0) (.slice x0b x0n x0c)) (by rw [env_ds hds, upd_self hg0]) ?_
    have e : (n1 x0b x0n x0c Kn Kr h) = wpx none Tryd.prog 80 n1_c1 (Q9 (fun z0b z0n z0c h => n2 z0b z0n z0c Kn Kr h) Kr) ((⟨g.v, []⟩ : Env).upd (some 0) (.slice x0b x0n x0c)) h := by kernel_rfl
    exact e ▸ hS
  · intro e g' h' hq
    cases e with
    | normal =>
      have hq : D1 (fun z0b z0n z0c h => n2 z0b z0n z0c Kn Kr h) g' h' := hq
      obtain ⟨y0b, y0n, y0c, hg', hq⟩ := D1_ok hq
      exact n2_ok y0b y0n y0c Kn Kr g' hg' h' hq
    | _ => exact hq
/-- WHAT tympan/tympanlaw01.UtfLong ASKS -/
abbrev asks (x0b : Option Addr) (x0n : Nat) (x0c : Nat) (K : Value → H → Prop) (h : H) : Prop := n1 x0b x0n x0c (fun y2 h => K (.bool y2) h) (fun y2 h => K (.bool y2) h) h
theorem ok (x0b : Option Addr) (x0n : Nat) (x0c : Nat) (K : Value → H → Prop) (h : H) (hS : asks x0b x0n x0c K h) : HCalls Tryd.prog 8 ⟨[(.slice x0b x0n x0c)]⟩ h K := by
  refine calls_of_wpC (c := code) Tryd.func8 (by kernel_rfl) (Nat.le_of_ble_eq_true (by kernel_rfl)) ?_
  refine (n1_ok x0b x0n x0c (fun y2 h => K (.bool y2) h) (fun y2 h => K (.bool y2) h) (env0 [(.slice x0b x0n x0c)]) ⟨rfl, rfl⟩ h hS).mono ?_
  intro e g' h' hq
  cases e with
  | normal =>
    have hq : D0 (fun y2 h => K (.bool y2) h) g' h' := hq
    obtain ⟨y2, ⟨hg2, hd⟩, hq⟩ := D0_ok hq
    show leaveX g'.ds h' _
    rw [hd]
    show K (g'.v 2) h'
    rw [hg2]
    exact hq
  | ret =>
    have hq : D0 (fun y2 h => K (.bool y2) h) g' h' := hq
    obtain ⟨y2, ⟨hg2, hd⟩, hq⟩ := D0_ok hq
    show leaveX g'.ds h' _
    rw [hd]
    show K (g'.v 2) h'
    rw [hg2]
    exact hq
  | _ => exact hq
end Sx.l01_UtfLong

/-! ### tympan/tympanlaw01.UtfOne -/
namespace Sx.l01_UtfOne
noncomputable def code : Code := bodyOf Tryd.f9
abbrev T0 := Bool → H → Prop
def E0 (g : Env) (x4 : Bool) : Prop := g.v 4 = (.bool x4) ∧ g.ds = []
def D0 (K : T0) (g : Env) (h : H) : Prop := nilDs g.ds (vBool (g.v 4) fun b1 => K b1 h)
theorem D0_ok {K : T0} {g : Env} {h : H} (hq : D0 K g h) : ∃ (x4 : Bool), E0 g x4 ∧ K x4 h := by
  obtain ⟨hd, hq⟩ := nilDs_ok hq
  obtain ⟨y3, e2, q4⟩ := vBool_ok hq
  exact ⟨y3, ⟨e2, hd⟩, q4⟩
def Q0 (Kn : T0) (Kr : T0) : XPost
  | .normal, g, h => D0 Kn g h
  | .ret, g, h => D0 Kr g h
  | _, _, _ => False
abbrev T1 := Int → (Option Addr) → Nat → Nat → H → Prop
def E1 (g : Env) (x0 : Int) (x1b : Option Addr) (x1n : Nat) (x1c : Nat) : Prop := g.v 0 = (.int .i32 x0) ∧ g.v 1 = (.slice x1b x1n x1c) ∧ g.ds = []
def D1 (K : T1) (g : Env) (h : H) : Prop := nilDs g.ds (vInt .i32 (g.v 0) fun i5 => vSlice (g.v 1) fun s6b s6n s6c => K i5 s6b s6n s6c h)
theorem D1_ok {K : T1} {g : Env} {h : H} (hq : D1 K g h) : ∃ (x0 : Int) (x1b : Option Addr) (x1n : Nat) (x1c : Nat), E1 g x0 x1b x1n x1c ∧ K x0 x1b x1n x1c h := by
  obtain ⟨hd, hq⟩ := nilDs_ok hq
  obtain ⟨y8, e7, q9⟩ := vInt_ok hq
  obtain ⟨y11b, y11n, y11c, e10, q12⟩ := vSlice_ok q9
  exact ⟨y8, y11b, y11n, y11c, ⟨e7, e10, hd⟩, q12⟩
noncomputable def n1_c1 : Code := cFst code
noncomputable def n1_c2 : Code := cSnd code
noncomputable def n2_c1 : Code := cFst n1_c2
noncomputable def n2_c2 : Code := cSnd n1_c2
noncomputable def n3_c1 : Code := cFst n2_c2
noncomputable def n3_c2 : Code := cSnd n2_c2
abbrev T2 := Int → (Option Addr) → Nat → Nat → (List UInt8) → H → Prop
def E2 (g : Env) (x0 : Int) (x1b : Option Addr) (x1n : Nat) (x1c : Nat) (x5 : List UInt8) : Prop := g.v 0 = (.int .i32 x0) ∧ g.v 1 = (.slice x1b x1n x1c) ∧ g.v 5 = (S x5) ∧ g.ds = []
def D2 (K : T2) (g : Env) (h : H) : Prop := nilDs g.ds (vInt .i32 (g.v 0) fun i13 => vSlice (g.v 1) fun s14b s14n s14c => vStr (g.v 5) fun s15 => K i13 s14b s14n s14c s15 h)
theorem D2_ok {K : T2} {g : Env} {h : H} (hq : D2 K g h) : ∃ (x0 : Int) (x1b : Option Addr) (x1n : Nat) (x1c : Nat) (x5 : List UInt8), E2 g x0 x1b x1n x1c x5 ∧ K x0 x1b x1n x1c x5 h := by
  obtain ⟨hd, hq⟩ := nilDs_ok hq
  obtain ⟨y17, e16, q18⟩ := vInt_ok hq
  obtain ⟨y20b, y20n, y20c, e19, q21⟩ := vSlice_ok q18
  obtain ⟨y23, e22, q24⟩ := vStr_ok q21
  exact ⟨y17, y20b, y20n, y20c, y23, ⟨e16, e19, e22, hd⟩, q24⟩
noncomputable def n4_c1 : Code := cFst n3_c2
noncomputable def n4_c2 : Code := cSnd n3_c2
abbrev T3 := (Option Addr) → Nat → Nat → (List UInt8) → H → Prop
def E3 (g : Env) (x1b : Option Addr) (x1n : Nat) (x1c : Nat) (x5 : List UInt8) : Prop := g.v 1 = (.slice x1b x1n x1c) ∧ g.v 5 = (S x5) ∧ g.ds = []
def D3 (K : T3) (g : Env) (h : H) : Prop := nilDs g.ds (vSlice (g.v 1) fun s25b s25n s25c => vStr (g.v 5) fun s26 => K s25b s25n s25c s26 h)
theorem D3_ok {K : T3} {g : Env} {h : H} (hq : D3 K g h) : ∃ (x1b : Option Addr) (x1n : Nat) (x1c : Nat) (x5 : List UInt8), E3 g x1b x1n x1c x5 ∧ K x1b x1n x1c x5 h := by
  obtain ⟨hd, hq⟩ := nilDs_ok hq
  obtain ⟨y28b, y28n, y28c, e27, q29⟩ := vSlice_ok hq
  obtain ⟨y31, e30, q32⟩ := vStr_ok q29
  exact ⟨y28b, y28n, y28c, y31, ⟨e27, e30, hd⟩, q32⟩
abbrev n5 (x1b : Option Addr) (x1n : Nat) (x1c : Nat) (x5 : List UInt8) (Kn : T0) (Kr : T0) (h : H) : Prop :=
  ((([97] : List UInt8).length + x5.length : Nat) : Int) ≤ 9223372036854775807 ∧ (SemH Tryd.prog (convert 22 9 (.slice x1b x1n x1c)) h fun v33 h34 => vStr v33 fun s35 => (((([97] : List UInt8) ++ x5).length + s35.length : Nat) : Int) ≤ 9223372036854775807 ∧ (HCalls Tryd.prog 14 ⟨[(S x5)]⟩ h34 fun v36 h37 => vBool v36 fun b38 => cond b38 (SemH Tryd.prog (convert 9 22 (S x5)) h37 fun v39 h40 => vSlice v39 fun s41b s41n s41c => HCalls Tryd.prog 10 ⟨[(.slice s41b s41n s41c)]⟩ h40 fun v42 h43 => vStr v42 fun s44 => Spl (s44 = x5) (SemR Tryd.prog (convert 22 9 (.slice x1b x1n x1c)) h43 fun v45 => vStr v45 fun s46 => HCalls Tryd.prog 14 ⟨[(S ((([97] : List UInt8) ++ x5) ++ s35))]⟩ h43 fun v47 h48 => vBool v47 fun b49 => cond b49 (ExtH h43 h48 ∧ (HCalls Tryd.prog 14 ⟨[(S s46)]⟩ h48 fun v50 h51 => vBool v50 fun b52 => cond b52 (Kr true h51) (Kr false h51))) (ExtH h43 h48 ∧ (HCalls Tryd.prog 14 ⟨[(S s46)]⟩ h48 fun v53 h54 => vBool v53 fun b55 => cond b55 (Kr false h54) (Kr true h54)))) (Kr false h43)) (Kr false h37)))
theorem n5_ok (x1b : Option Addr) (x1n : Nat) (x1c : Nat) (x5 : List UInt8) (Kn : T0) (Kr : T0) (g : Env) (hg : E3 g x1b x1n x1c x5) (h : H) (hS : n5 x1b x1n x1c x5 Kn Kr h) : wpC none Tryd.prog 57 n4_c2 (Q0 Kn Kr) g h := by
  obtain ⟨hg1, hg5, hds⟩ := hg
  refine wpC_of_wpx (by kernel_rfl) (by kernel_rfl) (g' := ((⟨g.v, []⟩ : Env).upd (some 1) (.slice x1b x1n x1c)).upd (some 5) (S x5)) (by rw [env_ds hds, upd_self hg1, upd_self hg5]) ?_
  have e : (n5 x1b x1n x1c x5 Kn Kr h) = wpx none Tryd.prog 57 n4_c2 (Q0 Kn Kr) (((⟨g.v, []⟩ : Env).upd (some 1) (.slice x1b x1n x1c)).upd (some 5) (S x5)) h := by kernel_rfl
  exact e ▸ hS
def Q1 (Kn : T3) (Kr : T0) : XPost
  | .normal, g, h => D3 Kn g h
  | .ret, g, h => D0 Kr g h
  | _, _, _ => False
noncomputable def n6_c1 : Code := cFst n4_c1
noncomputable def n6_c2 : Code := cSnd n4_c1
abbrev T4 := (Option Addr) → Nat → Nat → (List UInt8) → Bool → H → Prop
def E4 (g : Env) (x1b : Option Addr) (x1n : Nat) (x1c : Nat) (x5 : List UInt8) (x23 : Bool) : Prop := g.v 1 = (.slice x1b x1n x1c) ∧ g.v 5 = (S x5) ∧ g.v 23 = (.bool x23) ∧ g.ds = []
def D4 (K : T4) (g : Env) (h : H) : Prop := nilDs g.ds (vSlice (g.v 1) fun s56b s56n s56c => vStr (g.v 5) fun s57 => vBool (g.v 23) fun b58 => K s56b s56n s56c s57 b58 h)
theorem D4_ok {K : T4} {g : Env} {h : H} (hq : D4 K g h) : ∃ (x1b : Option Addr) (x1n : Nat) (x1c : Nat) (x5 : List UInt8) (x23 : Bool), E4 g x1b x1n x1c x5 x23 ∧ K x1b x1n x1c x5 x23 h := by
  obtain ⟨hd, hq⟩ := nilDs_ok hq
  obtain ⟨y60b, y60n, y60c, e59, q61⟩ := vSlice_ok hq
  obtain ⟨y63, e62, q64⟩ := vStr_ok q61
  obtain ⟨y66, e65, q67⟩ := vBool_ok q64
  exact ⟨y60b, y60n, y60c, y63, y66, ⟨e59, e62, e65, hd⟩, q67⟩
abbrev n7 (x1b : Option Addr) (x1n : Nat) (x1c : Nat) (x5 : List UInt8) (x23 : Bool) (Kn : T3) (Kr : T0) (h : H) : Prop :=
  cond x23 (((([97] : List UInt8).length + x5.length : Nat) : Int) ≤ 9223372036854775807 ∧ (SemH Tryd.prog (convert 9 22 (S (([97] : List UInt8) ++ x5))) h fun v68 h69 => vSlice v68 fun s70b s70n s70c => HCalls Tryd.prog 10 ⟨[(.slice s70b s70n s70c)]⟩ h69 fun v71 h72 => vStr v71 fun s73 => ((([97] : List UInt8).length + x5.length : Nat) : Int) ≤ 9223372036854775807 ∧ (SemH Tryd.prog (convert 9 22 (S (([97] : List UInt8) ++ x5))) h72 fun v74 h75 => vSlice v74 fun s76b s76n s76c => HCalls Tryd.prog 12 ⟨[(.slice s76b s76n s76c)]⟩ h75 fun v77 h78 => vStr v77 fun s79 => (0 ≤ (1 : Int) ∧ (1 : Int) ≤ (s79.length : Int) ∧ (s79.length : Int) ≤ (s79.length : Int)) ∧ (((([97] : List UInt8).length + (sub s79 (1 : Int) (s79.length : Int)).length : Nat) : Int) ≤ 9223372036854775807 ∧ (Spl (s73 = (([97] : List UInt8) ++ (sub s79 (1 : Int) (s79.length : Int)))) (Kr true h78) (Kr false h78)))))) (Kn x1b x1n x1c x5 h)
theorem n7_ok (x1b : Option Addr) (x1n : Nat) (x1c : Nat) (x5 : List UInt8) (x23 : Bool) (Kn : T3) (Kr : T0) (g : Env) (hg : E4 g x1b x1n x1c x5 x23) (h : H) (hS : n7 x1b x1n x1c x5 x23 Kn Kr h) : wpC none Tryd.prog 57 n6_c2 (Q1 Kn Kr) g h := by
  obtain ⟨hg1, hg5, hg23, hds⟩ := hg
  refine wpC_of_wpx (by kernel_rfl) (by kernel_rfl) (g' := (((⟨g.v, []⟩ : Env).upd (some 1) (.slice x1b x1n x1c)).upd (some 5) (S x5)).upd (some 23) (.bool x23)) (by rw [env_ds hds, upd_self hg1, upd_self hg5, upd_self hg23]) ?_
  have e : (n7 x1b x1n x1c x5 x23 Kn Kr h) = wpx none Tryd.prog 57 n6_c2 (Q1 Kn Kr) ((((⟨g.v, []⟩ : Env).upd (some 1) (.slice x1b x1n x1c)).upd (some 5) (S x5)).upd (some 23) (.bool x23)) h := by kernel_rfl
  exact e ▸ hS
def Q2 (Kn : T4) (Kr : T0) : XPost
  | .normal, g, h => D4 Kn g h
  | .ret, g, h => D0 Kr g h
  | _, _, _ => False
abbrev n6 (x0 : Int) (x1b : Option Addr) (x1n : Nat) (x1c : Nat) (x5 : List UInt8) (Kn : T3) (Kr : T0) (h : H) : Prop :=
  Spl (x0 = (0 : Int)) (n7 x1b x1n x1c x5 true Kn Kr h) (Spl (x0 = (65279 : Int)) (n7 x1b x1n x1c x5 true Kn Kr h) (n7 x1b x1n x1c x5 false Kn Kr h))
theorem n6_ok (x0 : Int) (x1b : Option Addr) (x1n : Nat) (x1c : Nat) (x5 : List UInt8) (Kn : T3) (Kr : T0) (g : Env) (hg : E2 g x0 x1b x1n x1c x5) (h : H) (hS : n6 x0 x1b x1n x1c x5 Kn Kr h) : wpC none Tryd.prog 57 n4_c1 (Q1 Kn Kr) g h := by
  obtain ⟨hg0, hg1, hg5, hds⟩ := hg
  refine wpC_seq' (x := n6_c1) (y := n6_c2) (Q' := (Q2 (fun z1b z1n z1c z5 z23 h => n7 z1b z1n z1c z5 z23 Kn Kr h) Kr)) (by kernel_rfl) ?_ ?_
  · refine wpC_of_wpx (by kernel_rfl) (by kernel_rfl) (g' := (((⟨g.v, []⟩ : Env).upd (some 0) (.int .i32 x0)).upd (some 1) (.slice x1b x1n x1c)).upd (some 5) (S x5)) (by rw [env_ds hds, upd_self hg0, upd_self hg1, upd_self hg5]) ?_
    have e : (n6 x0 x1b x1n x1c x5 Kn Kr h) = wpx none Tryd.prog 57 n6_c1 (Q2 (fun z1b z1n z1c z5 z23 h => n7 z1b z1n z1c z5 z23 Kn Kr h) Kr) ((((⟨g.v, []⟩ : Env).upd (some 0) (.int .i32 x0)).upd (some 1) (.slice x1b x1n x1c)).upd (some 5) (S x5)) h := by kernel_rfl
    exact e ▸ hS
  · intro e g' h' hq
    cases e with
    | normal =>
      have hq : D4 (fun z1b z1n z1c z5 z23 h => n7 z1b z1n z1c z5 z23 Kn Kr h) g' h' := hq
      obtain ⟨y1b, y1n, y1c, y5, y23, hg', hq⟩ := D4_ok hq
      exact n7_ok y1b y1n y1c y5 y23 Kn Kr g' hg' h' hq
    | _ => exact hq
abbrev n4 (x0 : Int) (x1b : Option Addr) (x1n : Nat) (x1c : Nat) (x5 : List UInt8) (Kn : T0) (Kr : T0) (h : H) : Prop := n6 x0 x1b x1n x1c x5 (fun z1b z1n z1c z5 h => n5 z1b z1n z1c z5 Kn Kr h) Kr h
theorem n4_ok (x0 : Int) (x1b : Option Addr) (x1n : Nat) (x1c : Nat) (x5 : List UInt8) (Kn : T0) (Kr : T0) (g : Env) (hg : E2 g x0 x1b x1n x1c x5) (h : H) (hS : n4 x0 x1b x1n x1c x5 Kn Kr h) : wpC none Tryd.prog 57 n3_c2 (Q0 Kn Kr) g h := by
  refine wpC_seq' (x := n4_c1) (y := n4_c2) (by kernel_rfl) (n6_ok x0 x1b x1n x1c x5 (fun z1b z1n z1c z5 h => n5 z1b z1n z1c z5 Kn Kr h) Kr g hg h hS) ?_
  intro e g' h' hq
  cases e with
  | normal =>
    have hq : D3 (fun z1b z1n z1c z5 h => n5 z1b z1n z1c z5 Kn Kr h) g' h' := hq
    obtain ⟨y1b, y1n, y1c, y5, hg', hq⟩ := D3_ok hq
    exact n5_ok y1b y1n y1c y5 Kn Kr g' hg' h' hq
  | _ => exact hq
def Q3 (Kn : T2) (Kr : T0) : XPost
  | .normal, g, h => D2 Kn g h
  | .ret, g, h => D0 Kr g h
  | _, _, _ => False
abbrev n3 (x0 : Int) (x1b : Option Addr) (x1n : Nat) (x1c : Nat) (Kn : T0) (Kr : T0) (h : H) : Prop :=
  newx h #[(.int .i32 x0)] 21 fun a80 h81 => SemH Tryd.prog (convert 32 9 (.slice (some a80) 1 1)) h81 fun v82 h83 => vStr v82 fun s84 => n4 x0 x1b x1n x1c s84 Kn Kr h83
theorem n3_ok (x0 : Int) (x1b : Option Addr) (x1n : Nat) (x1c : Nat) (Kn : T0) (Kr : T0) (g : Env) (hg : E1 g x0 x1b x1n x1c) (h : H) (hS : n3 x0 x1b x1n x1c Kn Kr h) : wpC none Tryd.prog 57 n2_c2 (Q0 Kn Kr) g h := by
  obtain ⟨hg0, hg1, hds⟩ := hg
  refine wpC_seq' (x := n3_c1) (y := n3_c2) (Q' := (Q3 (fun z0 z1b z1n z1c z5 h => n4 z0 z1b z1n z1c z5 Kn Kr h) Kr)) (by kernel_rfl) ?_ ?_
  · refine wpC_of_wpx (by kernel_rfl) (by kernel_rfl) (g' := ((⟨g.v, []⟩ : Env).upd (some 0) (.int .i32 x0)).upd (some 1) (.slice x1b x1n x1c)) (by rw [env_ds hds, upd_self hg0, upd_self hg1]) ?_
    have e : (n3 x0 x1b x1n x1c Kn Kr h) = wpx none Tryd.prog 57 n3_c1 (Q3 (fun z0 z1b z1n z1c z5 h => n4 z0 z1b z1n z1c z5 Kn Kr h) Kr) (((⟨g.v, []⟩ : Env).upd (some 0) (.int .i32 x0)).upd (some 1) (.slice x1b x1n x1c)) h := by kernel_rfl
    exact e ▸ hS
  · intro e g' h' hq
    cases e with
    | normal =>
      have hq : D2 (fun z0 z1b z1n z1c z5 h => n4 z0 z1b z1n z1c z5 Kn Kr h) g' h' := hq
      obtain ⟨y0, y1b, y1n, y1c, y5, hg', hq⟩ := D2_ok hq
      exact n4_ok y0 y1b y1n y1c y5 Kn Kr g' hg' h' hq
    | _ => exact hq
def Q4 (Kn : T1) (Kr : T0) : XPost
  | .normal, g, h => D1 Kn g h
  | .ret, g, h => D0 Kr g h
  | _, _, _ => False
abbrev n2 (x0 : Int) (x1b : Option Addr) (x1n : Nat) (x1c : Nat) (Kn : T0) (Kr : T0) (h : H) : Prop :=
  Spl ((x1n : Int) > (20000 : Int)) (HCalls Tryd.prog 11 ⟨[]⟩ h fun v85 h86 => vBool v85 fun b87 => cond b87 (Kr true h86) (Kr false h86)) (HCalls Tryd.prog 11 ⟨[]⟩ h fun v88 h89 => vBool v88 fun b90 => cond b90 (n3 x0 x1b x1n x1c Kn Kr h89) (HCalls Tryd.prog 11 ⟨[]⟩ h89 fun v91 h92 => vBool v91 fun b93 => cond b93 (Kr true h92) (Kr false h92)))
theorem n2_ok (x0 : Int) (x1b : Option Addr) (x1n : Nat) (x1c : Nat) (Kn : T0) (Kr : T0) (g : Env) (hg : E1 g x0 x1b x1n x1c) (h : H) (hS : n2 x0 x1b x1n x1c Kn Kr h) : wpC none Tryd.prog 57 n1_c2 (Q0 Kn Kr) g h := by
  obtain ⟨hg0, hg1, hds⟩ := hg
  refine wpC_seq' (x := n2_c1) (y := n2_c2) (Q' := (Q4 (fun z0 z1b z1n z1c h => n3 z0 z1b z1n z1c Kn Kr h) Kr)) (by kernel_rfl) ?_ ?_
  · refine wpC_of_wpx (by kernel_rfl) (by kernel_rfl) (g' := ((⟨g.v, []⟩ : Env).upd (some 0) (.int .i32 x0)).upd (some 1) (.slice x1b x1n x1c)) (by rw [env_ds hds, upd_self hg0, upd_self hg1]) ?_
    have e : (n2 x0 x1b x1n x1c Kn Kr h) = wpx none Tryd.prog 57 n2_c1 (Q4 (fun z0 z1b z1n z1c h => n3 z0 z1b z1n z1c Kn Kr h) Kr) (((⟨g.v, []⟩ : Env).upd (some 0) (.int .i32 x0)).upd (some 1) (.slice x1b x1n x1c)) h := by kernel_rfl
    exact e ▸ hS
  · intro e g' h' hq
    cases e with
    | normal =>
      have hq : D1 (fun z0 z1b z1n z1c h => n3 z0 z1b z1n z1c Kn Kr h) g' h' := hq
      obtain ⟨y0, y1b, y1n, y1c, hg', hq⟩ := D1_ok hq
      exact n3_ok y0 y1b y1n y1c Kn Kr g' hg' h' hq
    | _ => exact hq
abbrev n1 (x0 : Int) (x1b : Option Addr) (x1n : Nat) (x1c : Nat) (Kn : T0) (Kr : T0) (h : H) : Prop :=
  n2 x0 x1b x1n x1c Kn Kr h
theorem n1_ok (x0 : Int) (x1b : Option Addr) (x1n : Nat) (x1c : Nat) (Kn : T0) (Kr : T0) (g : Env) (hg : E1 g x0 x1b x1n x1c) (h : H) (hS : n1 x0 x1b x1n x1c Kn Kr h) : wpC none Tryd.prog 57 code (Q0 Kn Kr) g h := by
  obtain ⟨hg0, hg1, hds⟩ := hg
  refine wpC_seq' (x := n1_c1) (y := n1_c2) (Q' := (Q4 (fun z0 z1b z1n z1c h => n2 z0 z1b z1n z1c Kn Kr h) Kr)) (by kernel_rfl) ?_ ?_
  · refine wpC_of_wpx (by kernel_rfl) (by kernel_rfl) (g' := ((⟨g.v, []⟩ : Env).upd (some 0) (.int .i32 x0)).upd (some 1) (.slice x1b x1n x1c)) (by rw [env_ds hds, upd_self hg0, upd_self hg1]) ?_
    have e : (n1 x0 x1b x1n x1c Kn Kr h) = wpx none Tryd.prog 57 n1_c1 (Q4 (fun z0 z1b z1n z1c h => n2 z0 z1b z1n z1c Kn Kr h) Kr) (((⟨g.v, []⟩ : Env).upd (some 0) (.int .i32 x0)).upd (some 1) (.slice x1b x1n x1c)) h := by kernel_rfl
    exact e ▸ hS
  · intro e g' h' hq
    cases e with
    | normal =>
      have hq : D1 (fun z0 z1b z1n z1c h => n2 z0 z1b z1n z1c Kn Kr h) g' h' := hq
      obtain ⟨y0, y1b, y1n, y1c, hg', hq⟩ := D1_ok hq
      exact n2_ok y0 y1b y1n y1c Kn Kr g' hg' h' hq
    | _ => exact hq
/-- WHAT tympan/tympanlaw01.UtfOne ASKS -/
abbrev asks (x0 : Int) (x1b : Option Addr) (x1n : Nat) (x1c : Nat) (K : Value → H → Prop) (h : H) : Prop := n1 x0 x1b x1n x1c (fun y4 h => K (.bool y4) h) (fun y4 h => K (.bool y4) h) h
theorem ok (x0 : Int) (x1b : Option Addr) (x1n : Nat) (x1c : Nat) (K : Value → H → Prop) (h : H) (hS : asks x0 x1b x1n x1c K h) : HCalls Tryd.prog 9 ⟨[(.int .i32 x0), (.slice x1b x1n x1c)]⟩ h K := by
  refine calls_of_wpC (c := code) Tryd.func9 (by kernel_rfl) (Nat.le_of_ble_eq_true (by kernel_rfl)) ?_
  refine (n1_ok x0 x1b x1n x1c (fun y4 h => K (.bool y4) h) (fun y4 h => K (.bool y4) h) (env0 [(.int .i32 x0), (.slice x1b x1n x1c)]) ⟨rfl, rfl, rfl⟩ h hS).mono ?_
  intro e g' h' hq
  cases e with
  | normal =>
    have hq : D0 (fun y4 h => K (.bool y4) h) g' h' := hq
    obtain ⟨y4, ⟨hg4, hd⟩, hq⟩ := D0_ok hq
    show leaveX g'.ds h' _
    rw [hd]
    show K (g'.v 4) h'
    rw [hg4]
    exact hq
  | ret =>
    have hq : D0 (fun y4 h => K (.bool y4) h) g' h' := hq
    obtain ⟨y4, ⟨hg4, hd⟩, hq⟩ := D0_ok hq
    show leaveX g'.ds h' _
    rw [hd]
    show K (g'.v 4) h'
    rw [hg4]
    exact hq
  | _ => exact hq
end Sx.l01_UtfOne

/-! ### tympan/tympanlaw01.known -/
namespace Sx.l01_known
noncomputable def code : Code := bodyOf Tryd.f11
abbrev T0 := Bool → H → Prop
def E0 (g : Env) (x0 : Bool) : Prop := g.v 0 = (.bool x0) ∧ g.ds = []
def D0 (K : T0) (g : Env) (h : H) : Prop := nilDs g.ds (vBool (g.v 0) fun b1 => K b1 h)
theorem D0_ok {K : T0} {g : Env} {h : H} (hq : D0 K g h) : ∃ (x0 : Bool), E0 g x0 ∧ K x0 h := by
  obtain ⟨hd, hq⟩ := nilDs_ok hq
  obtain ⟨y3, e2, q4⟩ := vBool_ok hq
  exact ⟨y3, ⟨e2, hd⟩, q4⟩
def Q0 (Kn : T0) (Kr : T0) : XPost
  | .normal, g, h => D0 Kn g h
  | .ret, g, h => D0 Kr g h
  | _, _, _ => False
abbrev T1 := H → Prop
def E1 (g : Env)  : Prop := g.ds = []
def D1 (K : T1) (g : Env) (h : H) : Prop := nilDs g.ds (K h)
theorem D1_ok {K : T1} {g : Env} {h : H} (hq : D1 K g h) : E1 g  ∧ K  h := by
  obtain ⟨hd, hq⟩ := nilDs_ok hq
  skip
  exact ⟨hd, hq⟩
abbrev n1  (Kn : T0) (Kr : T0) (h : H) : Prop :=
  newx h #[(.int .u8 (97 : Int)), (.int .u8 (0 : Int)), (.int .u8 (255 : Int)), (.int .u8 (98 : Int))] 5 fun a5 h6 => HCalls Tryd.prog 10 ⟨[(.slice (some a5) 4 4)]⟩ h6 fun v7 h8 => vStr v7 fun s9 => Spl (s9 = ([97, 239, 191, 189, 239, 191, 189, 98] : List UInt8)) (HCalls Tryd.prog 19 ⟨[(S ([97, 13, 10, 10, 98] : List UInt8))]⟩ h8 fun v10 h11 => vSlice v10 fun s12b s12n s12c => Spl ((s12n : Int) = (3 : Int)) (HCalls Tryd.prog 14 ⟨[(S ([97] : List UInt8))]⟩ h11 fun v13 h14 => vBool v13 fun b15 => cond b15 (HCalls Tryd.prog 14 ⟨[(S ([0] : List UInt8))]⟩ h14 fun v16 h17 => vBool v16 fun b18 => cond b18 (Kr false h17) (HCalls Tryd.prog 16 ⟨[(S ([97, 13, 98] : List UInt8))]⟩ h17 fun v19 h20 => vStr v19 fun s21 => Spl (s21 = ([97, 10, 98] : List UInt8)) (Kr true h20) (Kr false h20))) (Kr false h14)) (Kr false h11)) (Kr false h8)
theorem n1_ok  (Kn : T0) (Kr : T0) (g : Env) (hg : E1 g ) (h : H) (hS : n1  Kn Kr h) : wpC none Tryd.prog 20 code (Q0 Kn Kr) g h := by
  have hds : g.ds = [] := hg
  refine wpC_of_wpx (by kernel_rfl) (by kernel_rfl) (g' := ⟨g.v, []⟩) (by rw [env_ds hds]) ?_
  have e : (n1  Kn Kr h) = wpx none Tryd.prog 20 code (Q0 Kn Kr) (⟨g.v, []⟩) h := by kernel_rfl
  exact e ▸ hS
/-- WHAT tympan/tympanlaw01.known ASKS -/
abbrev asks  (K : Value → H → Prop) (h : H) : Prop := n1  (fun y0 h => K (.bool y0) h) (fun y0 h => K (.bool y0) h) h
theorem ok  (K : Value → H → Prop) (h : H) (hS : asks  K h) : HCalls Tryd.prog 11 ⟨[]⟩ h K := by
  refine calls_of_wpC (c := code) Tryd.func11 (by kernel_rfl) (Nat.le_of_ble_eq_true (by kernel_rfl)) ?_
  refine (n1_ok  (fun y0 h => K (.bool y0) h) (fun y0 h => K (.bool y0) h) (env0 []) rfl h hS).mono ?_
  intro e g' h' hq
  cases e with
  | normal =>
    have hq : D0 (fun y0 h => K (.bool y0) h) g' h' := hq
    obtain ⟨y0, ⟨hg0, hd⟩, hq⟩ := D0_ok hq
    show leaveX g'.ds h' _
    rw [hd]
    show K (g'.v 0) h'
    rw [hg0]
    exact hq
  | ret =>
    have hq : D0 (fun y0 h => K (.bool y0) h) g' h' := hq
    obtain ⟨y0, ⟨hg0, hd⟩, hq⟩ := D0_ok hq
    show leaveX g'.ds h' _
    rw [hd]
    show K (g'.v 0) h'
    rw [hg0]
    exact hq
  | _ => exact hq
end Sx.l01_known

/-! ### tympan/tympanref00.SameBytes -/
namespace Sx.r00_SameBytes
noncomputable def code : Code := bodyOf Tryd.f13
abbrev T0 := Bool → H → Prop
def E0 (g : Env) (x4 : Bool) : Prop := g.v 4 = (.bool x4) ∧ g.ds = []
def D0 (K : T0) (g : Env) (h : H) : Prop := nilDs g.ds (vBool (g.v 4) fun b1 => K b1 h)
theorem D0_ok {K : T0} {g : Env} {h : H} (hq : D0 K g h) : ∃ (x4 : Bool), E0 g x4 ∧ K x4 h := by
  obtain ⟨hd, hq⟩ := nilDs_ok hq
  obtain ⟨y3, e2, q4⟩ := vBool_ok hq
  exact ⟨y3, ⟨e2, hd⟩, q4⟩
def Q0 (Kn : T0) (Kr : T0) : XPost
  | .normal, g, h => D0 Kn g h
  | .ret, g, h => D0 Kr g h
  | _, _, _ => False
abbrev T1 := (Option Addr) → Nat → Nat → (Option Addr) → Nat → Nat → H → Prop
def E1 (g : Env) (x0b : Option Addr) (x0n : Nat) (x0c : Nat) (x1b : Option Addr) (x1n : Nat) (x1c : Nat) : Prop := g.v 0 = (.slice x0b x0n x0c) ∧ g.v 1 = (.slice x1b x1n x1c) ∧ g.ds = []
def D1 (K : T1) (g : Env) (h : H) : Prop := nilDs g.ds (vSlice (g.v 0) fun s5b s5n s5c => vSlice (g.v 1) fun s6b s6n s6c => K s5b s5n s5c s6b s6n s6c h)
theorem D1_ok {K : T1} {g : Env} {h : H} (hq : D1 K g h) : ∃ (x0b : Option Addr) (x0n : Nat) (x0c : Nat) (x1b : Option Addr) (x1n : Nat) (x1c : Nat), E1 g x0b x0n x0c x1b x1n x1c ∧ K x0b x0n x0c x1b x1n x1c h := by
  obtain ⟨hd, hq⟩ := nilDs_ok hq
  obtain ⟨y8b, y8n, y8c, e7, q9⟩ := vSlice_ok hq
  obtain ⟨y11b, y11n, y11c, e10, q12⟩ := vSlice_ok q9
  exact ⟨y8b, y8n, y8c, y11b, y11n, y11c, ⟨e7, e10, hd⟩, q12⟩
abbrev n1 (x0b : Option Addr) (x0n : Nat) (x0c : Nat) (x1b : Option Addr) (x1n : Nat) (x1c : Nat) (Kn : T0) (Kr : T0) (h : H) : Prop :=
  SemH Tryd.prog (convert 22 9 (.slice x0b x0n x0c)) h fun v13 h14 => vStr v13 fun s15 => SemH Tryd.prog (convert 22 9 (.slice x1b x1n x1c)) h14 fun v16 h17 => vStr v16 fun s18 => Spl (s15 = s18) (Kr true h17) (Kr false h17)
theorem n1_ok (x0b : Option Addr) (x0n : Nat) (x0c : Nat) (x1b : Option Addr) (x1n : Nat) (x1c : Nat) (Kn : T0) (Kr : T0) (g : Env) (hg : E1 g x0b x0n x0c x1b x1n x1c) (h : H) (hS : n1 x0b x0n x0c x1b x1n x1c Kn Kr h) : wpC none Tryd.prog 10 code (Q0 Kn Kr) g h := by
  obtain ⟨hg0, hg1, hds⟩ := hg
  refine wpC_of_wpx (by kernel_rfl) (by kernel_rfl) (g' := ((⟨g.v, []⟩ : Env).upd (some 0) (.slice x0b x0n x0c)).upd (some 1) (.slice x1b x1n x1c)) (by rw [env_ds hds, upd_self hg0, upd_self hg1]) ?_
  have e : (n1 x0b x0n x0c x1b x1n x1c Kn Kr h) = wpx none Tryd.prog 10 code (Q0 Kn Kr) (((⟨g.v, []⟩ : Env).upd (some 0) (.slice x0b x0n x0c)).upd (some 1) (.slice x1b x1n x1c)) h := by kernel_rfl
  exact e ▸ hS
/-- WHAT tympan/tympanref00.SameBytes ASKS -/
abbrev asks (x0b : Option Addr) (x0n : Nat) (x0c : Nat) (x1b : Option Addr) (x1n : Nat) (x1c : Nat) (K : Value → H → Prop) (h : H) : Prop := n1 x0b x0n x0c x1b x1n x1c (fun y4 h => K (.bool y4) h) (fun y4 h => K (.bool y4) h) h
theorem ok (x0b : Option Addr) (x0n : Nat) (x0c : Nat) (x1b : Option Addr) (x1n : Nat) (x1c : Nat) (K : Value → H → Prop) (h : H) (hS : asks x0b x0n x0c x1b x1n x1c K h) : HCalls Tryd.prog 13 ⟨[(.slice x0b x0n x0c), (.slice x1b x1n x1c)]⟩ h K := by
  refine calls_of_wpC (c := code) Tryd.func13 (by kernel_rfl) (Nat.le_of_ble_eq_true (by kernel_rfl)) ?_
  refine (n1_ok x0b x0n x0c x1b x1n x1c (fun y4 h => K (.bool y4) h) (fun y4 h => K (.bool y4) h) (env0 [(.slice x0b x0n x0c), (.slice x1b x1n x1c)]) ⟨rfl, rfl, rfl⟩ h hS).mono ?_
  intro e g' h' hq
  cases e with
  | normal =>
    have hq : D0 (fun y4 h => K (.bool y4) h) g' h' := hq
    obtain ⟨y4, ⟨hg4, hd⟩, hq⟩ := D0_ok hq
    show leaveX g'.ds h' _
    rw [hd]
    show K (g'.v 4) h'
    rw [hg4]
    exact hq
  | ret =>
    have hq : D0 (fun y4 h => K (.bool y4) h) g' h' := hq
    obtain ⟨y4, ⟨hg4, hd⟩, hq⟩ := D0_ok hq
    show leaveX g'.ds h' _
    rw [hd]
    show K (g'.v 4) h'
    rw [hg4]
    exact hq
  | _ => exact hq
end Sx.r00_SameBytes

/-! ### tympan/utf.Right -/
namespace Sx.utf_Right
noncomputable def code : Code := bodyOf Tryd.f14
abbrev T0 := Bool → H → Prop
def E0 (g : Env) (x2 : Bool) : Prop := g.v 2 = (.bool x2) ∧ g.ds = []
def D0 (K : T0) (g : Env) (h : H) : Prop := nilDs g.ds (vBool (g.v 2) fun b1 => K b1 h)
theorem D0_ok {K : T0} {g : Env} {h : H} (hq : D0 K g h) : ∃ (x2 : Bool), E0 g x2 ∧ K x2 h := by
  obtain ⟨hd, hq⟩ := nilDs_ok hq
  obtain ⟨y3, e2, q4⟩ := vBool_ok hq
  exact ⟨y3, ⟨e2, hd⟩, q4⟩
def Q0 (Kn : T0) (Kr : T0) : XPost
  | .normal, g, h => D0 Kn g h
  | .ret, g, h => D0 Kr g h
  | _, _, _ => False
abbrev T1 := (List UInt8) → H → Prop
def E1 (g : Env) (x0 : List UInt8) : Prop := g.v 0 = (S x0) ∧ g.ds = []
def D1 (K : T1) (g : Env) (h : H) : Prop := nilDs g.ds (vStr (g.v 0) fun s5 => K s5 h)
theorem D1_ok {K : T1} {g : Env} {h : H} (hq : D1 K g h) : ∃ (x0 : List UInt8), E1 g x0 ∧ K x0 h := by
  obtain ⟨hd, hq⟩ := nilDs_ok hq
  obtain ⟨y7, e6, q8⟩ := vStr_ok hq
  exact ⟨y7, ⟨e6, hd⟩, q8⟩
noncomputable def n1_c1 : Code := cFst code
noncomputable def n1_c2 : Code := cSnd code
noncomputable def n2_c1 : Code := cFst n1_c2
noncomputable def n2_c2 : Code := cSnd n1_c2
abbrev T2 := H → Prop
def E2 (g : Env)  : Prop := g.ds = []
def D2 (K : T2) (g : Env) (h : H) : Prop := nilDs g.ds (K h)
theorem D2_ok {K : T2} {g : Env} {h : H} (hq : D2 K g h) : E2 g  ∧ K  h := by
  obtain ⟨hd, hq⟩ := nilDs_ok hq
  skip
  exact ⟨hd, hq⟩
abbrev n3  (Kn : T0) (Kr : T0) (h : H) : Prop :=
  Kr true h
theorem n3_ok  (Kn : T0) (Kr : T0) (g : Env) (hg : E2 g ) (h : H) (hS : n3  Kn Kr h) : wpC none Tryd.prog 24 n2_c2 (Q0 Kn Kr) g h := by
  have hds : g.ds = [] := hg
  refine wpC_of_wpx (by kernel_rfl) (by kernel_rfl) (g' := ⟨g.v, []⟩) (by rw [env_ds hds]) ?_
  have e : (n3  Kn Kr h) = wpx none Tryd.prog 24 n2_c2 (Q0 Kn Kr) (⟨g.v, []⟩) h := by kernel_rfl
  exact e ▸ hS
def Q1 (Kn : T2) (Kr : T0) : XPost
  | .normal, g, h => D2 Kn g h
  | .ret, g, h => D0 Kr g h
  | _, _, _ => False
noncomputable def n4_c1 : Code := cFst n2_c1
noncomputable def n4_c2 : Code := cSnd n2_c1
abbrev T3 := (List UInt8) → Addr → H → Prop
def E3 (g : Env) (x0 : List UInt8) (x6 : Addr) : Prop := g.v 0 = (S x0) ∧ g.v 6 = (.pointer (some x6)) ∧ g.ds = []
def D3 (K : T3) (g : Env) (h : H) : Prop := nilDs g.ds (vStr (g.v 0) fun s9 => vAddr (g.v 6) fun a10 => K s9 a10 h)
theorem D3_ok {K : T3} {g : Env} {h : H} (hq : D3 K g h) : ∃ (x0 : List UInt8) (x6 : Addr), E3 g x0 x6 ∧ K x0 x6 h := by
  obtain ⟨hd, hq⟩ := nilDs_ok hq
  obtain ⟨y12, e11, q13⟩ := vStr_ok hq
  obtain ⟨y15, e14, q16⟩ := vAddr_ok q13
  exact ⟨y12, y15, ⟨e11, e14, hd⟩, q16⟩
noncomputable def n5_c1 : Code := cFst n4_c2
def Q2 (Kn : T2) (Ke0 : T2) (Kr : T0) : XPost
  | .normal, g, h => D2 Kn g h
  | .ret, g, h => D0 Kr g h
  | .exit id, g, h => cond (Nat.beq id 0) (D2 Ke0 g h) (False)
  | _, _, _ => False
noncomputable def n6_c1 : Code := cFst n5_c1
def Q3 (Kn : T3) (Ke0 : T2) (Kr : T0) : XPost
  | .normal, g, h => D3 Kn g h
  | .ret, g, h => D0 Kr g h
  | .exit id, g, h => cond (Nat.beq id 0) (D2 Ke0 g h) (False)
  | _, _, _ => False
noncomputable def n7_c1 : Code := cFst n6_c1
noncomputable def n7_c2 : Code := cSnd n6_c1
abbrev T4 := (List UInt8) → Addr → Value → Bool → H → Prop
def E4 (g : Env) (x0 : List UInt8) (x6 : Addr) (x7 : Value) (x8 : Bool) : Prop := g.v 0 = (S x0) ∧ g.v 6 = (.pointer (some x6)) ∧ g.v 7 = x7 ∧ g.v 8 = (.bool x8) ∧ g.ds = []
def D4 (K : T4) (g : Env) (h : H) : Prop := nilDs g.ds (vStr (g.v 0) fun s17 => vAddr (g.v 6) fun a18 => vBool (g.v 8) fun b19 => K s17 a18 (g.v 7) b19 h)
theorem D4_ok {K : T4} {g : Env} {h : H} (hq : D4 K g h) : ∃ (x0 : List UInt8) (x6 : Addr) (x7 : Value) (x8 : Bool), E4 g x0 x6 x7 x8 ∧ K x0 x6 x7 x8 h := by
  obtain ⟨hd, hq⟩ := nilDs_ok hq
  obtain ⟨y21, e20, q22⟩ := vStr_ok hq
  obtain ⟨y24, e23, q25⟩ := vAddr_ok q22
  obtain ⟨y27, e26, q28⟩ := vBool_ok q25
  exact ⟨y21, y24, (g.v 7), y27, ⟨e20, e23, rfl, e26, hd⟩, q28⟩
abbrev n8 (x0 : List UInt8) (x6 : Addr) (x7 : Value) (x8 : Bool) (Kn : T3) (Ke0 : T2) (Kr : T0) (h : H) : Prop :=
  cond x8 (vTup x7 fun l29 => vNth l29 1 fun e30 => vInt .i64 e30 fun i31 => vTup x7 fun l32 => vNth l32 2 fun e33 => vInt .i32 e33 fun i34 => Spl (i34 = (0 : Int)) (Kr false h) (Spl (i34 = (65533 : Int)) ((0 ≤ i31 ∧ i31 ≤ (x0.length : Int) ∧ (x0.length : Int) ≤ (x0.length : Int)) ∧ (HCalls Tryd.prog 26 ⟨[(S (sub x0 i31 (x0.length : Int))), (S ([239, 191, 189] : List UInt8))]⟩ h fun v35 h36 => vBool v35 fun b37 => cond b37 (Kn x0 x6 h36) (Kr false h36))) (Kn x0 x6 h))) (Ke0 h)
theorem n8_ok (x0 : List UInt8) (x6 : Addr) (x7 : Value) (x8 : Bool) (Kn : T3) (Ke0 : T2) (Kr : T0) (g : Env) (hg : E4 g x0 x6 x7 x8) (h : H) (hS : n8 x0 x6 x7 x8 Kn Ke0 Kr h) : wpC none Tryd.prog 24 n7_c2 (Q3 Kn Ke0 Kr) g h := by
  obtain ⟨hg0, hg6, hg7, hg8, hds⟩ := hg
  refine wpC_of_wpx (by kernel_rfl) (by kernel_rfl) (g' := ((((⟨g.v, []⟩ : Env).upd (some 0) (S x0)).upd (some 6) (.pointer (some x6))).upd (some 7) x7).upd (some 8) (.bool x8)) (by rw [env_ds hds, upd_self hg0, upd_self hg6, upd_self hg7, upd_self hg8]) ?_
  have e : (n8 x0 x6 x7 x8 Kn Ke0 Kr h) = wpx none Tryd.prog 24 n7_c2 (Q3 Kn Ke0 Kr) (((((⟨g.v, []⟩ : Env).upd (some 0) (S x0)).upd (some 6) (.pointer (some x6))).upd (some 7) x7).upd (some 8) (.bool x8)) h := by kernel_rfl
  exact e ▸ hS
def Q4 (Kn : T4) (Ke0 : T2) (Kr : T0) : XPost
  | .normal, g, h => D4 Kn g h
  | .ret, g, h => D0 Kr g h
  | .exit id, g, h => cond (Nat.beq id 0) (D2 Ke0 g h) (False)
  | _, _, _ => False
abbrev n7 (x0 : List UInt8) (x6 : Addr) (Kn : T3) (Ke0 : T2) (Kr : T0) (h : H) : Prop :=
  SemH Tryd.prog (Instr.next (.pointer (some x6)) true 0) h fun v38 h39 => vTup v38 fun l40 => vNth l40 0 fun e41 => vBool e41 fun b42 => cond b42 (n8 x0 x6 v38 true Kn Ke0 Kr h39) (n8 x0 x6 v38 false Kn Ke0 Kr h39)
theorem n7_ok (x0 : List UInt8) (x6 : Addr) (Kn : T3) (Ke0 : T2) (Kr : T0) (g : Env) (hg : E3 g x0 x6) (h : H) (hS : n7 x0 x6 Kn Ke0 Kr h) : wpC none Tryd.prog 24 n6_c1 (Q3 Kn Ke0 Kr) g h := by
  obtain ⟨hg0, hg6, hds⟩ := hg
  refine wpC_seq' (x := n7_c1) (y := n7_c2) (Q' := (Q4 (fun z0 z6 z7 z8 h => n8 z0 z6 z7 z8 Kn Ke0 Kr h) Ke0 Kr)) (by kernel_rfl) ?_ ?_
  · refine wpC_of_wpx (by kernel_rfl) (by kernel_rfl) (g' := ((⟨g.v, []⟩ : Env).upd (some 0) (S x0)).upd (some 6) (.pointer (some x6))) (by rw [env_ds hds, upd_self hg0, upd_self hg6]) ?_
    have e : (n7 x0 x6 Kn Ke0 Kr h) = wpx none Tryd.prog 24 n7_c1 (Q4 (fun z0 z6 z7 z8 h => n8 z0 z6 z7 z8 Kn Ke0 Kr h) Ke0 Kr) (((⟨g.v, []⟩ : Env).upd (some 0) (S x0)).upd (some 6) (.pointer (some x6))) h := by kernel_rfl
    exact e ▸ hS
  · intro e g' h' hq
    cases e with
    | normal =>
      have hq : D4 (fun z0 z6 z7 z8 h => n8 z0 z6 z7 z8 Kn Ke0 Kr h) g' h' := hq
      obtain ⟨y0, y6, y7, y8, hg', hq⟩ := D4_ok hq
      exact n8_ok y0 y6 y7 y8 Kn Ke0 Kr g' hg' h' hq
    | _ => exact hq
def n6_L (Kn : T2) (Ke0 : T2) (Kr : T0) : Nat → (List UInt8) → Addr → H → Prop
  | 0 => fun _ _ _ => False
  | N + 1 => fun x0 x6 h => n7 x0 x6 (fun z0 z6 h => n6_L Kn Ke0 Kr N z0 z6 h) Ke0 Kr h
abbrev n6 (x0 : List UInt8) (x6 : Addr) (Kn : T2) (Ke0 : T2) (Kr : T0) (h : H) : Prop := ∃ N, n6_L Kn Ke0 Kr N x0 x6 h
theorem n6_ok (x0 : List UInt8) (x6 : Addr) (Kn : T2) (Ke0 : T2) (Kr : T0) (g : Env) (hg : E3 g x0 x6) (h : H) (hS : n6 x0 x6 Kn Ke0 Kr h) : wpC none Tryd.prog 24 n5_c1 (Q2 Kn Ke0 Kr) g h := by
  obtain ⟨N0, hS⟩ := hS
  refine wpC_loop' (x := n6_c1) (by kernel_rfl) (fun k g h => ∃ (x0 : List UInt8) (x6 : Addr), E3 g x0 x6 ∧ n6_L Kn Ke0 Kr k x0 x6 h) (fun g h hr => ?_) (fun N g h hr => ?_) N0 ⟨x0, x6, hg, hS⟩
  · obtain ⟨x0, x6, hg, hS⟩ := hr
    exact hS.elim
  · obtain ⟨x0, x6, hg, hS⟩ := hr
    refine (n7_ok x0 x6 (fun z0 z6 h => n6_L Kn Ke0 Kr N z0 z6 h) Ke0 Kr g hg h hS).mono ?_
    intro e g' h' hq
    cases e with
    | normal => exact D3_ok (K := (fun z0 z6 h => n6_L Kn Ke0 Kr N z0 z6 h)) hq
    | _ => exact hq
abbrev n5 (x0 : List UInt8) (x6 : Addr) (Kn : T2) (Kr : T0) (h : H) : Prop := n6 x0 x6 Kn Kn Kr h
theorem n5_ok (x0 : List UInt8) (x6 : Addr) (Kn : T2) (Kr : T0) (g : Env) (hg : E3 g x0 x6) (h : H) (hS : n5 x0 x6 Kn Kr h) : wpC none Tryd.prog 24 n4_c2 (Q1 Kn Kr) g h := by
  refine wpC_block' (id := 0) (x := n5_c1) (by kernel_rfl) (n6_ok x0 x6 Kn Kn Kr g hg h hS) ?_
  intro e g' h' hq
  cases e <;> exact hq
def Q5 (Kn : T3) (Kr : T0) : XPost
  | .normal, g, h => D3 Kn g h
  | .ret, g, h => D0 Kr g h
  | _, _, _ => False
abbrev n4 (x0 : List UInt8) (Kn : T2) (Kr : T0) (h : H) : Prop :=
  SemH Tryd.prog (Instr.range 9 (S x0)) h fun v43 h44 => vAddr v43 fun a45 => n5 x0 a45 Kn Kr h44
theorem n4_ok (x0 : List UInt8) (Kn : T2) (Kr : T0) (g : Env) (hg : E1 g x0) (h : H) (hS : n4 x0 Kn Kr h) : wpC none Tryd.prog 24 n2_c1 (Q1 Kn Kr) g h := by
  obtain ⟨hg0, hds⟩ := hg
  refine wpC_seq' (x := n4_c1) (y := n4_c2) (Q' := (Q5 (fun z0 z6 h => n5 z0 z6 Kn Kr h) Kr)) (by kernel_rfl) ?_ ?_
  · refine wpC_of_wpx (by kernel_rfl) (by kernel_rfl) (g' := (⟨g.v, []⟩ : Env).upd (some 0) (S x0)) (by rw [env_ds hds, upd_self hg0]) ?_
    have e : (n4 x0 Kn Kr h) = wpx none Tryd.prog 24 n4_c1 (Q5 (fun z0 z6 h => n5 z0 z6 Kn Kr h) Kr) ((⟨g.v, []⟩ : Env).upd (some 0) (S x0)) h := by kernel_rfl
    exact e ▸ hS
  · intro e g' h' hq
    cases e with
    | normal =>
      have hq : D3 (fun z0 z6 h => n5 z0 z6 Kn Kr h) g' h' := hq
      obtain ⟨y0, y6, hg', hq⟩ := D3_ok hq
      exact n5_ok y0 y6 Kn Kr g' hg' h' hq
    | _ => exact hq
abbrev n2 (x0 : List UInt8) (Kn : T0) (Kr : T0) (h : H) : Prop := n4 x0 (fun  h => n3 Kn Kr h) Kr h
theorem n2_ok (x0 : List UInt8) (Kn : T0) (Kr : T0) (g : Env) (hg : E1 g x0) (h : H) (hS : n2 x0 Kn Kr h) : wpC none Tryd.prog 24 n1_c2 (Q0 Kn Kr) g h := by
  refine wpC_seq' (x := n2_c1) (y := n2_c2) (by kernel_rfl) (n4_ok x0 (fun  h => n3 Kn Kr h) Kr g hg h hS) ?_
  intro e g' h' hq
  cases e with
  | normal =>
    have hq : D2 (fun  h => n3 Kn Kr h) g' h' := hq
    obtain ⟨hg', hq⟩ := D2_ok hq
    exact n3_ok  Kn Kr g' hg' h' hq
  | _ => exact hq
def Q6 (Kn : T1) (Kr : T0) : XPost
  | .normal, g, h => D1 Kn g h
  | .ret, g, h => D0 Kr g h
  | _, _, _ => False
abbrev n1 (x0 : List UInt8) (Kn : T0) (Kr : T0) (h : H) : Prop :=
  n2 x0 Kn Kr h
theorem n1_ok (x0 : List UInt8) (Kn : T0) (Kr : T0) (g : Env) (hg : E1 g x0) (h : H) (hS : n1 x0 Kn Kr h) : wpC none Tryd.prog 24 code (Q0 Kn Kr) g h := by
  obtain ⟨hg0, hds⟩ := hg
  refine wpC_seq' (x := n1_c1) (y := n1_c2) (Q' := (Q6 (fun z0 h => n2 z0 Kn Kr h) Kr)) (by kernel_rfl) ?_ ?_
  · refine wpC_of_wpx (by kernel_rfl) (by kernel_rfl) (g' := (⟨g.v, []⟩ : Env).upd (some 0) (S x0)) (by rw [env_ds hds, upd_self hg0]) ?_
    have e : (n1 x0 Kn Kr h) = wpx none Tryd.prog 24 n1_c1 (Q6 (fun z0 h => n2 z0 Kn Kr h) Kr) ((⟨g.v, []⟩ : Env).upd (some 0) (S x0)) h := by kernel_rfl
    exact e ▸ hS
  · intro e g' h' hq
    cases e with
    | normal =>
      have hq : D1 (fun z0 h => n2 z0 Kn Kr h) g' h' := hq
      obtain ⟨y0, hg', hq⟩ := D1_ok hq
      exact n2_ok y0 Kn Kr g' hg' h' hq
    | _ => exact hq
/-- WHAT tympan/utf.Right ASKS -/
abbrev asks (x0 : List UInt8) (K : Value → H → Prop) (h : H) : Prop := n1 x0 (fun y2 h => K (.bool y2) h) (fun y2 h => K (.bool y2) h) h
theorem ok (x0 : List UInt8) (K : Value → H → Prop) (h : H) (hS : asks x0 K h) : HCalls Tryd.prog 14 ⟨[(S x0)]⟩ h K := by
  refine calls_of_wpC (c := code) Tryd.func14 (by kernel_rfl) (Nat.le_of_ble_eq_true (by kernel_rfl)) ?_
  refine (n1_ok x0 (fun y2 h => K (.bool y2) h) (fun y2 h => K (.bool y2) h) (env0 [(S x0)]) ⟨rfl, rfl⟩ h hS).mono ?_
  intro e g' h' hq
  cases e with
  | normal =>
    have hq : D0 (fun y2 h => K (.bool y2) h) g' h' := hq
    obtain ⟨y2, ⟨hg2, hd⟩, hq⟩ := D0_ok hq
    show leaveX g'.ds h' _
    rw [hd]
    show K (g'.v 2) h'
    rw [hg2]
    exact hq
  | ret =>
    have hq : D0 (fun y2 h => K (.bool y2) h) g' h' := hq
    obtain ⟨y2, ⟨hg2, hd⟩, hq⟩ := D0_ok hq
    show leaveX g'.ds h' _
    rw [hd]
    show K (g'.v 2) h'
    rw [hg2]
    exact hq
  | _ => exact hq
end Sx.utf_Right

/-! ### tympan/utf.Newlines -/
namespace Sx.utf_Newlines
noncomputable def code : Code := bodyOf Tryd.f16
abbrev T0 := (List UInt8) → H → Prop
def E0 (g : Env) (x2 : List UInt8) : Prop := g.v 2 = (S x2) ∧ g.ds = []
def D0 (K : T0) (g : Env) (h : H) : Prop := nilDs g.ds (vStr (g.v 2) fun s1 => K s1 h)
theorem D0_ok {K : T0} {g : Env} {h : H} (hq : D0 K g h) : ∃ (x2 : List UInt8), E0 g x2 ∧ K x2 h := by
  obtain ⟨hd, hq⟩ := nilDs_ok hq
  obtain ⟨y3, e2, q4⟩ := vStr_ok hq
  exact ⟨y3, ⟨e2, hd⟩, q4⟩
def Q0 (Kn : T0) (Kr : T0) : XPost
  | .normal, g, h => D0 Kn g h
  | .ret, g, h => D0 Kr g h
  | _, _, _ => False
abbrev T1 := (List UInt8) → H → Prop
def E1 (g : Env) (x0 : List UInt8) : Prop := g.v 0 = (S x0) ∧ g.ds = []
def D1 (K : T1) (g : Env) (h : H) : Prop := nilDs g.ds (vStr (g.v 0) fun s5 => K s5 h)
theorem D1_ok {K : T1} {g : Env} {h : H} (hq : D1 K g h) : ∃ (x0 : List UInt8), E1 g x0 ∧ K x0 h := by
  obtain ⟨hd, hq⟩ := nilDs_ok hq
  obtain ⟨y7, e6, q8⟩ := vStr_ok hq
  exact ⟨y7, ⟨e6, hd⟩, q8⟩
abbrev n1 (x0 : List UInt8) (Kn : T0) (Kr : T0) (h : H) : Prop :=
  HCalls Tryd.prog 27 ⟨[(S x0), (S ([13, 10] : List UInt8)), (S ([10] : List UInt8))]⟩ h fun v9 h10 => vStr v9 fun s11 => HCalls Tryd.prog 27 ⟨[(S s11), (S ([13] : List UInt8)), (S ([10] : List UInt8))]⟩ h10 fun v12 h13 => vStr v12 fun s14 => Kr s14 h13
theorem n1_ok (x0 : List UInt8) (Kn : T0) (Kr : T0) (g : Env) (hg : E1 g x0) (h : H) (hS : n1 x0 Kn Kr h) : wpC none Tryd.prog 6 code (Q0 Kn Kr) g h := by
  obtain ⟨hg0, hds⟩ := hg
  refine wpC_of_wpx (by kernel_rfl) (by kernel_rfl) (g' := (⟨g.v, []⟩ : Env).upd (some 0) (S x0)) (by rw [env_ds hds, upd_self hg0]) ?_
  have e : (n1 x0 Kn Kr h) = wpx none Tryd.prog 6 code (Q0 Kn Kr) ((⟨g.v, []⟩ : Env).upd (some 0) (S x0)) h := by kernel_rfl
  exact e ▸ hS
/-- WHAT tympan/utf.Newlines ASKS -/
abbrev asks (x0 : List UInt8) (K : Value → H → Prop) (h : H) : Prop := n1 x0 (fun y2 h => K (S y2) h) (fun y2 h => K (S y2) h) h
theorem ok (x0 : List UInt8) (K : Value → H → Prop) (h : H) (hS : asks x0 K h) : HCalls Tryd.prog 16 ⟨[(S x0)]⟩ h K := by
  refine calls_of_wpC (c := code) Tryd.func16 (by kernel_rfl) (Nat.le_of_ble_eq_true (by kernel_rfl)) ?_
  refine (n1_ok x0 (fun y2 h => K (S y2) h) (fun y2 h => K (S y2) h) (env0 [(S x0)]) ⟨rfl, rfl⟩ h hS).mono ?_
  intro e g' h' hq
  cases e with
  | normal =>
    have hq : D0 (fun y2 h => K (S y2) h) g' h' := hq
    obtain ⟨y2, ⟨hg2, hd⟩, hq⟩ := D0_ok hq
    show leaveX g'.ds h' _
    rw [hd]
    show K (g'.v 2) h'
    rw [hg2]
    exact hq
  | ret =>
    have hq : D0 (fun y2 h => K (S y2) h) g' h' := hq
    obtain ⟨y2, ⟨hg2, hd⟩, hq⟩ := D0_ok hq
    show leaveX g'.ds h' _
    rw [hd]
    show K (g'.v 2) h'
    rw [hg2]
    exact hq
  | _ => exact hq
end Sx.utf_Newlines

/-! ### tympan/tympanref01.Newlines -/
namespace Sx.r01_Newlines
noncomputable def code : Code := bodyOf Tryd.f17
abbrev T0 := (List UInt8) → H → Prop
def E0 (g : Env) (x2 : List UInt8) : Prop := g.v 2 = (S x2) ∧ g.ds = []
def D0 (K : T0) (g : Env) (h : H) : Prop := nilDs g.ds (vStr (g.v 2) fun s1 => K s1 h)
theorem D0_ok {K : T0} {g : Env} {h : H} (hq : D0 K g h) : ∃ (x2 : List UInt8), E0 g x2 ∧ K x2 h := by
  obtain ⟨hd, hq⟩ := nilDs_ok hq
  obtain ⟨y3, e2, q4⟩ := vStr_ok hq
  exact ⟨y3, ⟨e2, hd⟩, q4⟩
def Q0 (Kn : T0) (Kr : T0) : XPost
  | .normal, g, h => D0 Kn g h
  | .ret, g, h => D0 Kr g h
  | _, _, _ => False
abbrev T1 := (List UInt8) → H → Prop
def E1 (g : Env) (x0 : List UInt8) : Prop := g.v 0 = (S x0) ∧ g.ds = []
def D1 (K : T1) (g : Env) (h : H) : Prop := nilDs g.ds (vStr (g.v 0) fun s5 => K s5 h)
theorem D1_ok {K : T1} {g : Env} {h : H} (hq : D1 K g h) : ∃ (x0 : List UInt8), E1 g x0 ∧ K x0 h := by
  obtain ⟨hd, hq⟩ := nilDs_ok hq
  obtain ⟨y7, e6, q8⟩ := vStr_ok hq
  exact ⟨y7, ⟨e6, hd⟩, q8⟩
noncomputable def n1_c1 : Code := cFst code
noncomputable def n1_c2 : Code := cSnd code
noncomputable def n2_c1 : Code := cFst n1_c2
noncomputable def n2_c2 : Code := cSnd n1_c2
abbrev T2 := (List UInt8) → (Option Addr) → Nat → Nat → H → Prop
def E2 (g : Env) (x0 : List UInt8) (x3b : Option Addr) (x3n : Nat) (x3c : Nat) : Prop := g.v 0 = (S x0) ∧ g.v 3 = (.slice x3b x3n x3c) ∧ g.ds = []
def D2 (K : T2) (g : Env) (h : H) : Prop := nilDs g.ds (vStr (g.v 0) fun s9 => vSlice (g.v 3) fun s10b s10n s10c => K s9 s10b s10n s10c h)
theorem D2_ok {K : T2} {g : Env} {h : H} (hq : D2 K g h) : ∃ (x0 : List UInt8) (x3b : Option Addr) (x3n : Nat) (x3c : Nat), E2 g x0 x3b x3n x3c ∧ K x0 x3b x3n x3c h := by
  obtain ⟨hd, hq⟩ := nilDs_ok hq
  obtain ⟨y12, e11, q13⟩ := vStr_ok hq
  obtain ⟨y15b, y15n, y15c, e14, q16⟩ := vSlice_ok q13
  exact ⟨y12, y15b, y15n, y15c, ⟨e11, e14, hd⟩, q16⟩
noncomputable def n3_c1 : Code := cFst n2_c2
noncomputable def n3_c2 : Code := cSnd n2_c2
abbrev T3 := (Option Addr) → Nat → Nat → H → Prop
def E3 (g : Env) (x3b : Option Addr) (x3n : Nat) (x3c : Nat) : Prop := g.v 3 = (.slice x3b x3n x3c) ∧ g.ds = []
def D3 (K : T3) (g : Env) (h : H) : Prop := nilDs g.ds (vSlice (g.v 3) fun s17b s17n s17c => K s17b s17n s17c h)
theorem D3_ok {K : T3} {g : Env} {h : H} (hq : D3 K g h) : ∃ (x3b : Option Addr) (x3n : Nat) (x3c : Nat), E3 g x3b x3n x3c ∧ K x3b x3n x3c h := by
  obtain ⟨hd, hq⟩ := nilDs_ok hq
  obtain ⟨y19b, y19n, y19c, e18, q20⟩ := vSlice_ok hq
  exact ⟨y19b, y19n, y19c, ⟨e18, hd⟩, q20⟩
abbrev n4 (x3b : Option Addr) (x3n : Nat) (x3c : Nat) (Kn : T0) (Kr : T0) (h : H) : Prop :=
  SemH Tryd.prog (convert 22 9 (.slice x3b x3n x3c)) h fun v21 h22 => vStr v21 fun s23 => Kr s23 h22
theorem n4_ok (x3b : Option Addr) (x3n : Nat) (x3c : Nat) (Kn : T0) (Kr : T0) (g : Env) (hg : E3 g x3b x3n x3c) (h : H) (hS : n4 x3b x3n x3c Kn Kr h) : wpC none Tryd.prog 40 n3_c2 (Q0 Kn Kr) g h := by
  obtain ⟨hg3, hds⟩ := hg
  refine wpC_of_wpx (by kernel_rfl) (by kernel_rfl) (g' := (⟨g.v, []⟩ : Env).upd (some 3) (.slice x3b x3n x3c)) (by rw [env_ds hds, upd_self hg3]) ?_
  have e : (n4 x3b x3n x3c Kn Kr h) = wpx none Tryd.prog 40 n3_c2 (Q0 Kn Kr) ((⟨g.v, []⟩ : Env).upd (some 3) (.slice x3b x3n x3c)) h := by kernel_rfl
  exact e ▸ hS
def Q1 (Kn : T3) (Kr : T0) : XPost
  | .normal, g, h => D3 Kn g h
  | .ret, g, h => D0 Kr g h
  | _, _, _ => False
noncomputable def n5_c1 : Code := cFst n3_c1
noncomputable def n5_c2 : Code := cSnd n3_c1
abbrev T4 := (List UInt8) → (Option Addr) → Nat → Nat → Int → H → Prop
def E4 (g : Env) (x0 : List UInt8) (x3b : Option Addr) (x3n : Nat) (x3c : Nat) (x4 : Int) : Prop := g.v 0 = (S x0) ∧ g.v 3 = (.slice x3b x3n x3c) ∧ g.v 4 = (.int .i64 x4) ∧ g.ds = []
def D4 (K : T4) (g : Env) (h : H) : Prop := nilDs g.ds (vStr (g.v 0) fun s24 => vSlice (g.v 3) fun s25b s25n s25c => vInt .i64 (g.v 4) fun i26 => K s24 s25b s25n s25c i26 h)
theorem D4_ok {K : T4} {g : Env} {h : H} (hq : D4 K g h) : ∃ (x0 : List UInt8) (x3b : Option Addr) (x3n : Nat) (x3c : Nat) (x4 : Int), E4 g x0 x3b x3n x3c x4 ∧ K x0 x3b x3n x3c x4 h := by
  obtain ⟨hd, hq⟩ := nilDs_ok hq
  obtain ⟨y28, e27, q29⟩ := vStr_ok hq
  obtain ⟨y31b, y31n, y31c, e30, q32⟩ := vSlice_ok q29
  obtain ⟨y34, e33, q35⟩ := vInt_ok q32
  exact ⟨y28, y31b, y31n, y31c, y34, ⟨e27, e30, e33, hd⟩, q35⟩
noncomputable def n6_c1 : Code := cFst n5_c2
def Q2 (Kn : T3) (Ke0 : T3) (Kr : T0) : XPost
  | .normal, g, h => D3 Kn g h
  | .ret, g, h => D0 Kr g h
  | .exit id, g, h => cond (Nat.beq id 0) (D3 Ke0 g h) (False)
  | _, _, _ => False
noncomputable def n7_c1 : Code := cFst n6_c1
def Q3 (Kn : T4) (Ke0 : T3) (Kr : T0) : XPost
  | .normal, g, h => D4 Kn g h
  | .ret, g, h => D0 Kr g h
  | .exit id, g, h => cond (Nat.beq id 0) (D3 Ke0 g h) (False)
  | _, _, _ => False
noncomputable def n8_c1 : Code := cFst n7_c1
noncomputable def n8_c2 : Code := cSnd n7_c1
noncomputable def n9_c1 : Code := cFst n8_c2
noncomputable def n9_c2 : Code := cSnd n8_c2
abbrev n10 (x0 : List UInt8) (x3b : Option Addr) (x3n : Nat) (x3c : Nat) (x4 : Int) (Kn : T4) (Ke0 : T3) (Kr : T0) (h : H) : Prop :=
  Rng .i64 (x4 + (1 : Int)) ∧ (Kn x0 x3b x3n x3c (x4 + (1 : Int)) h)
theorem n10_ok (x0 : List UInt8) (x3b : Option Addr) (x3n : Nat) (x3c : Nat) (x4 : Int) (Kn : T4) (Ke0 : T3) (Kr : T0) (g : Env) (hg : E4 g x0 x3b x3n x3c x4) (h : H) (hS : n10 x0 x3b x3n x3c x4 Kn Ke0 Kr h) : wpC none Tryd.prog 40 n9_c2 (Q3 Kn Ke0 Kr) g h := by
  obtain ⟨hg0, hg3, hg4, hds⟩ := hg
  refine wpC_of_wpx (by kernel_rfl) (by kernel_rfl) (g' := (((⟨g.v, []⟩ : Env).upd (some 0) (S x0)).upd (some 3) (.slice x3b x3n x3c)).upd (some 4) (.int .i64 x4)) (by rw [env_ds hds, upd_self hg0, upd_self hg3, upd_self hg4]) ?_
  have e : (n10 x0 x3b x3n x3c x4 Kn Ke0 Kr h) = wpx none Tryd.prog 40 n9_c2 (Q3 Kn Ke0 Kr) ((((⟨g.v, []⟩ : Env).upd (some 0) (S x0)).upd (some 3) (.slice x3b x3n x3c)).upd (some 4) (.int .i64 x4)) h := by kernel_rfl
  exact e ▸ hS
noncomputable def n11_c1 : Code := cFst n9_c1
def Q4 (Kn : T4) (Ke1 : T4) (Ke0 : T3) (Kr : T0) : XPost
  | .normal, g, h => D4 Kn g h
  | .ret, g, h => D0 Kr g h
  | .exit id, g, h => cond (Nat.beq id 1) (D4 Ke1 g h) (cond (Nat.beq id 0) (D3 Ke0 g h) (False))
  | _, _, _ => False
noncomputable def n12_c1 : Code := cFst n11_c1
noncomputable def n12_c2 : Code := cSnd n11_c1
abbrev n13 (x0 : List UInt8) (x3b : Option Addr) (x3n : Nat) (x3c : Nat) (x4 : Int) (Kn : T4) (Ke1 : T4) (Ke0 : T3) (Kr : T0) (h : H) : Prop :=
  newx h #[(.int .u8 (10 : Int))] 5 fun a36 h37 => SemH Tryd.prog (Builtin.append_ #[22, 22] 22 ⟨[(.slice x3b x3n x3c), (.slice (some a36) 1 1)]⟩) h37 fun v38 h39 => vSlice v38 fun s40b s40n s40c => Rng .i64 (x4 + (1 : Int)) ∧ (Spl ((x4 + (1 : Int)) < (x0.length : Int)) (Rng .i64 (x4 + (1 : Int)) ∧ ((0 ≤ (x4 + (1 : Int)) ∧ (x4 + (1 : Int)) < (x0.length : Int)) ∧ (Spl (((List.getD x0 (Int.toNat (x4 + (1 : Int))) 0).toNat : Int) = (10 : Int)) (Rng .i64 (x4 + (1 : Int)) ∧ (Kn x0 s40b s40n s40c (x4 + (1 : Int)) h39)) (Kn x0 s40b s40n s40c x4 h39)))) (Kn x0 s40b s40n s40c x4 h39))
theorem n13_ok (x0 : List UInt8) (x3b : Option Addr) (x3n : Nat) (x3c : Nat) (x4 : Int) (Kn : T4) (Ke1 : T4) (Ke0 : T3) (Kr : T0) (g : Env) (hg : E4 g x0 x3b x3n x3c x4) (h : H) (hS : n13 x0 x3b x3n x3c x4 Kn Ke1 Ke0 Kr h) : wpC none Tryd.prog 40 n12_c2 (Q4 Kn Ke1 Ke0 Kr) g h := by
  obtain ⟨hg0, hg3, hg4, hds⟩ := hg
  refine wpC_of_wpx (by kernel_rfl) (by kernel_rfl) (g' := (((⟨g.v, []⟩ : Env).upd (some 0) (S x0)).upd (some 3) (.slice x3b x3n x3c)).upd (some 4) (.int .i64 x4)) (by rw [env_ds hds, upd_self hg0, upd_self hg3, upd_self hg4]) ?_
  have e : (n13 x0 x3b x3n x3c x4 Kn Ke1 Ke0 Kr h) = wpx none Tryd.prog 40 n12_c2 (Q4 Kn Ke1 Ke0 Kr) ((((⟨g.v, []⟩ : Env).upd (some 0) (S x0)).upd (some 3) (.slice x3b x3n x3c)).upd (some 4) (.int .i64 x4)) h := by kernel_rfl
  exact e ▸ hS
abbrev n12 (x0 : List UInt8) (x3b : Option Addr) (x3n : Nat) (x3c : Nat) (x4 : Int) (Kn : T4) (Ke1 : T4) (Ke0 : T3) (Kr : T0) (h : H) : Prop :=
  (0 ≤ x4 ∧ x4 < (x0.length : Int)) ∧ (Spl (((List.getD x0 (Int.toNat x4) 0).toNat : Int) = (13 : Int)) (n13 x0 x3b x3n x3c x4 Kn Ke1 Ke0 Kr h) ((0 ≤ x4 ∧ x4 < (x0.length : Int)) ∧ (newx h #[(.int .u8 ((List.getD x0 (Int.toNat x4) 0).toNat : Int))] 5 fun a41 h42 => SemH Tryd.prog (Builtin.append_ #[22, 22] 22 ⟨[(.slice x3b x3n x3c), (.slice (some a41) 1 1)]⟩) h42 fun v43 h44 => vSlice v43 fun s45b s45n s45c => Ke1 x0 s45b s45n s45c x4 h44)))
theorem n12_ok (x0 : List UInt8) (x3b : Option Addr) (x3n : Nat) (x3c : Nat) (x4 : Int) (Kn : T4) (Ke1 : T4) (Ke0 : T3) (Kr : T0) (g : Env) (hg : E4 g x0 x3b x3n x3c x4) (h : H) (hS : n12 x0 x3b x3n x3c x4 Kn Ke1 Ke0 Kr h) : wpC none Tryd.prog 40 n11_c1 (Q4 Kn Ke1 Ke0 Kr) g h := by
  obtain ⟨hg0, hg3, hg4, hds⟩ := hg
  refine wpC_seq' (x := n12_c1) (y := n12_c2) (Q' := (Q4 (fun z0 z3b z3n z3c z4 h => n13 z0 z3b z3n z3c z4 Kn Ke1 Ke0 Kr h) Ke1 Ke0 Kr)) (by kernel_rfl) ?_ ?_
  · refine wpC_of_wpx (by kernel_rfl) (by kernel_rfl) (g' := (((⟨g.v, []⟩ : Env).upd (some 0) (S x0)).upd (some 3) (.slice x3b x3n x3c)).upd (some 4) (.int .i64 x4)) (by rw [env_ds hds, upd_self hg0, upd_self hg3, upd_self hg4]) ?_
    have e : (n12 x0 x3b x3n x3c x4 Kn Ke1 Ke0 Kr h) = wpx none Tryd.prog 40 n12_c1 (Q4 (fun z0 z3b z3n z3c z4 h => n13 z0 z3b z3n z3c z4 Kn Ke1 Ke0 Kr h) Ke1 Ke0 Kr) ((((⟨g.v, []⟩ : Env).upd (some 0) (S x0)).upd (some 3) (.slice x3b x3n x3c)).upd (some 4) (.int .i64 x4)) h := by kernel_rfl
    exact e ▸ hS
  · intro e g' h' hq
    cases e with
    | normal =>
      have hq : D4 (fun z0 z3b z3n z3c z4 h => n13 z0 z3b z3n z3c z4 Kn Ke1 Ke0 Kr h) g' h' := hq
      obtain ⟨y0, y3b, y3n, y3c, y4, hg', hq⟩ := D4_ok hq
      exact n13_ok y0 y3b y3n y3c y4 Kn Ke1 Ke0 Kr g' hg' h' hq
    | _ => exact hq
abbrev n11 (x0 : List UInt8) (x3b : Option Addr) (x3n : Nat) (x3c : Nat) (x4 : Int) (Kn : T4) (Ke0 : T3) (Kr : T0) (h : H) : Prop := n12 x0 x3b x3n x3c x4 Kn Kn Ke0 Kr h
theorem n11_ok (x0 : List UInt8) (x3b : Option Addr) (x3n : Nat) (x3c : Nat) (x4 : Int) (Kn : T4) (Ke0 : T3) (Kr : T0) (g : Env) (hg : E4 g x0 x3b x3n x3c x4) (h : H) (hS : n11 x0 x3b x3n x3c x4 Kn Ke0 Kr h) : wpC none Tryd.prog 40 n9_c1 (Q3 Kn Ke0 Kr) g h := by
  refine wpC_block' (id := 1) (x := n11_c1) (by kernel_rfl) (n12_ok x0 x3b x3n x3c x4 Kn Kn Ke0 Kr g hg h hS) ?_
  intro e g' h' hq
  cases e <;> exact hq
abbrev n9 (x0 : List UInt8) (x3b : Option Addr) (x3n : Nat) (x3c : Nat) (x4 : Int) (Kn : T4) (Ke0 : T3) (Kr : T0) (h : H) : Prop := n11 x0 x3b x3n x3c x4 (fun z0 z3b z3n z3c z4 h => n10 z0 z3b z3n z3c z4 Kn Ke0 Kr h) Ke0 Kr h
theorem n9_ok (x0 : List UInt8) (x3b : Option Addr) (x3n : Nat) (x3c : Nat) (x4 : Int) (Kn : T4) (Ke0 : T3) (Kr : T0) (g : Env) (hg : E4 g x0 x3b x3n x3c x4) (h : H) (hS : n9 x0 x3b x3n x3c x4 Kn Ke0 Kr h) : wpC none Tryd.prog 40 n8_c2 (Q3 Kn Ke0 Kr) g h := by
  refine wpC_seq' (x := n9_c1) (y := n9_c2) (by kernel_rfl) (n11_ok x0 x3b x3n x3c x4 (fun z0 z3b z3n z3c z4 h => n10 z0 z3b z3n z3c z4 Kn Ke0 Kr h) Ke0 Kr g hg h hS) ?_
  intro e g' h' hq
  cases e with
  | normal =>
    have hq : D4 (fun z0 z3b z3n z3c z4 h => n10 z0 z3b z3n z3c z4 Kn Ke0 Kr h) g' h' := hq
    obtain ⟨y0, y3b, y3n, y3c, y4, hg', hq⟩ := D4_ok hq
    exact n10_ok y0 y3b y3n y3c y4 Kn Ke0 Kr g' hg' h' hq
  | _ => exact hq
abbrev n8 (x0 : List UInt8) (x3b : Option Addr) (x3n : Nat) (x3c : Nat) (x4 : Int) (Kn : T4) (Ke0 : T3) (Kr : T0) (h : H) : Prop :=
  Spl (x4 < (x0.length : Int)) (n9 x0 x3b x3n x3c x4 Kn Ke0 Kr h) (Ke0 x3b x3n x3c h)
theorem n8_ok (x0 : List UInt8) (x3b : Option Addr) (x3n : Nat) (x3c : Nat) (x4 : Int) (Kn : T4) (Ke0 : T3) (Kr : T0) (g : Env) (hg : E4 g x0 x3b x3n x3c x4) (h : H) (hS : n8 x0 x3b x3n x3c x4 Kn Ke0 Kr h) : wpC none Tryd.prog 40 n7_c1 (Q3 Kn Ke0 Kr) g h := by
  obtain ⟨hg0, hg3, hg4, hds⟩ := hg
  refine wpC_seq' (x := n8_c1) (y := n8_c2) (Q' := (Q3 (fun z0 z3b z3n z3c z4 h => n9 z0 z3b z3n z3c z4 Kn Ke0 Kr h) Ke0 Kr)) (by kernel_rfl) ?_ ?_
  · refine wpC_of_wpx (by kernel_rfl) (by kernel_rfl) (g' := (((⟨g.v, []⟩ : Env).upd (some 0) (S x0)).upd (some 3) (.slice x3b x3n x3c)).upd (some 4) (.int .i64 x4)) (by rw [env_ds hds, upd_self hg0, upd_self hg3, upd_self hg4]) ?_
    have e : (n8 x0 x3b x3n x3c x4 Kn Ke0 Kr h) = wpx none Tryd.prog 40 n8_c1 (Q3 (fun z0 z3b z3n z3c z4 h => n9 z0 z3b z3n z3c z4 Kn Ke0 Kr h) Ke0 Kr) ((((⟨g.v, []⟩ : Env).upd (some 0) (S x0)).upd (some 3) (.slice x3b x3n x3c)).upd (some 4) (.int .i64 x4)) h := by kernel_rfl
    exact e ▸ hS
  · intro e g' h' hq
    cases e with
    | normal =>
      have hq : D4 (fun z0 z3b z3n z3c z4 h => n9 z0 z3b z3n z3c z4 Kn Ke0 Kr h) g' h' := hq
      obtain ⟨y0, y3b, y3n, y3c, y4, hg', hq⟩ := D4_ok hq
      exact n9_ok y0 y3b y3n y3c y4 Kn Ke0 Kr g' hg' h' hq
    | _ => exact hq
def n7_L (Kn : T3) (Ke0 : T3) (Kr : T0) : Nat → (List UInt8) → (Option Addr) → Nat → Nat → Int → H → Prop
  | 0 => fun _ _ _ _ _ _ => False
  | N + 1 => fun x0 x3b x3n x3c x4 h => n8 x0 x3b x3n x3c x4 (fun z0 z3b z3n z3c z4 h => n7_L Kn Ke0 Kr N z0 z3b z3n z3c z4 h) Ke0 Kr h
abbrev n7 (x0 : List UInt8) (x3b : Option Addr) (x3n : Nat) (x3c : Nat) (x4 : Int) (Kn : T3) (Ke0 : T3) (Kr : T0) (h : H) : Prop := ∃ N, n7_L Kn Ke0 Kr N x0 x3b x3n x3c x4 h
theorem n7_ok (x0 : List UInt8) (x3b : Option Addr) (x3n : Nat) (x3c : Nat) (x4 : Int) (Kn : T3) (Ke0 : T3) (Kr : T0) (g : Env) (hg : E4 g x0 x3b x3n x3c x4) (h : H) (hS : n7 x0 x3b x3n x3c x4 Kn Ke0 Kr h) : wpC none Tryd.prog 40 n6_c1 (Q2 Kn Ke0 Kr) g h := by
  obtain ⟨N0, hS⟩ := hS
  refine wpC_loop' (x := n7_c1) (by kernel_rfl) (fun k g h => ∃ (x0 : List UInt8) (x3b : Option Addr) (x3n : Nat) (x3c : Nat) (x4 : Int), E4 g x0 x3b x3n x3c x4 ∧ n7_L Kn Ke0 Kr k x0 x3b x3n x3c x4 h) (fun g h hr => ?_) (fun N g h hr => ?_) N0 ⟨x0, x3b, x3n, x3c, x4, hg, hS⟩
  · obtain ⟨x0, x3b, x3n, x3c, x4, hg, hS⟩ := hr
    exact hS.elim
  · obtain ⟨x0, x3b, x3n, x3c, x4, hg, hS⟩ := hr
    refine (n8_ok x0 x3b x3n x3c x4 (fun z0 z3b z3n z3c z4 h => n7_L Kn Ke0 Kr N z0 z3b z3n z3c z4 h) Ke0 Kr g hg h hS).mono ?_
    intro e g' h' hq
    cases e with
    | normal => exact D4_ok (K := (fun z0 z3b z3n z3c z4 h => n7_L Kn Ke0 Kr N z0 z3b z3n z3c z4 h)) hq
    | _ => exact hq
abbrev n6 (x0 : List UInt8) (x3b : Option Addr) (x3n : Nat) (x3c : Nat) (x4 : Int) (Kn : T3) (Kr : T0) (h : H) : Prop := n7 x0 x3b x3n x3c x4 Kn Kn Kr h
theorem n6_ok (x0 : List UInt8) (x3b : Option Addr) (x3n : Nat) (x3c : Nat) (x4 : Int) (Kn : T3) (Kr : T0) (g : Env) (hg : E4 g x0 x3b x3n x3c x4) (h : H) (hS : n6 x0 x3b x3n x3c x4 Kn Kr h) : wpC none Tryd.prog 40 n5_c2 (Q1 Kn Kr) g h := by
  refine wpC_block' (id := 0) (x := n6_c1) (by kernel_rfl) (n7_ok x0 x3b x3n x3c x4 Kn Kn Kr g hg h hS) ?_
  intro e g' h' hq
  cases e <;> exact hq
def Q5 (Kn : T4) (Kr : T0) : XPost
  | .normal, g, h => D4 Kn g h
  | .ret, g, h => D0 Kr g h
  | _, _, _ => False
abbrev n5 (x0 : List UInt8) (x3b : Option Addr) (x3n : Nat) (x3c : Nat) (Kn : T3) (Kr : T0) (h : H) : Prop :=
  n6 x0 x3b x3n x3c (0 : Int) Kn Kr h
theorem n5_ok (x0 : List UInt8) (x3b : Option Addr) (x3n : Nat) (x3c : Nat) (Kn : T3) (Kr : T0) (g : Env) (hg : E2 g x0 x3b x3n x3c) (h : H) (hS : n5 x0 x3b x3n x3c Kn Kr h) : wpC none Tryd.prog 40 n3_c1 (Q1 Kn Kr) g h := by
  obtain ⟨hg0, hg3, hds⟩ := hg
  refine wpC_seq' (x := n5_c1) (y := n5_c2) (Q' := (Q5 (fun z0 z3b z3n z3c z4 h => n6 z0 z3b z3n z3c z4 Kn Kr h) Kr)) (by kernel_rfl) ?_ ?_
  · refine wpC_of_wpx (by kernel_rfl) (by kernel_rfl) (g' := ((⟨g.v, []⟩ : Env).upd (some 0) (S x0)).upd (some 3) (.slice x3b x3n x3c)) (by rw [env_ds hds, upd_self hg0, upd_self hg3]) ?_
    have e : (n5 x0 x3b x3n x3c Kn Kr h) = wpx none Tryd.prog 40 n5_c1 (Q5 (fun z0 z3b z3n z3c z4 h => n6 z0 z3b z3n z3c z4 Kn Kr h) Kr) (((⟨g.v, []⟩ : Env).upd (some 0) (S x0)).upd (some 3) (.slice x3b x3n x3c)) h := by kernel_rfl
    exact e ▸ hS
  · intro e g' h' hq
    cases e with
    | normal =>
      have hq : D4 (fun z0 z3b z3n z3c z4 h => n6 z0 z3b z3n z3c z4 Kn Kr h) g' h' := hq
      obtain ⟨y0, y3b, y3n, y3c, y4, hg', hq⟩ := D4_ok hq
      exact n6_ok y0 y3b y3n y3c y4 Kn Kr g' hg' h' hq
    | _ => exact hq
abbrev n3 (x0 : List UInt8) (x3b : Option Addr) (x3n : Nat) (x3c : Nat) (Kn : T0) (Kr : T0) (h : H) : Prop := n5 x0 x3b x3n x3c (fun z3b z3n z3c h => n4 z3b z3n z3c Kn Kr h) Kr h
theorem n3_ok (x0 : List UInt8) (x3b : Option Addr) (x3n : Nat) (x3c : Nat) (Kn : T0) (Kr : T0) (g : Env) (hg : E2 g x0 x3b x3n x3c) (h : H) (hS : n3 x0 x3b x3n x3c Kn Kr h) : wpC none Tryd.prog 40 n2_c2 (Q0 Kn Kr) g h := by
  refine wpC_seq' (x := n3_c1) (y := n3_c2) (by kernel_rfl) (n5_ok x0 x3b x3n x3c (fun z3b z3n z3c h => n4 z3b z3n z3c Kn Kr h) Kr g hg h hS) ?_
  intro e g' h' hq
  cases e with
  | normal =>
    have hq : D3 (fun z3b z3n z3c h => n4 z3b z3n z3c Kn Kr h) g' h' := hq
    obtain ⟨y3b, y3n, y3c, hg', hq⟩ := D3_ok hq
    exact n4_ok y3b y3n y3c Kn Kr g' hg' h' hq
  | _ => exact hq
def Q6 (Kn : T2) (Kr : T0) : XPost
  | .normal, g, h => D2 Kn g h
  | .ret, g, h => D0 Kr g h
  | _, _, _ => False
abbrev n2 (x0 : List UInt8) (Kn : T0) (Kr : T0) (h : H) : Prop :=
  n3 x0 none 0 0 Kn Kr h
theorem n2_ok (x0 : List UInt8) (Kn : T0) (Kr : T0) (g : Env) (hg : E1 g x0) (h : H) (hS : n2 x0 Kn Kr h) : wpC none Tryd.prog 40 n1_c2 (Q0 Kn Kr) g h := by
  obtain ⟨hg0, hds⟩ := hg
  refine wpC_seq' (x := n2_c1) (y := n2_c2) (Q' := (Q6 (fun z0 z3b z3n z3c h => n3 z0 z3b z3n z3c Kn Kr h) Kr)) (by kernel_rfl) ?_ ?_
  · refine wpC_of_wpx (by kernel_rfl) (by kernel_rfl) (g' := (⟨g.v, []⟩ : Env).upd (some 0) (S x0)) (by rw [env_ds hds, upd_self hg0]) ?_
    have e : (n2 x0 Kn Kr h) = wpx none Tryd.prog 40 n2_c1 (Q6 (fun z0 z3b z3n z3c h => n3 z0 z3b z3n z3c Kn Kr h) Kr) ((⟨g.v, []⟩ : Env).upd (some 0) (S x0)) h := by kernel_rfl
    exact e ▸ hS
  · intro e g' h' hq
    cases e with
    | normal =>
      have hq : D2 (fun z0 z3b z3n z3c h => n3 z0 z3b z3n z3c Kn Kr h) g' h' := hq
      obtain ⟨y0, y3b, y3n, y3c, hg', hq⟩ := D2_ok hq
      exact n3_ok y0 y3b y3n y3c Kn Kr g' hg' h' hq
    | _ => exact hq
def Q7 (Kn : T1) (Kr : T0) : XPost
  | .normal, g, h => D1 Kn g h
  | .ret, g, h => D0 Kr g h
  | _, _, _ => False
abbrev n1 (x0 : List UInt8) (Kn : T0) (Kr : T0) (h : H) : Prop :=
  n2 x0 Kn Kr h
theorem n1_ok (x0 : List UInt8) (Kn : T0) (Kr : T0) (g : Env) (hg : E1 g x0) (h : H) (hS : n1 x0 Kn Kr h) : wpC none Tryd.prog 40 code (Q0 Kn Kr) g h := by
  obtain ⟨hg0, hds⟩ := hg
  refine wpC_seq' (x := n1_c1) (y := n1_c2) (Q' := (Q7 (fun z0 h => n2 z0 Kn Kr h) Kr)) (by kernel_rfl) ?_ ?_
  · refine wpC_of_wpx (by kernel_rfl) (by kernel_rfl) (g' := (⟨g.v, []⟩ : Env).upd (some 0) (S x0)) (by rw [env_ds hds, upd_self hg0]) ?_
    have e : (n1 x0 Kn Kr h) = wpx none Tryd.prog 40 n1_c1 (Q7 (fun z0 h => n2 z0 Kn Kr h) Kr) ((⟨g.v, []⟩ : Env).upd (some 0) (S x0)) h := by kernel_rfl
    exact e ▸ hS
  · intro e g' h' hq
    cases e with
    | normal =>
      have hq : D1 (fun z0 h => n2 z0 Kn Kr h) g' h' := hq
      obtain ⟨y0, hg', hq⟩ := D1_ok hq
      exact n2_ok y0 Kn Kr g' hg' h' hq
    | _ => exact hq
/-- WHAT tympan/tympanref01.Newlines ASKS -/
abbrev asks (x0 : List UInt8) (K : Value → H → Prop) (h : H) : Prop := n1 x0 (fun y2 h => K (S y2) h) (fun y2 h => K (S y2) h) h
theorem ok (x0 : List UInt8) (K : Value → H → Prop) (h : H) (hS : asks x0 K h) : HCalls Tryd.prog 17 ⟨[(S x0)]⟩ h K := by
  refine calls_of_wpC (c := code) Tryd.func17 (by kernel_rfl) (Nat.le_of_ble_eq_true (by kernel_rfl)) ?_
  refine (n1_ok x0 (fun y2 h => K (S y2) h) (fun y2 h => K (S y2) h) (env0 [(S x0)]) ⟨rfl, rfl⟩ h hS).mono ?_
  intro e g' h' hq
  cases e with
  | normal =>
    have hq : D0 (fun y2 h => K (S y2) h) g' h' := hq
    obtain ⟨y2, ⟨hg2, hd⟩, hq⟩ := D0_ok hq
    show leaveX g'.ds h' _
    rw [hd]
    show K (g'.v 2) h'
    rw [hg2]
    exact hq
  | ret =>
    have hq : D0 (fun y2 h => K (S y2) h) g' h' := hq
    obtain ⟨y2, ⟨hg2, hd⟩, hq⟩ := D0_ok hq
    show leaveX g'.ds h' _
    rw [hd]
    show K (g'.v 2) h'
    rw [hg2]
    exact hq
  | _ => exact hq
end Sx.r01_Newlines
end Go.Proofs
