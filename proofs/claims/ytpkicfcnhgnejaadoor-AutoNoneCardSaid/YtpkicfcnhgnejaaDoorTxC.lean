/- The shallow forms of functions, printed by sh.py out of the translation; each with its proof. No condition. -/
import Derived.Test.YtpkicfcnhgnejaaDoorShJ
import Derived.Test.YtpkicfcnhgnejaaDoorProg
namespace Go.Proofs
open Go Go.Sh
set_option linter.unusedVariables false
set_option maxRecDepth 100000

/-! ### strings.indexFunc -/
namespace Sx.strings_indexFunc
noncomputable def code : Code := bodyOf Tryd.f51
abbrev T0 := Int → H → Prop
def E0 (g : Env) (x6 : Int) : Prop := g.v 6 = (.int .i64 x6) ∧ g.ds = []
def D0 (K : T0) (g : Env) (h : H) : Prop := nilDs g.ds (vInt .i64 (g.v 6) fun i1 => K i1 h)
theorem D0_ok {K : T0} {g : Env} {h : H} (hq : D0 K g h) : ∃ (x6 : Int), E0 g x6 ∧ K x6 h := by
  obtain ⟨hd, hq⟩ := nilDs_ok hq
  obtain ⟨y3, e2, q4⟩ := vInt_ok hq
  exact ⟨y3, ⟨e2, hd⟩, q4⟩
def Q0 (Kn : T0) (Kr : T0) : XPost
  | .normal, g, h => D0 Kn g h
  | .ret, g, h => D0 Kr g h
  | _, _, _ => False
abbrev T1 := (List UInt8) → Value → Bool → H → Prop
def E1 (g : Env) (x0 : List UInt8) (x1 : Value) (x2 : Bool) : Prop := g.v 0 = (S x0) ∧ g.v 1 = x1 ∧ g.v 2 = (.bool x2) ∧ g.ds = []
def D1 (K : T1) (g : Env) (h : H) : Prop := nilDs g.ds (vStr (g.v 0) fun s5 => vBool (g.v 2) fun b6 => K s5 (g.v 1) b6 h)
theorem D1_ok {K : T1} {g : Env} {h : H} (hq : D1 K g h) : ∃ (x0 : List UInt8) (x1 : Value) (x2 : Bool), E1 g x0 x1 x2 ∧ K x0 x1 x2 h := by
  obtain ⟨hd, hq⟩ := nilDs_ok hq
  obtain ⟨y8, e7, q9⟩ := vStr_ok hq
  obtain ⟨y11, e10, q12⟩ := vBool_ok q9
  exact ⟨y8, (g.v 1), y11, ⟨e7, rfl, e10, hd⟩, q12⟩
noncomputable def n1_c1 : Code := cFst code
noncomputable def n1_c2 : Code := cSnd code
noncomputable def n2_c1 : Code := cFst n1_c2
noncomputable def n2_c2 : Code := cSnd n1_c2
abbrev T2 := H → Prop
def E2 (g : Env)  : Prop := g.ds = []
def D2 (K : T2) (g : Env) (h : H) : Prop := nilDs g.ds (K h)
theorem D2_ok {K : T2} {g : Env} {h : H} (hq : D2 K g h) : E2 g  ∧ K  h := by
  obtain ⟨hd, hq⟩ := nilDs_ok hq
  skip
  exact ⟨hd, hq⟩
abbrev n3  (Kn : T0) (Kr : T0) (h : H) : Prop :=
  Kr (-1 : Int) h
theorem n3_ok  (Kn : T0) (Kr : T0) (g : Env) (hg : E2 g ) (h : H) (hS : n3  Kn Kr h) : wpC none Tryd.prog 21 n2_c2 (Q0 Kn Kr) g h := by
  have hds : g.ds = [] := hg
  refine wpC_of_wpx (by kernel_rfl) (by kernel_rfl) (g' := ⟨g.v, []⟩) (by rw [env_ds hds]) ?_
  have e : (n3  Kn Kr h) = wpx none Tryd.prog 21 n2_c2 (Q0 Kn Kr) (⟨g.v, []⟩) h := by kernel_rfl
  exact e ▸ hS
def Q1 (Kn : T2) (Kr : T0) : XPost
  | .normal, g, h => D2 Kn g h
  | .ret, g, h => D0 Kr g h
  | _, _, _ => False
noncomputable def n4_c1 : Code := cFst n2_c1
noncomputable def n4_c2 : Code := cSnd n2_c1
abbrev T3 := Value → Bool → Addr → H → Prop
def E3 (g : Env) (x1 : Value) (x2 : Bool) (x10 : Addr) : Prop := g.v 1 = x1 ∧ g.v 2 = (.bool x2) ∧ g.v 10 = (.pointer (some x10)) ∧ g.ds = []
def D3 (K : T3) (g : Env) (h : H) : Prop := nilDs g.ds (vBool (g.v 2) fun b13 => vAddr (g.v 10) fun a14 => K (g.v 1) b13 a14 h)
theorem D3_ok {K : T3} {g : Env} {h : H} (hq : D3 K g h) : ∃ (x1 : Value) (x2 : Bool) (x10 : Addr), E3 g x1 x2 x10 ∧ K x1 x2 x10 h := by
  obtain ⟨hd, hq⟩ := nilDs_ok hq
  obtain ⟨y16, e15, q17⟩ := vBool_ok hq
  obtain ⟨y19, e18, q20⟩ := vAddr_ok q17
  exact ⟨(g.v 1), y16, y19, ⟨rfl, e15, e18, hd⟩, q20⟩
noncomputable def n5_c1 : Code := cFst n4_c2
def Q2 (Kn : T2) (Ke0 : T2) (Kr : T0) : XPost
  | .normal, g, h => D2 Kn g h
  | .ret, g, h => D0 Kr g h
  | .exit id, g, h => cond (Nat.beq id 0) (D2 Ke0 g h) (False)
  | _, _, _ => False
noncomputable def n6_c1 : Code := cFst n5_c1
def Q3 (Kn : T3) (Ke0 : T2) (Kr : T0) : XPost
  | .normal, g, h => D3 Kn g h
  | .ret, g, h => D0 Kr g h
  | .exit id, g, h => cond (Nat.beq id 0) (D2 Ke0 g h) (False)
  | _, _, _ => False
noncomputable def n7_c1 : Code := cFst n6_c1
noncomputable def n7_c2 : Code := cSnd n6_c1
abbrev T4 := Value → Bool → Addr → Value → Bool → H → Prop
def E4 (g : Env) (x1 : Value) (x2 : Bool) (x10 : Addr) (x11 : Value) (x12 : Bool) : Prop := g.v 1 = x1 ∧ g.v 2 = (.bool x2) ∧ g.v 10 = (.pointer (some x10)) ∧ g.v 11 = x11 ∧ g.v 12 = (.bool x12) ∧ g.ds = []
def D4 (K : T4) (g : Env) (h : H) : Prop := nilDs g.ds (vBool (g.v 2) fun b21 => vAddr (g.v 10) fun a22 => vBool (g.v 12) fun b23 => K (g.v 1) b21 a22 (g.v 11) b23 h)
theorem D4_ok {K : T4} {g : Env} {h : H} (hq : D4 K g h) : ∃ (x1 : Value) (x2 : Bool) (x10 : Addr) (x11 : Value) (x12 : Bool), E4 g x1 x2 x10 x11 x12 ∧ K x1 x2 x10 x11 x12 h := by
  obtain ⟨hd, hq⟩ := nilDs_ok hq
  obtain ⟨y25, e24, q26⟩ := vBool_ok hq
  obtain ⟨y28, e27, q29⟩ := vAddr_ok q26
  obtain ⟨y31, e30, q32⟩ := vBool_ok q29
  exact ⟨(g.v 1), y25, y28, (g.v 11), y31, ⟨rfl, e24, e27, rfl, e30, hd⟩, q32⟩
abbrev n8 (x1 : Value) (x2 : Bool) (x10 : Addr) (x11 : Value) (x12 : Bool) (Kn : T3) (Ke0 : T2) (Kr : T0) (h : H) : Prop :=
  cond x12 (vTup x11 fun l33 => vNth l33 1 fun e34 => vInt .i64 e34 fun i35 => vTup x11 fun l36 => vNth l36 2 fun e37 => vInt .i32 e37 fun i38 => CallV Tryd.prog 4 x1 ⟨[(.int .i32 i38)]⟩ h fun v39 h40 => vBool v39 fun b41 => cond b41 (cond x2 (Kr i35 h40) (Kn x1 x2 x10 h40)) (cond x2 (Kn x1 x2 x10 h40) (Kr i35 h40))) (Ke0 h)
theorem n8_ok (x1 : Value) (x2 : Bool) (x10 : Addr) (x11 : Value) (x12 : Bool) (Kn : T3) (Ke0 : T2) (Kr : T0) (g : Env) (hg : E4 g x1 x2 x10 x11 x12) (h : H) (hS : n8 x1 x2 x10 x11 x12 Kn Ke0 Kr h) : wpC none Tryd.prog 21 n7_c2 (Q3 Kn Ke0 Kr) g h := by
  obtain ⟨hg1, hg2, hg10, hg11, hg12, hds⟩ := hg
  refine wpC_of_wpx (by kernel_rfl) (by kernel_rfl) (g' := (((((⟨g.v, []⟩ : Env).upd (some 1) x1).upd (some 2) (.bool x2)).upd (some 10) (.pointer (some x10))).upd (some 11) x11).upd (some 12) (.bool x12)) (by rw [env_ds hds, upd_self hg1, upd_self hg2, upd_self hg10, upd_self hg11, upd_self hg12]) ?_
  have e : (n8 x1 x2 x10 x11 x12 Kn Ke0 Kr h) = wpx none Tryd.prog 21 n7_c2 (Q3 Kn Ke0 Kr) ((((((⟨g.v, []⟩ : Env).upd (some 1) x1).upd (some 2) (.bool x2)).upd (some 10) (.pointer (some x10))).upd (some 11) x11).upd (some 12) (.bool x12)) h := by kernel_rfl
  exact e ▸ hS
def Q4 (Kn : T4) (Ke0 : T2) (Kr : T0) : XPost
  | .normal, g, h => D4 Kn g h
  | .ret, g, h => D0 Kr g h
  | .exit id, g, h => cond (Nat.beq id 0) (D2 Ke0 g h) (False)
  | _, _, _ => False
abbrev n7 (x1 : Value) (x2 : Bool) (x10 : Addr) (Kn : T3) (Ke0 : T2) (Kr : T0) (h : H) : Prop :=
  SemH Tryd.prog (Instr.next (.pointer (some x10)) true 0) h fun v42 h43 => vTup v42 fun l44 => vNth l44 0 fun e45 => vBool e45 fun b46 => cond b46 (n8 x1 x2 x10 v42 true Kn Ke0 Kr h43) (n8 x1 x2 x10 v42 false Kn Ke0 Kr h43)
theorem n7_ok (x1 : Value) (x2 : Bool) (x10 : Addr) (Kn : T3) (Ke0 : T2) (Kr : T0) (g : Env) (hg : E3 g x1 x2 x10) (h : H) (hS : n7 x1 x2 x10 Kn Ke0 Kr h) : wpC none Tryd.prog 21 n6_c1 (Q3 Kn Ke0 Kr) g h := by
  obtain ⟨hg1, hg2, hg10, hds⟩ := hg
  refine wpC_seq' (x := n7_c1) (y := n7_c2) (Q' := (Q4 (fun z1 z2 z10 z11 z12 h => n8 z1 z2 z10 z11 z12 Kn Ke0 Kr h) Ke0 Kr)) (by kernel_rfl) ?_ ?_
  · refine wpC_of_wpx (by kernel_rfl) (by kernel_rfl) (g' := (((⟨g.v, []⟩ : Env).upd (some 1) x1).upd (some 2) (.bool x2)).upd (some 10) (.pointer (some x10))) (by rw [env_ds hds, upd_self hg1, upd_self hg2, upd_self hg10]) ?_
    have e : (n7 x1 x2 x10 Kn Ke0 Kr h) = wpx none Tryd.prog 21 n7_c1 (Q4 (fun z1 z2 z10 z11 z12 h => n8 z1 z2 z10 z11 z12 Kn Ke0 Kr h) Ke0 Kr) ((((⟨g.v, []⟩ : Env).upd (some 1) x1).upd (some 2) (.bool x2)).upd (some 10) (.pointer (some x10))) h := by kernel_rfl
    exact e ▸ hS
  · intro e g' h' hq
    cases e with
    | normal =>
      have hq : D4 (fun z1 z2 z10 z11 z12 h => n8 z1 z2 z10 z11 z12 Kn Ke0 Kr h) g' h' := hq
      obtain ⟨y1, y2, y10, y11, y12, hg', hq⟩ := D4_ok hq
      exact n8_ok y1 y2 y10 y11 y12 Kn Ke0 Kr g' hg' h' hq
    | _ => exact hq
def n6_L (Kn : T2) (Ke0 : T2) (Kr : T0) : Nat → Value → Bool → Addr → H → Prop
  | 0 => fun _ _ _ _ => False
  | N + 1 => fun x1 x2 x10 h => n7 x1 x2 x10 (fun z1 z2 z10 h => n6_L Kn Ke0 Kr N z1 z2 z10 h) Ke0 Kr h
abbrev n6 (x1 : Value) (x2 : Bool) (x10 : Addr) (Kn : T2) (Ke0 : T2) (Kr : T0) (h : H) : Prop := ∃ N, n6_L Kn Ke0 Kr N x1 x2 x10 h
theorem n6_ok (x1 : Value) (x2 : Bool) (x10 : Addr) (Kn : T2) (Ke0 : T2) (Kr : T0) (g : Env) (hg : E3 g x1 x2 x10) (h : H) (hS : n6 x1 x2 x10 Kn Ke0 Kr h) : wpC none Tryd.prog 21 n5_c1 (Q2 Kn Ke0 Kr) g h := by
  obtain ⟨N0, hS⟩ := hS
  refine wpC_loop' (x := n6_c1) (by kernel_rfl) (fun k g h => ∃ (x1 : Value) (x2 : Bool) (x10 : Addr), E3 g x1 x2 x10 ∧ n6_L Kn Ke0 Kr k x1 x2 x10 h) (fun g h hr => ?_) (fun N g h hr => ?_) N0 ⟨x1, x2, x10, hg, hS⟩
  · obtain ⟨x1, x2, x10, hg, hS⟩ := hr
    exact hS.elim
  · obtain ⟨x1, x2, x10, hg, hS⟩ := hr
    refine (n7_ok x1 x2 x10 (fun z1 z2 z10 h => n6_L Kn Ke0 Kr N z1 z2 z10 h) Ke0 Kr g hg h hS).mono ?_
    intro e g' h' hq
    cases e with
    | normal => exact D3_ok (K := (fun z1 z2 z10 h => n6_L Kn Ke0 Kr N z1 z2 z10 h)) hq
    | _ => exact hq
abbrev n5 (x1 : Value) (x2 : Bool) (x10 : Addr) (Kn : T2) (Kr : T0) (h : H) : Prop := n6 x1 x2 x10 Kn Kn Kr h
theorem n5_ok (x1 : Value) (x2 : Bool) (x10 : Addr) (Kn : T2) (Kr : T0) (g : Env) (hg : E3 g x1 x2 x10) (h : H) (hS : n5 x1 x2 x10 Kn Kr h) : wpC none Tryd.prog 21 n4_c2 (Q1 Kn Kr) g h := by
  refine wpC_block' (id := 0) (x := n5_c1) (by kernel_rfl) (n6_ok x1 x2 x10 Kn Kn Kr g hg h hS) ?_
  intro e g' h' hq
  cases e <;> exact hq
def Q5 (Kn : T3) (Kr : T0) : XPost
  | .normal, g, h => D3 Kn g h
  | .ret, g, h => D0 Kr g h
  | _, _, _ => False
abbrev n4 (x0 : List UInt8) (x1 : Value) (x2 : Bool) (Kn : T2) (Kr : T0) (h : H) : Prop :=
  SemH Tryd.prog (Instr.range 9 (S x0)) h fun v47 h48 => vAddr v47 fun a49 => n5 x1 x2 a49 Kn Kr h48
theorem n4_ok (x0 : List UInt8) (x1 : Value) (x2 : Bool) (Kn : T2) (Kr : T0) (g : Env) (hg : E1 g x0 x1 x2) (h : H) (hS : n4 x0 x1 x2 Kn Kr h) : wpC none Tryd.prog 21 n2_c1 (Q1 Kn Kr) g h := by
  obtain ⟨hg0, hg1, hg2, hds⟩ := hg
  refine wpC_seq' (x := n4_c1) (y := n4_c2) (Q' := (Q5 (fun z1 z2 z10 h => n5 z1 z2 z10 Kn Kr h) Kr)) (by kernel_rfl) ?_ ?_
  · refine wpC_of_wpx (by kernel_rfl) (by kernel_rfl) (g' := (((⟨g.v, []⟩ : Env).upd (some 0) (S x0)).upd (some 1) x1).upd (some 2) (.bool x2)) (by rw [env_ds hds, upd_self hg0, upd_self hg1, upd_self hg2]) ?_
    have e : (n4 x0 x1 x2 Kn Kr h) = wpx none Tryd.prog 21 n4_c1 (Q5 (fun z1 z2 z10 h => n5 z1 z2 z10 Kn Kr h) Kr) ((((⟨g.v, []⟩ : Env).upd (some 0) (S x0)).upd (some 1) x1).upd (some 2) (.bool x2)) h := by kernel_rfl
    exact e ▸ hS
  · intro e g' h' hq
    cases e with
    | normal =>
      have hq : D3 (fun z1 z2 z10 h => n5 z1 z2 z10 Kn Kr h) g' h' := hq
      obtain ⟨y1, y2, y10, hg', hq⟩ := D3_ok hq
      exact n5_ok y1 y2 y10 Kn Kr g' hg' h' hq
    | _ => exact hq
abbrev n2 (x0 : List UInt8) (x1 : Value) (x2 : Bool) (Kn : T0) (Kr : T0) (h : H) : Prop := n4 x0 x1 x2 (fun  h => n3 Kn Kr h) Kr h
theorem n2_ok (x0 : List UInt8) (x1 : Value) (x2 : Bool) (Kn : T0) (Kr : T0) (g : Env) (hg : E1 g x0 x1 x2) (h : H) (hS : n2 x0 x1 x2 Kn Kr h) : wpC none Tryd.prog 21 n1_c2 (Q0 Kn Kr) g h := by
  refine wpC_seq' (x := n2_c1) (y := n2_c2) (by kernel_rfl) (n4_ok x0 x1 x2 (fun  h => n3 Kn Kr h) Kr g hg h hS) ?_
  intro e g' h' hq
  cases e with
  | normal =>
    have hq : D2 (fun  h => n3 Kn Kr h) g' h' := hq
    obtain ⟨hg', hq⟩ := D2_ok hq
    exact n3_ok  Kn Kr g' hg' h' hq
  | _ => exact hq
def Q6 (Kn : T1) (Kr : T0) : XPost
  | .normal, g, h => D1 Kn g h
  | .ret, g, h => D0 Kr g h
  | _, _, _ => False
abbrev n1 (x0 : List UInt8) (x1 : Value) (x2 : Bool) (Kn : T0) (Kr : T0) (h : H) : Prop :=
  n2 x0 x1 x2 Kn Kr h
theorem n1_ok (x0 : List UInt8) (x1 : Value) (x2 : Bool) (Kn : T0) (Kr : T0) (g : Env) (hg : E1 g x0 x1 x2) (h : H) (hS : n1 x0 x1 x2 Kn Kr h) : wpC none Tryd.prog 21 code (Q0 Kn Kr) g h := by
  obtain ⟨hg0, hg1, hg2, hds⟩ := hg
  refine wpC_seq' (x := n1_c1) (y := n1_c2) (Q' := (Q6 (fun z0 z1 z2 h => n2 z0 z1 z2 Kn Kr h) Kr)) (by kernel_rfl) ?_ ?_
  · refine wpC_of_wpx (by kernel_rfl) (by kernel_rfl) (g' := (((⟨g.v, []⟩ : Env).upd (some 0) (S x0)).upd (some 1) x1).upd (some 2) (.bool x2)) (by rw [env_ds hds, upd_self hg0, upd_self hg1, upd_self hg2]) ?_
    have e : (n1 x0 x1 x2 Kn Kr h) = wpx none Tryd.prog 21 n1_c1 (Q6 (fun z0 z1 z2 h => n2 z0 z1 z2 Kn Kr h) Kr) ((((⟨g.v, []⟩ : Env).upd (some 0) (S x0)).upd (some 1) x1).upd (some 2) (.bool x2)) h := by kernel_rfl
    exact e ▸ hS
  · intro e g' h' hq
    cases e with
    | normal =>
      have hq : D1 (fun z0 z1 z2 h => n2 z0 z1 z2 Kn Kr h) g' h' := hq
      obtain ⟨y0, y1, y2, hg', hq⟩ := D1_ok hq
      exact n2_ok y0 y1 y2 Kn Kr g' hg' h' hq
    | _ => exact hq
/-- WHAT strings.indexFunc ASKS -/
abbrev asks (x0 : List UInt8) (x1 : Value) (x2 : Bool) (K : Value → H → Prop) (h : H) : Prop := n1 x0 x1 x2 (fun y6 h => K (.int .i64 y6) h) (fun y6 h => K (.int .i64 y6) h) h
theorem ok (x0 : List UInt8) (x1 : Value) (x2 : Bool) (K : Value → H → Prop) (h : H) (hS : asks x0 x1 x2 K h) : HCalls Tryd.prog 51 ⟨[(S x0), x1, (.bool x2)]⟩ h K := by
  refine calls_of_wpC (c := code) Tryd.func51 (by kernel_rfl) (Nat.le_of_ble_eq_true (by kernel_rfl)) ?_
  refine (n1_ok x0 x1 x2 (fun y6 h => K (.int .i64 y6) h) (fun y6 h => K (.int .i64 y6) h) (env0 [(S x0), x1, (.bool x2)]) ⟨rfl, rfl, rfl, rfl⟩ h hS).mono ?_
  intro e g' h' hq
  cases e with
  | normal =>
    have hq : D0 (fun y6 h => K (.int .i64 y6) h) g' h' := hq
    obtain ⟨y6, ⟨hg6, hd⟩, hq⟩ := D0_ok hq
    show leaveX g'.ds h' _
    rw [hd]
    show K (g'.v 6) h'
    rw [hg6]
    exact hq
  | ret =>
    have hq : D0 (fun y6 h => K (.int .i64 y6) h) g' h' := hq
    obtain ⟨y6, ⟨hg6, hd⟩, hq⟩ := D0_ok hq
    show leaveX g'.ds h' _
    rw [hd]
    show K (g'.v 6) h'
    rw [hg6]
    exact hq
  | _ => exact hq
end Sx.strings_indexFunc

/-! ### strings.lastIndexFunc -/
namespace Sx.strings_lastIndexFunc
noncomputable def code : Code := bodyOf Tryd.f63
abbrev T0 := Int → H → Prop
def E0 (g : Env) (x6 : Int) : Prop := g.v 6 = (.int .i64 x6) ∧ g.ds = []
def D0 (K : T0) (g : Env) (h : H) : Prop := nilDs g.ds (vInt .i64 (g.v 6) fun i1 => K i1 h)
theorem D0_ok {K : T0} {g : Env} {h : H} (hq : D0 K g h) : ∃ (x6 : Int), E0 g x6 ∧ K x6 h := by
  obtain ⟨hd, hq⟩ := nilDs_ok hq
  obtain ⟨y3, e2, q4⟩ := vInt_ok hq
  exact ⟨y3, ⟨e2, hd⟩, q4⟩
def Q0 (Kn : T0) (Kr : T0) : XPost
  | .normal, g, h => D0 Kn g h
  | .ret, g, h => D0 Kr g h
  | _, _, _ => False
abbrev T1 := (List UInt8) → Value → Bool → H → Prop
def E1 (g : Env) (x0 : List UInt8) (x1 : Value) (x2 : Bool) : Prop := g.v 0 = (S x0) ∧ g.v 1 = x1 ∧ g.v 2 = (.bool x2) ∧ g.ds = []
def D1 (K : T1) (g : Env) (h : H) : Prop := nilDs g.ds (vStr (g.v 0) fun s5 => vBool (g.v 2) fun b6 => K s5 (g.v 1) b6 h)
theorem D1_ok {K : T1} {g : Env} {h : H} (hq : D1 K g h) : ∃ (x0 : List UInt8) (x1 : Value) (x2 : Bool), E1 g x0 x1 x2 ∧ K x0 x1 x2 h := by
  obtain ⟨hd, hq⟩ := nilDs_ok hq
  obtain ⟨y8, e7, q9⟩ := vStr_ok hq
  obtain ⟨y11, e10, q12⟩ := vBool_ok q9
  exact ⟨y8, (g.v 1), y11, ⟨e7, rfl, e10, hd⟩, q12⟩
noncomputable def n1_c1 : Code := cFst code
noncomputable def n1_c2 : Code := cSnd code
noncomputable def n2_c1 : Code := cFst n1_c2
noncomputable def n2_c2 : Code := cSnd n1_c2
abbrev T2 := H → Prop
def E2 (g : Env)  : Prop := g.ds = []
def D2 (K : T2) (g : Env) (h : H) : Prop := nilDs g.ds (K h)
theorem D2_ok {K : T2} {g : Env} {h : H} (hq : D2 K g h) : E2 g  ∧ K  h := by
  obtain ⟨hd, hq⟩ := nilDs_ok hq
  skip
  exact ⟨hd, hq⟩
abbrev n3  (Kn : T0) (Kr : T0) (h : H) : Prop :=
  Kr (-1 : Int) h
theorem n3_ok  (Kn : T0) (Kr : T0) (g : Env) (hg : E2 g ) (h : H) (hS : n3  Kn Kr h) : wpC none Tryd.prog 30 n2_c2 (Q0 Kn Kr) g h := by
  have hds : g.ds = [] := hg
  refine wpC_of_wpx (by kernel_rfl) (by kernel_rfl) (g' := ⟨g.v, []⟩) (by rw [env_ds hds]) ?_
  have e : (n3  Kn Kr h) = wpx none Tryd.prog 30 n2_c2 (Q0 Kn Kr) (⟨g.v, []⟩) h := by kernel_rfl
  exact e ▸ hS
def Q1 (Kn : T2) (Kr : T0) : XPost
  | .normal, g, h => D2 Kn g h
  | .ret, g, h => D0 Kr g h
  | _, _, _ => False
noncomputable def n4_c1 : Code := cFst n2_c1
noncomputable def n4_c2 : Code := cSnd n2_c1
abbrev T3 := (List UInt8) → Value → Bool → Int → H → Prop
def E3 (g : Env) (x0 : List UInt8) (x1 : Value) (x2 : Bool) (x7 : Int) : Prop := g.v 0 = (S x0) ∧ g.v 1 = x1 ∧ g.v 2 = (.bool x2) ∧ g.v 7 = (.int .i64 x7) ∧ g.ds = []
def D3 (K : T3) (g : Env) (h : H) : Prop := nilDs g.ds (vStr (g.v 0) fun s13 => vBool (g.v 2) fun b14 => vInt .i64 (g.v 7) fun i15 => K s13 (g.v 1) b14 i15 h)
theorem D3_ok {K : T3} {g : Env} {h : H} (hq : D3 K g h) : ∃ (x0 : List UInt8) (x1 : Value) (x2 : Bool) (x7 : Int), E3 g x0 x1 x2 x7 ∧ K x0 x1 x2 x7 h := by
  obtain ⟨hd, hq⟩ := nilDs_ok hq
  obtain ⟨y17, e16, q18⟩ := vStr_ok hq
  obtain ⟨y20, e19, q21⟩ := vBool_ok q18
  obtain ⟨y23, e22, q24⟩ := vInt_ok q21
  exact ⟨y17, (g.v 1), y20, y23, ⟨e16, rfl, e19, e22, hd⟩, q24⟩
noncomputable def n5_c1 : Code := cFst n4_c2
def Q2 (Kn : T2) (Ke0 : T2) (Kr : T0) : XPost
  | .normal, g, h => D2 Kn g h
  | .ret, g, h => D0 Kr g h
  | .exit id, g, h => cond (Nat.beq id 0) (D2 Ke0 g h) (False)
  | _, _, _ => False
noncomputable def n6_c1 : Code := cFst n5_c1
def Q3 (Kn : T3) (Ke0 : T2) (Kr : T0) : XPost
  | .normal, g, h => D3 Kn g h
  | .ret, g, h => D0 Kr g h
  | .exit id, g, h => cond (Nat.beq id 0) (D2 Ke0 g h) (False)
  | _, _, _ => False
def n6_L (Kn : T2) (Ke0 : T2) (Kr : T0) : Nat → (List UInt8) → Value → Bool → Int → H → Prop
  | 0 => fun _ _ _ _ _ => False
  | N + 1 => fun x0 x1 x2 x7 h => Spl (x7 > (0 : Int)) ((0 ≤ (0 : Int) ∧ (0 : Int) ≤ x7 ∧ x7 ≤ (x0.length : Int)) ∧ (HCalls Tryd.prog 31 ⟨[(S (sub x0 (0 : Int) x7))]⟩ h fun v25 h26 => vTup v25 fun l27 => uncons l27 fun e28 l29 => vInt .i32 e28 fun i30 => uncons l29 fun e31 l32 => vInt .i64 e31 fun i33 => unnil l32 (Rng .i64 (x7 - i33) ∧ (CallV Tryd.prog 4 x1 ⟨[(.int .i32 i30)]⟩ h26 fun v34 h35 => vBool v34 fun b36 => cond b36 (cond x2 (Kr (x7 - i33) h35) (n6_L Kn Ke0 Kr N x0 x1 x2 (x7 - i33) h35)) (cond x2 (n6_L Kn Ke0 Kr N x0 x1 x2 (x7 - i33) h35) (Kr (x7 - i33) h35)))))) (Ke0 h)
abbrev n6 (x0 : List UInt8) (x1 : Value) (x2 : Bool) (x7 : Int) (Kn : T2) (Ke0 : T2) (Kr : T0) (h : H) : Prop := ∃ N, n6_L Kn Ke0 Kr N x0 x1 x2 x7 h
theorem n6_ok (x0 : List UInt8) (x1 : Value) (x2 : Bool) (x7 : Int) (Kn : T2) (Ke0 : T2) (Kr : T0) (g : Env) (hg : E3 g x0 x1 x2 x7) (h : H) (hS : n6 x0 x1 x2 x7 Kn Ke0 Kr h) : wpC none Tryd.prog 30 n5_c1 (Q2 Kn Ke0 Kr) g h := by
  obtain ⟨N0, hS⟩ := hS
  refine wpC_loop' (x := n6_c1) (by kernel_rfl) (fun k g h => ∃ (x0 : List UInt8) (x1 : Value) (x2 : Bool) (x7 : Int), E3 g x0 x1 x2 x7 ∧ n6_L Kn Ke0 Kr k x0 x1 x2 x7 h) (fun g h hr => ?_) (fun N g h hr => ?_) N0 ⟨x0, x1, x2, x7, hg, hS⟩
  · obtain ⟨x0, x1, x2, x7, hg, hS⟩ := hr
    exact hS.elim
  · obtain ⟨x0, x1, x2, x7, hg, hS⟩ := hr
    have hw : wpC none Tryd.prog 30 n6_c1 (Q3 (fun z0 z1 z2 z7 h => n6_L Kn Ke0 Kr N z0 z1 z2 z7 h) Ke0 Kr) g h := by
      obtain ⟨hg0, hg1, hg2, hg7, hds⟩ := hg
      refine wpC_of_wpx (by kernel_rfl) (by kernel_rfl) (g' := ((((⟨g.v, []⟩ : Env).upd (some 0) (S x0)).upd (some 1) x1).upd (some 2) (.bool x2)).upd (some 7) (.int .i64 x7)) (by rw [env_ds hds, upd_self hg0, upd_self hg1, upd_self hg2, upd_self hg7]) ?_
      have e : (n6_L Kn Ke0 Kr (N + 1) x0 x1 x2 x7 h) = wpx none Tryd.prog 30 n6_c1 (Q3 (fun z0 z1 z2 z7 h => n6_L Kn Ke0 Kr N z0 z1 z2 z7 h) Ke0 Kr) (((((⟨g.v, []⟩ : Env).upd (some 0) (S x0)).upd (some 1) x1).upd (some 2) (.bool x2)).upd (some 7) (.int .i64 x7)) h := by kernel_rfl
      exact e ▸ hS
    refine hw.mono ?_
    intro e g' h' hq
    cases e with
    | normal => exact D3_ok (K := (fun z0 z1 z2 z7 h => n6_L Kn Ke0 Kr N z0 z1 z2 z7 h)) hq
    | _ => exact hq
abbrev n5 (x0 : List UInt8) (x1 : Value) (x2 : Bool) (x7 : Int) (Kn : T2) (Kr : T0) (h : H) : Prop := n6 x0 x1 x2 x7 Kn Kn Kr h
theorem n5_ok (x0 : List UInt8) (x1 : Value) (x2 : Bool) (x7 : Int) (Kn : T2) (Kr : T0) (g : Env) (hg : E3 g x0 x1 x2 x7) (h : H) (hS : n5 x0 x1 x2 x7 Kn Kr h) : wpC none Tryd.prog 30 n4_c2 (Q1 Kn Kr) g h := by
  refine wpC_block' (id := 0) (x := n5_c1) (by kernel_rfl) (n6_ok x0 x1 x2 x7 Kn Kn Kr g hg h hS) ?_
  intro e g' h' hq
  cases e <;> exact hq
def Q4 (Kn : T3) (Kr : T0) : XPost
  | .normal, g, h => D3 Kn g h
  | .ret, g, h => D0 Kr g h
  | _, _, _ => False
abbrev n4 (x0 : List UInt8) (x1 : Value) (x2 : Bool) (Kn : T2) (Kr : T0) (h : H) : Prop :=
  n5 x0 x1 x2 (x0.length : Int) Kn Kr h
theorem n4_ok (x0 : List UInt8) (x1 : Value) (x2 : Bool) (Kn : T2) (Kr : T0) (g : Env) (hg : E1 g x0 x1 x2) (h : H) (hS : n4 x0 x1 x2 Kn Kr h) : wpC none Tryd.prog 30 n2_c1 (Q1 Kn Kr) g h := by
  obtain ⟨hg0, hg1, hg2, hds⟩ := hg
  refine wpC_seq' (x := n4_c1) (y := n4_c2) (Q' := (Q4 (fun z0 z1 z2 z7 h => n5 z0 z1 z2 z7 Kn Kr h) Kr)) (by kernel_rfl) ?_ ?_
  · refine wpC_of_wpx (by kernel_rfl) (by kernel_rfl) (g' := (((⟨g.v, []⟩ : Env).upd (some 0) (S x0)).upd (some 1) x1).upd (some 2) (.bool x2)) (by rw [env_ds hds, upd_self hg0, upd_self hg1, upd_self hg2]) ?_
    have e : (n4 x0 x1 x2 Kn Kr h) = wpx none Tryd.prog 30 n4_c1 (Q4 (fun z0 z1 z2 z7 h => n5 z0 z1 z2 z7 Kn Kr h) Kr) ((((⟨g.v, []⟩ : Env).upd (some 0) (S x0)).upd (some 1) x1).upd (some 2) (.bool x2)) h := by kernel_rfl
    exact e ▸ hS
  · intro e g' h' hq
    cases e with
    | normal =>
      have hq : D3 (fun z0 z1 z2 z7 h => n5 z0 z1 z2 z7 Kn Kr h) g' h' := hq
      obtain ⟨y0, y1, y2, y7, hg', hq⟩ := D3_ok hq
      exact n5_ok y0 y1 y2 y7 Kn Kr g' hg' h' hq
    | _ => exact hq
abbrev n2 (x0 : List UInt8) (x1 : Value) (x2 : Bool) (Kn : T0) (Kr : T0) (h : H) : Prop := n4 x0 x1 x2 (fun  h => n3 Kn Kr h) Kr h
theorem n2_ok (x0 : List UInt8) (x1 : Value) (x2 : Bool) (Kn : T0) (Kr : T0) (g : Env) (hg : E1 g x0 x1 x2) (h : H) (hS : n2 x0 x1 x2 Kn Kr h) : wpC none Tryd.prog 30 n1_c2 (Q0 Kn Kr) g h := by
  refine wpC_seq' (x := n2_c1) (y := n2_c2) (by kernel_rfl) (n4_ok x0 x1 x2 (fun  h => n3 Kn Kr h) Kr g hg h hS) ?_
  intro e g' h' hq
  cases e with
  | normal =>
    have hq : D2 (fun  h => n3 Kn Kr h) g' h' := hq
    obtain ⟨hg', hq⟩ := D2_ok hq
    exact n3_ok  Kn Kr g' hg' h' hq
  | _ => exact hq
def Q5 (Kn : T1) (Kr : T0) : XPost
  | .normal, g, h => D1 Kn g h
  | .ret, g, h => D0 Kr g h
  | _, _, _ => False
abbrev n1 (x0 : List UInt8) (x1 : Value) (x2 : Bool) (Kn : T0) (Kr : T0) (h : H) : Prop :=
  n2 x0 x1 x2 Kn Kr h
theorem n1_ok (x0 : List UInt8) (x1 : Value) (x2 : Bool) (Kn : T0) (Kr : T0) (g : Env) (hg : E1 g x0 x1 x2) (h : H) (hS : n1 x0 x1 x2 Kn Kr h) : wpC none Tryd.prog 30 code (Q0 Kn Kr) g h := by
  obtain ⟨hg0, hg1, hg2, hds⟩ := hg
  refine wpC_seq' (x := n1_c1) (y := n1_c2) (Q' := (Q5 (fun z0 z1 z2 h => n2 z0 z1 z2 Kn Kr h) Kr)) (by kernel_rfl) ?_ ?_
  · refine wpC_of_wpx (by kernel_rfl) (by kernel_rfl) (g' := (((⟨g.v, []⟩ : Env).upd (some 0) (S x0)).upd (some 1) x1).upd (some 2) (.bool x2)) (by rw [env_ds hds, upd_self hg0, upd_self hg1, upd_self hg2]) ?_
    have e : (n1 x0 x1 x2 Kn Kr h) = wpx none Tryd.prog 30 n1_c1 (Q5 (fun z0 z1 z2 h => n2 z0 z1 z2 Kn Kr h) Kr) ((((⟨g.v, []⟩ : Env).upd (some 0) (S x0)).upd (some 1) x1).upd (some 2) (.bool x2)) h := by kernel_rfl
    exact e ▸ hS
  · intro e g' h' hq
    cases e with
    | normal =>
      have hq : D1 (fun z0 z1 z2 h => n2 z0 z1 z2 Kn Kr h) g' h' := hq
      obtain ⟨y0, y1, y2, hg', hq⟩ := D1_ok hq
      exact n2_ok y0 y1 y2 Kn Kr g' hg' h' hq
    | _ => exact hq
/-- WHAT strings.lastIndexFunc ASKS -/
abbrev asks (x0 : List UInt8) (x1 : Value) (x2 : Bool) (K : Value → H → Prop) (h : H) : Prop := n1 x0 x1 x2 (fun y6 h => K (.int .i64 y6) h) (fun y6 h => K (.int .i64 y6) h) h
theorem ok (x0 : List UInt8) (x1 : Value) (x2 : Bool) (K : Value → H → Prop) (h : H) (hS : asks x0 x1 x2 K h) : HCalls Tryd.prog 63 ⟨[(S x0), x1, (.bool x2)]⟩ h K := by
  refine calls_of_wpC (c := code) Tryd.func63 (by kernel_rfl) (Nat.le_of_ble_eq_true (by kernel_rfl)) ?_
  refine (n1_ok x0 x1 x2 (fun y6 h => K (.int .i64 y6) h) (fun y6 h => K (.int .i64 y6) h) (env0 [(S x0), x1, (.bool x2)]) ⟨rfl, rfl, rfl, rfl⟩ h hS).mono ?_
  intro e g' h' hq
  cases e with
  | normal =>
    have hq : D0 (fun y6 h => K (.int .i64 y6) h) g' h' := hq
    obtain ⟨y6, ⟨hg6, hd⟩, hq⟩ := D0_ok hq
    show leaveX g'.ds h' _
    rw [hd]
    show K (g'.v 6) h'
    rw [hg6]
    exact hq
  | ret =>
    have hq : D0 (fun y6 h => K (.int .i64 y6) h) g' h' := hq
    obtain ⟨y6, ⟨hg6, hd⟩, hq⟩ := D0_ok hq
    show leaveX g'.ds h' _
    rw [hd]
    show K (g'.v 6) h'
    rw [hg6]
    exact hq
  | _ => exact hq
end Sx.strings_lastIndexFunc

/-! ### strings.IndexFunc -/
namespace Sx.strings_IndexFunc
noncomputable def code : Code := bodyOf Tryd.f35
abbrev T0 := Int → H → Prop
def E0 (g : Env) (x4 : Int) : Prop := g.v 4 = (.int .i64 x4) ∧ g.ds = []
def D0 (K : T0) (g : Env) (h : H) : Prop := nilDs g.ds (vInt .i64 (g.v 4) fun i1 => K i1 h)
theorem D0_ok {K : T0} {g : Env} {h : H} (hq : D0 K g h) : ∃ (x4 : Int), E0 g x4 ∧ K x4 h := by
  obtain ⟨hd, hq⟩ := nilDs_ok hq
  obtain ⟨y3, e2, q4⟩ := vInt_ok hq
  exact ⟨y3, ⟨e2, hd⟩, q4⟩
def Q0 (Kn : T0) (Kr : T0) : XPost
  | .normal, g, h => D0 Kn g h
  | .ret, g, h => D0 Kr g h
  | _, _, _ => False
abbrev T1 := (List UInt8) → Value → H → Prop
def E1 (g : Env) (x0 : List UInt8) (x1 : Value) : Prop := g.v 0 = (S x0) ∧ g.v 1 = x1 ∧ g.ds = []
def D1 (K : T1) (g : Env) (h : H) : Prop := nilDs g.ds (vStr (g.v 0) fun s5 => K s5 (g.v 1) h)
theorem D1_ok {K : T1} {g : Env} {h : H} (hq : D1 K g h) : ∃ (x0 : List UInt8) (x1 : Value), E1 g x0 x1 ∧ K x0 x1 h := by
  obtain ⟨hd, hq⟩ := nilDs_ok hq
  obtain ⟨y7, e6, q8⟩ := vStr_ok hq
  exact ⟨y7, (g.v 1), ⟨e6, rfl, hd⟩, q8⟩
abbrev n1 (x0 : List UInt8) (x1 : Value) (Kn : T0) (Kr : T0) (h : H) : Prop :=
  HCalls Tryd.prog 51 ⟨[(S x0), x1, (.bool true)]⟩ h fun v9 h10 => vInt .i64 v9 fun i11 => Kr i11 h10
theorem n1_ok (x0 : List UInt8) (x1 : Value) (Kn : T0) (Kr : T0) (g : Env) (hg : E1 g x0 x1) (h : H) (hS : n1 x0 x1 Kn Kr h) : wpC none Tryd.prog 8 code (Q0 Kn Kr) g h := by
  obtain ⟨hg0, hg1, hds⟩ := hg
  refine wpC_of_wpx (by kernel_rfl) (by kernel_rfl) (g' := ((⟨g.v, []⟩ : Env).upd (some 0) (S x0)).upd (some 1) x1) (by rw [env_ds hds, upd_self hg0, upd_self hg1]) ?_
  have e : (n1 x0 x1 Kn Kr h) = wpx none Tryd.prog 8 code (Q0 Kn Kr) (((⟨g.v, []⟩ : Env).upd (some 0) (S x0)).upd (some 1) x1) h := by kernel_rfl
  exact e ▸ hS
/-- WHAT strings.IndexFunc ASKS -/
abbrev asks (x0 : List UInt8) (x1 : Value) (K : Value → H → Prop) (h : H) : Prop := n1 x0 x1 (fun y4 h => K (.int .i64 y4) h) (fun y4 h => K (.int .i64 y4) h) h
theorem ok (x0 : List UInt8) (x1 : Value) (K : Value → H → Prop) (h : H) (hS : asks x0 x1 K h) : HCalls Tryd.prog 35 ⟨[(S x0), x1]⟩ h K := by
  refine calls_of_wpC (c := code) Tryd.func35 (by kernel_rfl) (Nat.le_of_ble_eq_true (by kernel_rfl)) ?_
  refine (n1_ok x0 x1 (fun y4 h => K (.int .i64 y4) h) (fun y4 h => K (.int .i64 y4) h) (env0 [(S x0), x1]) ⟨rfl, rfl, rfl⟩ h hS).mono ?_
  intro e g' h' hq
  cases e with
  | normal =>
    have hq : D0 (fun y4 h => K (.int .i64 y4) h) g' h' := hq
    obtain ⟨y4, ⟨hg4, hd⟩, hq⟩ := D0_ok hq
    show leaveX g'.ds h' _
    rw [hd]
    show K (g'.v 4) h'
    rw [hg4]
    exact hq
  | ret =>
    have hq : D0 (fun y4 h => K (.int .i64 y4) h) g' h' := hq
    obtain ⟨y4, ⟨hg4, hd⟩, hq⟩ := D0_ok hq
    show leaveX g'.ds h' _
    rw [hd]
    show K (g'.v 4) h'
    rw [hg4]
    exact hq
  | _ => exact hq
end Sx.strings_IndexFunc

/-! ### strings.TrimRightFunc -/
namespace Sx.strings_TrimRightFunc
noncomputable def code : Code := bodyOf Tryd.f53
abbrev T0 := (List UInt8) → H → Prop
def E0 (g : Env) (x4 : List UInt8) : Prop := g.v 4 = (S x4) ∧ g.ds = []
def D0 (K : T0) (g : Env) (h : H) : Prop := nilDs g.ds (vStr (g.v 4) fun s1 => K s1 h)
theorem D0_ok {K : T0} {g : Env} {h : H} (hq : D0 K g h) : ∃ (x4 : List UInt8), E0 g x4 ∧ K x4 h := by
  obtain ⟨hd, hq⟩ := nilDs_ok hq
  obtain ⟨y3, e2, q4⟩ := vStr_ok hq
  exact ⟨y3, ⟨e2, hd⟩, q4⟩
def Q0 (Kn : T0) (Kr : T0) : XPost
  | .normal, g, h => D0 Kn g h
  | .ret, g, h => D0 Kr g h
  | _, _, _ => False
abbrev T1 := (List UInt8) → Value → H → Prop
def E1 (g : Env) (x0 : List UInt8) (x1 : Value) : Prop := g.v 0 = (S x0) ∧ g.v 1 = x1 ∧ g.ds = []
def D1 (K : T1) (g : Env) (h : H) : Prop := nilDs g.ds (vStr (g.v 0) fun s5 => K s5 (g.v 1) h)
theorem D1_ok {K : T1} {g : Env} {h : H} (hq : D1 K g h) : ∃ (x0 : List UInt8) (x1 : Value), E1 g x0 x1 ∧ K x0 x1 h := by
  obtain ⟨hd, hq⟩ := nilDs_ok hq
  obtain ⟨y7, e6, q8⟩ := vStr_ok hq
  exact ⟨y7, (g.v 1), ⟨e6, rfl, hd⟩, q8⟩
noncomputable def n1_c1 : Code := cFst code
noncomputable def n1_c2 : Code := cSnd code
noncomputable def n2_c1 : Code := cFst n1_c2
noncomputable def n2_c2 : Code := cSnd n1_c2
abbrev T2 := (List UInt8) → Int → H → Prop
def E2 (g : Env) (x0 : List UInt8) (x5 : Int) : Prop := g.v 0 = (S x0) ∧ g.v 5 = (.int .i64 x5) ∧ g.ds = []
def D2 (K : T2) (g : Env) (h : H) : Prop := nilDs g.ds (vStr (g.v 0) fun s9 => vInt .i64 (g.v 5) fun i10 => K s9 i10 h)
theorem D2_ok {K : T2} {g : Env} {h : H} (hq : D2 K g h) : ∃ (x0 : List UInt8) (x5 : Int), E2 g x0 x5 ∧ K x0 x5 h := by
  obtain ⟨hd, hq⟩ := nilDs_ok hq
  obtain ⟨y12, e11, q13⟩ := vStr_ok hq
  obtain ⟨y15, e14, q16⟩ := vInt_ok q13
  exact ⟨y12, y15, ⟨e11, e14, hd⟩, q16⟩
noncomputable def n3_c1 : Code := cFst n2_c2
noncomputable def n3_c2 : Code := cSnd n2_c2
abbrev n4 (x0 : List UInt8) (x5 : Int) (Kn : T0) (Kr : T0) (h : H) : Prop :=
  (0 ≤ (0 : Int) ∧ (0 : Int) ≤ x5 ∧ x5 ≤ (x0.length : Int)) ∧ (Kr (sub x0 (0 : Int) x5) h)
theorem n4_ok (x0 : List UInt8) (x5 : Int) (Kn : T0) (Kr : T0) (g : Env) (hg : E2 g x0 x5) (h : H) (hS : n4 x0 x5 Kn Kr h) : wpC none Tryd.prog 28 n3_c2 (Q0 Kn Kr) g h := by
  obtain ⟨hg0, hg5, hds⟩ := hg
  refine wpC_of_wpx (by kernel_rfl) (by kernel_rfl) (g' := ((⟨g.v, []⟩ : Env).upd (some 0) (S x0)).upd (some 5) (.int .i64 x5)) (by rw [env_ds hds, upd_self hg0, upd_self hg5]) ?_
  have e : (n4 x0 x5 Kn Kr h) = wpx none Tryd.prog 28 n3_c2 (Q0 Kn Kr) (((⟨g.v, []⟩ : Env).upd (some 0) (S x0)).upd (some 5) (.int .i64 x5)) h := by kernel_rfl
  exact e ▸ hS
def Q1 (Kn : T2) (Kr : T0) : XPost
  | .normal, g, h => D2 Kn g h
  | .ret, g, h => D0 Kr g h
  | _, _, _ => False
noncomputable def n5_c1 : Code := cFst n3_c1
noncomputable def n5_c2 : Code := cSnd n3_c1
abbrev T3 := (List UInt8) → Int → Bool → H → Prop
def E3 (g : Env) (x0 : List UInt8) (x5 : Int) (x12 : Bool) : Prop := g.v 0 = (S x0) ∧ g.v 5 = (.int .i64 x5) ∧ g.v 12 = (.bool x12) ∧ g.ds = []
def D3 (K : T3) (g : Env) (h : H) : Prop := nilDs g.ds (vStr (g.v 0) fun s17 => vInt .i64 (g.v 5) fun i18 => vBool (g.v 12) fun b19 => K s17 i18 b19 h)
theorem D3_ok {K : T3} {g : Env} {h : H} (hq : D3 K g h) : ∃ (x0 : List UInt8) (x5 : Int) (x12 : Bool), E3 g x0 x5 x12 ∧ K x0 x5 x12 h := by
  obtain ⟨hd, hq⟩ := nilDs_ok hq
  obtain ⟨y21, e20, q22⟩ := vStr_ok hq
  obtain ⟨y24, e23, q25⟩ := vInt_ok q22
  obtain ⟨y27, e26, q28⟩ := vBool_ok q25
  exact ⟨y21, y24, y27, ⟨e20, e23, e26, hd⟩, q28⟩
abbrev n6 (x0 : List UInt8) (x5 : Int) (x12 : Bool) (Kn : T2) (Kr : T0) (h : H) : Prop :=
  cond x12 ((0 ≤ x5 ∧ x5 ≤ (x0.length : Int) ∧ (x0.length : Int) ≤ (x0.length : Int)) ∧ (HCalls Tryd.prog 22 ⟨[(S (sub x0 x5 (x0.length : Int)))]⟩ h fun v29 h30 => vTup v29 fun l31 => uncons l31 fun e32 l33 => vInt .i32 e32 fun i34 => uncons l33 fun e35 l36 => vInt .i64 e35 fun i37 => unnil l36 (Rng .i64 (x5 + i37) ∧ (Kn x0 (x5 + i37) h30)))) (Rng .i64 (x5 + (1 : Int)) ∧ (Kn x0 (x5 + (1 : Int)) h))
theorem n6_ok (x0 : List UInt8) (x5 : Int) (x12 : Bool) (Kn : T2) (Kr : T0) (g : Env) (hg : E3 g x0 x5 x12) (h : H) (hS : n6 x0 x5 x12 Kn Kr h) : wpC none Tryd.prog 28 n5_c2 (Q1 Kn Kr) g h := by
  obtain ⟨hg0, hg5, hg12, hds⟩ := hg
  refine wpC_of_wpx (by kernel_rfl) (by kernel_rfl) (g' := (((⟨g.v, []⟩ : Env).upd (some 0) (S x0)).upd (some 5) (.int .i64 x5)).upd (some 12) (.bool x12)) (by rw [env_ds hds, upd_self hg0, upd_self hg5, upd_self hg12]) ?_
  have e : (n6 x0 x5 x12 Kn Kr h) = wpx none Tryd.prog 28 n5_c2 (Q1 Kn Kr) ((((⟨g.v, []⟩ : Env).upd (some 0) (S x0)).upd (some 5) (.int .i64 x5)).upd (some 12) (.bool x12)) h := by kernel_rfl
  exact e ▸ hS
def Q2 (Kn : T3) (Kr : T0) : XPost
  | .normal, g, h => D3 Kn g h
  | .ret, g, h => D0 Kr g h
  | _, _, _ => False
abbrev n5 (x0 : List UInt8) (x5 : Int) (Kn : T2) (Kr : T0) (h : H) : Prop :=
  Spl (x5 ≥ (0 : Int)) (n6 x0 x5 true Kn Kr h) (n6 x0 x5 false Kn Kr h)
theorem n5_ok (x0 : List UInt8) (x5 : Int) (Kn : T2) (Kr : T0) (g : Env) (hg : E2 g x0 x5) (h : H) (hS : n5 x0 x5 Kn Kr h) : wpC none Tryd.prog 28 n3_c1 (Q1 Kn Kr) g h := by
  obtain ⟨hg0, hg5, hds⟩ := hg
  refine wpC_seq' (x := n5_c1) (y := n5_c2) (Q' := (Q2 (fun z0 z5 z12 h => n6 z0 z5 z12 Kn Kr h) Kr)) (by kernel_rfl) ?_ ?_
  · refine wpC_of_wpx (by kernel_rfl) (by kernel_rfl) (g' := ((⟨g.v, []⟩ : Env).upd (some 0) (S x0)).upd (some 5) (.int .i64 x5)) (by rw [env_ds hds, upd_self hg0, upd_self hg5]) ?_
    have e : (n5 x0 x5 Kn Kr h) = wpx none Tryd.prog 28 n5_c1 (Q2 (fun z0 z5 z12 h => n6 z0 z5 z12 Kn Kr h) Kr) (((⟨g.v, []⟩ : Env).upd (some 0) (S x0)).upd (some 5) (.int .i64 x5)) h := by kernel_rfl
    exact e ▸ hS
  · intro e g' h' hq
    cases e with
    | normal =>
      have hq : D3 (fun z0 z5 z12 h => n6 z0 z5 z12 Kn Kr h) g' h' := hq
      obtain ⟨y0, y5, y12, hg', hq⟩ := D3_ok hq
      exact n6_ok y0 y5 y12 Kn Kr g' hg' h' hq
    | _ => exact hq
abbrev n3 (x0 : List UInt8) (x5 : Int) (Kn : T0) (Kr : T0) (h : H) : Prop := n5 x0 x5 (fun z0 z5 h => n4 z0 z5 Kn Kr h) Kr h
theorem n3_ok (x0 : List UInt8) (x5 : Int) (Kn : T0) (Kr : T0) (g : Env) (hg : E2 g x0 x5) (h : H) (hS : n3 x0 x5 Kn Kr h) : wpC none Tryd.prog 28 n2_c2 (Q0 Kn Kr) g h := by
  refine wpC_seq' (x := n3_c1) (y := n3_c2) (by kernel_rfl) (n5_ok x0 x5 (fun z0 z5 h => n4 z0 z5 Kn Kr h) Kr g hg h hS) ?_
  intro e g' h' hq
  cases e with
  | normal =>
    have hq : D2 (fun z0 z5 h => n4 z0 z5 Kn Kr h) g' h' := hq
    obtain ⟨y0, y5, hg', hq⟩ := D2_ok hq
    exact n4_ok y0 y5 Kn Kr g' hg' h' hq
  | _ => exact hq
abbrev n2 (x0 : List UInt8) (x1 : Value) (Kn : T0) (Kr : T0) (h : H) : Prop :=
  HCalls Tryd.prog 63 ⟨[(S x0), x1, (.bool false)]⟩ h fun v38 h39 => vInt .i64 v38 fun i40 => n3 x0 i40 Kn Kr h39
theorem n2_ok (x0 : List UInt8) (x1 : Value) (Kn : T0) (Kr : T0) (g : Env) (hg : E1 g x0 x1) (h : H) (hS : n2 x0 x1 Kn Kr h) : wpC none Tryd.prog 28 n1_c2 (Q0 Kn Kr) g h := by
  obtain ⟨hg0, hg1, hds⟩ := hg
  refine wpC_seq' (x := n2_c1) (y := n2_c2) (Q' := (Q1 (fun z0 z5 h => n3 z0 z5 Kn Kr h) Kr)) (by kernel_rfl) ?_ ?_
  · refine wpC_of_wpx (by kernel_rfl) (by kernel_rfl) (g' := ((⟨g.v, []⟩ : Env).upd (some 0) (S x0)).upd (some 1) x1) (by rw [env_ds hds, upd_self hg0, upd_self hg1]) ?_
    have e : (n2 x0 x1 Kn Kr h) = wpx none Tryd.prog 28 n2_c1 (Q1 (fun z0 z5 h => n3 z0 z5 Kn Kr h) Kr) (((⟨g.v, []⟩ : Env).upd (some 0) (S x0)).upd (some 1) x1) h := by kernel_rfl
    exact e ▸ hS
  · intro e g' h' hq
    cases e with
    | normal =>
      have hq : D2 (fun z0 z5 h => n3 z0 z5 Kn Kr h) g' h' := hq
      obtain ⟨y0, y5, hg', hq⟩ := D2_ok hq
      exact n3_ok y0 y5 Kn Kr g' hg' h' hq
    | _ => exact hq
def Q3 (Kn : T1) (Kr : T0) : XPost
  | .normal, g, h => D1 Kn g h
  | .ret, g, h => D0 Kr g h
  | _, _, _ => False
abbrev n1 (x0 : List UInt8) (x1 : Value) (Kn : T0) (Kr : T0) (h : H) : Prop :=
  n2 x0 x1 Kn Kr h
theorem n1_ok (x0 : List UInt8) (x1 : Value) (Kn : T0) (Kr : T0) (g : Env) (hg : E1 g x0 x1) (h : H) (hS : n1 x0 x1 Kn Kr h) : wpC none Tryd.prog 28 code (Q0 Kn Kr) g h := by
  obtain ⟨hg0, hg1, hds⟩ := hg
  refine wpC_seq' (x := n1_c1) (y := n1_c2) (Q' := (Q3 (fun z0 z1 h => n2 z0 z1 Kn Kr h) Kr)) (by kernel_rfl) ?_ ?_
  · refine wpC_of_wpx (by kernel_rfl) (by kernel_rfl) (g' := ((⟨g.v, []⟩ : Env).upd (some 0) (S x0)).upd (some 1) x1) (by rw [env_ds hds, upd_self hg0, upd_self hg1]) ?_
    have e : (n1 x0 x1 Kn Kr h) = wpx none Tryd.prog 28 n1_c1 (Q3 (fun z0 z1 h => n2 z0 z1 Kn Kr h) Kr) (((⟨g.v, []⟩ : Env).upd (some 0) (S x0)).upd (some 1) x1) h := by kernel_rfl
    exact e ▸ hS
  · intro e g' h' hq
    cases e with
    | normal =>
      have hq : D1 (fun z0 z1 h => n2 z0 z1 Kn Kr h) g' h' := hq
      obtain ⟨y0, y1, hg', hq⟩ := D1_ok hq
      exact n2_ok y0 y1 Kn Kr g' hg' h' hq
    | _ => exact hq
/-- WHAT strings.TrimRightFunc ASKS -/
abbrev asks (x0 : List UInt8) (x1 : Value) (K : Value → H → Prop) (h : H) : Prop := n1 x0 x1 (fun y4 h => K (S y4) h) (fun y4 h => K (S y4) h) h
theorem ok (x0 : List UInt8) (x1 : Value) (K : Value → H → Prop) (h : H) (hS : asks x0 x1 K h) : HCalls Tryd.prog 53 ⟨[(S x0), x1]⟩ h K := by
  refine calls_of_wpC (c := code) Tryd.func53 (by kernel_rfl) (Nat.le_of_ble_eq_true (by kernel_rfl)) ?_
  refine (n1_ok x0 x1 (fun y4 h => K (S y4) h) (fun y4 h => K (S y4) h) (env0 [(S x0), x1]) ⟨rfl, rfl, rfl⟩ h hS).mono ?_
  intro e g' h' hq
  cases e with
  | normal =>
    have hq : D0 (fun y4 h => K (S y4) h) g' h' := hq
    obtain ⟨y4, ⟨hg4, hd⟩, hq⟩ := D0_ok hq
    show leaveX g'.ds h' _
    rw [hd]
    show K (g'.v 4) h'
    rw [hg4]
    exact hq
  | ret =>
    have hq : D0 (fun y4 h => K (S y4) h) g' h' := hq
    obtain ⟨y4, ⟨hg4, hd⟩, hq⟩ := D0_ok hq
    show leaveX g'.ds h' _
    rw [hd]
    show K (g'.v 4) h'
    rw [hg4]
    exact hq
  | _ => exact hq
end Sx.strings_TrimRightFunc
end Go.Proofs
