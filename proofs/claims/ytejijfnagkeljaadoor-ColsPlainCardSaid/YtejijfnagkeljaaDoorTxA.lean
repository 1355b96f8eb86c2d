/- The shallow forms of functions, printed by sh.py out of the translation; each with its proof. No condition. -/
import Derived.Test.YtejijfnagkeljaaDoorShJ
import Derived.Test.YtejijfnagkeljaaDoorProg
namespace Go.Proofs
open Go Go.Sh
set_option linter.unusedVariables false
set_option maxRecDepth 100000

/-! ### tympan/tympanlaw21.ColsDoes -/
namespace Sx.l21_ColsDoes
noncomputable def code : Code := bodyOf Tryd.f3
abbrev T0 := Bool → H → Prop
def E0 (g : Env) (x6 : Bool) : Prop := g.v 6 = (.bool x6) ∧ g.ds = []
def D0 (K : T0) (g : Env) (h : H) : Prop := nilDs g.ds (vBool (g.v 6) fun b1 => K b1 h)
theorem D0_ok {K : T0} {g : Env} {h : H} (hq : D0 K g h) : ∃ (x6 : Bool), E0 g x6 ∧ K x6 h := by
  obtain ⟨hd, hq⟩ := nilDs_ok hq
  obtain ⟨y3, e2, q4⟩ := vBool_ok hq
  exact ⟨y3, ⟨e2, hd⟩, q4⟩
def Q0 (Kn : T0) (Kr : T0) : XPost
  | .normal, g, h => D0 Kn g h
  | .ret, g, h => D0 Kr g h
  | _, _, _ => False
abbrev T1 := (List UInt8) → Int → Int → H → Prop
def E1 (g : Env) (x0 : List UInt8) (x1 : Int) (x2 : Int) : Prop := g.v 0 = (S x0) ∧ g.v 1 = (.int .i64 x1) ∧ g.v 2 = (.int .i64 x2) ∧ g.ds = []
def D1 (K : T1) (g : Env) (h : H) : Prop := nilDs g.ds (vStr (g.v 0) fun s5 => vInt .i64 (g.v 1) fun i6 => vInt .i64 (g.v 2) fun i7 => K s5 i6 i7 h)
theorem D1_ok {K : T1} {g : Env} {h : H} (hq : D1 K g h) : ∃ (x0 : List UInt8) (x1 : Int) (x2 : Int), E1 g x0 x1 x2 ∧ K x0 x1 x2 h := by
  obtain ⟨hd, hq⟩ := nilDs_ok hq
  obtain ⟨y9, e8, q10⟩ := vStr_ok hq
  obtain ⟨y12, e11, q13⟩ := vInt_ok q10
  obtain ⟨y15, e14, q16⟩ := vInt_ok q13
  exact ⟨y9, y12, y15, ⟨e8, e11, e14, hd⟩, q16⟩
abbrev n1 (x0 : List UInt8) (x1 : Int) (x2 : Int) (Kn : T0) (Kr : T0) (h : H) : Prop :=
  HCalls Tryd.prog 6 ⟨[(S x0), (.int .i64 x1), (.int .i64 x2)]⟩ h fun v17 h18 => vBool v17 fun b19 => cond b19 (Kr true h18) (HCalls Tryd.prog 7 ⟨[(S x0), (.int .i64 x1), (.int .i64 x2)]⟩ h18 fun v20 h21 => vTup v20 fun l22 => uncons l22 fun e23 l24 => vStr e23 fun s25 => uncons l24 fun e26 l27 => vInt .i64 e26 fun i28 => unnil l27 (HCalls Tryd.prog 8 ⟨[(S x0), (.int .i64 x1), (.int .i64 x2)]⟩ h21 fun v29 h30 => vTup v29 fun l31 => uncons l31 fun e32 l33 => vStr e32 fun s34 => uncons l33 fun e35 l36 => vInt .i64 e35 fun i37 => unnil l36 (HCalls Tryd.prog 9 ⟨[]⟩ h30 fun v38 h39 => vBool v38 fun b40 => cond b40 (Spl (s25 = s34) (Spl (i28 = i37) (HCalls Tryd.prog 10 ⟨[(S x0), (.int .i64 x1)]⟩ h39 fun v41 h42 => vInt .i64 v41 fun i43 => HCalls Tryd.prog 11 ⟨[(S x0), (.int .i64 x1)]⟩ h42 fun v44 h45 => vInt .i64 v44 fun i46 => Spl (i43 = i46) (HCalls Tryd.prog 12 ⟨[(S x0)]⟩ h45 fun v47 h48 => vBool v47 fun b49 => cond b49 (HCalls Tryd.prog 13 ⟨[(S x0)]⟩ h48 fun v50 h51 => vBool v50 fun b52 => cond b52 (HCalls Tryd.prog 14 ⟨[(S x0)]⟩ h51 fun v53 h54 => vStr v53 fun s55 => HCalls Tryd.prog 15 ⟨[(S x0)]⟩ h54 fun v56 h57 => vStr v56 fun s58 => Spl (s55 = s58) (Kr true h57) (Kr false h57)) (Kr false h51)) (HCalls Tryd.prog 13 ⟨[(S x0)]⟩ h48 fun v59 h60 => vBool v59 fun b61 => cond b61 (Kr false h60) (HCalls Tryd.prog 14 ⟨[(S x0)]⟩ h60 fun v62 h63 => vStr v62 fun s64 => HCalls Tryd.prog 15 ⟨[(S x0)]⟩ h63 fun v65 h66 => vStr v65 fun s67 => Spl (s64 = s67) (Kr true h66) (Kr false h66)))) (Kr false h45)) (Kr false h39)) (Kr false h39)) (Kr false h39))))
theorem n1_ok (x0 : List UInt8) (x1 : Int) (x2 : Int) (Kn : T0) (Kr : T0) (g : Env) (hg : E1 g x0 x1 x2) (h : H) (hS : n1 x0 x1 x2 Kn Kr h) : wpC none Tryd.prog 63 code (Q0 Kn Kr) g h := by
  obtain ⟨hg0, hg1, hg2, hds⟩ := hg
  refine wpC_of_wpx (by kernel_rfl) (by kernel_rfl) (g' := (((⟨g.v, []⟩ : Env).upd (some 0) (S x0)).upd (some 1) (.int .i64 x1)).upd (some 2) (.int .i64 x2)) (by rw [env_ds hds, upd_self hg0, upd_self hg1, upd_self hg2]) ?_
  have e : (n1 x0 x1 x2 Kn Kr h) = wpx none Tryd.prog 63 code (Q0 Kn Kr) ((((⟨g.v, []⟩ : Env).upd (some 0) (S x0)).upd (some 1) (.int .i64 x1)).upd (some 2) (.int .i64 x2)) h := by kernel_rfl
  exact e ▸ hS
/-- WHAT tympan/tympanlaw21.ColsDoes ASKS -/
abbrev asks (x0 : List UInt8) (x1 : Int) (x2 : Int) (K : Value → H → Prop) (h : H) : Prop := n1 x0 x1 x2 (fun y6 h => K (.bool y6) h) (fun y6 h => K (.bool y6) h) h
theorem ok (x0 : List UInt8) (x1 : Int) (x2 : Int) (K : Value → H → Prop) (h : H) (hS : asks x0 x1 x2 K h) : HCalls Tryd.prog 3 ⟨[(S x0), (.int .i64 x1), (.int .i64 x2)]⟩ h K := by
  refine calls_of_wpC (c := code) Tryd.func3 (by kernel_rfl) (Nat.le_of_ble_eq_true (by kernel_rfl)) ?_
  refine (n1_ok x0 x1 x2 (fun y6 h => K (.bool y6) h) (fun y6 h => K (.bool y6) h) (env0 [(S x0), (.int .i64 x1), (.int .i64 x2)]) ⟨rfl, rfl, rfl, rfl⟩ h hS).mono ?_
  intro e g' h' hq
  cases e with
  | normal =>
    have hq : D0 (fun y6 h => K (.bool y6) h) g' h' := hq
    obtain ⟨y6, ⟨hg6, hd⟩, hq⟩ := D0_ok hq
    show leaveX g'.ds h' _
    rw [hd]
    show K (g'.v 6) h'
    rw [hg6]
    exact hq
  | ret =>
    have hq : D0 (fun y6 h => K (.bool y6) h) g' h' := hq
    obtain ⟨y6, ⟨hg6, hd⟩, hq⟩ := D0_ok hq
    show leaveX g'.ds h' _
    rw [hd]
    show K (g'.v 6) h'
    rw [hg6]
    exact hq
  | _ => exact hq
end Sx.l21_ColsDoes

/-! ### tympan/tympanlaw21.ColsParts -/
namespace Sx.l21_ColsParts
noncomputable def code : Code := bodyOf Tryd.f4
abbrev T0 := Bool → H → Prop
def E0 (g : Env) (x8 : Bool) : Prop := g.v 8 = (.bool x8) ∧ g.ds = []
def D0 (K : T0) (g : Env) (h : H) : Prop := nilDs g.ds (vBool (g.v 8) fun b1 => K b1 h)
theorem D0_ok {K : T0} {g : Env} {h : H} (hq : D0 K g h) : ∃ (x8 : Bool), E0 g x8 ∧ K x8 h := by
  obtain ⟨hd, hq⟩ := nilDs_ok hq
  obtain ⟨y3, e2, q4⟩ := vBool_ok hq
  exact ⟨y3, ⟨e2, hd⟩, q4⟩
def Q0 (Kn : T0) (Kr : T0) : XPost
  | .normal, g, h => D0 Kn g h
  | .ret, g, h => D0 Kr g h
  | _, _, _ => False
abbrev T1 := (List UInt8) → Int → Int → Int → H → Prop
def E1 (g : Env) (x0 : List UInt8) (x1 : Int) (x2 : Int) (x3 : Int) : Prop := g.v 0 = (S x0) ∧ g.v 1 = (.int .i64 x1) ∧ g.v 2 = (.int .i64 x2) ∧ g.v 3 = (.int .i64 x3) ∧ g.ds = []
def D1 (K : T1) (g : Env) (h : H) : Prop := nilDs g.ds (vStr (g.v 0) fun s5 => vInt .i64 (g.v 1) fun i6 => vInt .i64 (g.v 2) fun i7 => vInt .i64 (g.v 3) fun i8 => K s5 i6 i7 i8 h)
theorem D1_ok {K : T1} {g : Env} {h : H} (hq : D1 K g h) : ∃ (x0 : List UInt8) (x1 : Int) (x2 : Int) (x3 : Int), E1 g x0 x1 x2 x3 ∧ K x0 x1 x2 x3 h := by
  obtain ⟨hd, hq⟩ := nilDs_ok hq
  obtain ⟨y10, e9, q11⟩ := vStr_ok hq
  obtain ⟨y13, e12, q14⟩ := vInt_ok q11
  obtain ⟨y16, e15, q17⟩ := vInt_ok q14
  obtain ⟨y19, e18, q20⟩ := vInt_ok q17
  exact ⟨y10, y13, y16, y19, ⟨e9, e12, e15, e18, hd⟩, q20⟩
abbrev n1 (x0 : List UInt8) (x1 : Int) (x2 : Int) (x3 : Int) (Kn : T0) (Kr : T0) (h : H) : Prop :=
  HCalls Tryd.prog 6 ⟨[(S x0), (.int .i64 x1), (.int .i64 x2)]⟩ h fun v21 h22 => vBool v21 fun b23 => cond b23 (HCalls Tryd.prog 9 ⟨[]⟩ h22 fun v24 h25 => vBool v24 fun b26 => cond b26 (Kr true h25) (Kr false h25)) (HCalls Tryd.prog 6 ⟨[(S x0), (.int .i64 x1), (.int .i64 x3)]⟩ h22 fun v27 h28 => vBool v27 fun b29 => cond b29 (HCalls Tryd.prog 9 ⟨[]⟩ h28 fun v30 h31 => vBool v30 fun b32 => cond b32 (Kr true h31) (Kr false h31)) (HCalls Tryd.prog 9 ⟨[]⟩ h28 fun v33 h34 => vBool v33 fun b35 => cond b35 ((100 : Int) ≠ 0 ∧ ((100 : Int) ≠ 0 ∧ (HCalls Tryd.prog 7 ⟨[(S x0), (.int .i64 (if (0 : Int) > x1 then (0 : Int) else x1)), (.int .i64 (Int.tmod (if (0 : Int) > x2 then (0 : Int) else x2) (100 : Int)))]⟩ h34 fun v36 h37 => vTup v36 fun l38 => uncons l38 fun e39 l40 => vStr e39 fun s41 => uncons l40 fun e42 l43 => vInt .i64 e42 fun i44 => unnil l43 (HCalls Tryd.prog 7 ⟨[(S s41), (.int .i64 i44), (.int .i64 (Int.tmod (if (0 : Int) > x3 then (0 : Int) else x3) (100 : Int)))]⟩ h37 fun v45 h46 => vTup v45 fun l47 => uncons l47 fun e48 l49 => vStr e48 fun s50 => uncons l49 fun e51 l52 => vInt .i64 e51 fun i53 => unnil l52 (Rng .i64 ((Int.tmod (if (0 : Int) > x2 then (0 : Int) else x2) (100 : Int)) + (Int.tmod (if (0 : Int) > x3 then (0 : Int) else x3) (100 : Int))) ∧ (HCalls Tryd.prog 7 ⟨[(S x0), (.int .i64 (if (0 : Int) > x1 then (0 : Int) else x1)), (.int .i64 ((Int.tmod (if (0 : Int) > x2 then (0 : Int) else x2) (100 : Int)) + (Int.tmod (if (0 : Int) > x3 then (0 : Int) else x3) (100 : Int))))]⟩ h46 fun v54 h55 => vTup v54 fun l56 => uncons l56 fun e57 l58 => vStr e57 fun s59 => uncons l58 fun e60 l61 => vInt .i64 e60 fun i62 => unnil l61 (HCalls Tryd.prog 10 ⟨[(S x0), (.int .i64 (if (0 : Int) > x1 then (0 : Int) else x1))]⟩ h55 fun v63 h64 => vInt .i64 v63 fun i65 => Spl (s50 = s59) (Spl (i53 = i62) (HCalls Tryd.prog 10 ⟨[(S s41), (.int .i64 i44)]⟩ h64 fun v66 h67 => vInt .i64 v66 fun i68 => Rng .i64 (i65 - (if i65 < (Int.tmod (if (0 : Int) > x2 then (0 : Int) else x2) (100 : Int)) then i65 else (Int.tmod (if (0 : Int) > x2 then (0 : Int) else x2) (100 : Int)))) ∧ (Spl (i68 = (i65 - (if i65 < (Int.tmod (if (0 : Int) > x2 then (0 : Int) else x2) (100 : Int)) then i65 else (Int.tmod (if (0 : Int) > x2 then (0 : Int) else x2) (100 : Int))))) (Rng .i64 ((if (0 : Int) > x1 then (0 : Int) else x1) + (if i65 < (Int.tmod (if (0 : Int) > x2 then (0 : Int) else x2) (100 : Int)) then i65 else (Int.tmod (if (0 : Int) > x2 then (0 : Int) else x2) (100 : Int)))) ∧ (Spl (i44 = ((if (0 : Int) > x1 then (0 : Int) else x1) + (if i65 < (Int.tmod (if (0 : Int) > x2 then (0 : Int) else x2) (100 : Int)) then i65 else (Int.tmod (if (0 : Int) > x2 then (0 : Int) else x2) (100 : Int))))) (Kr true h67) (Kr false h67))) (Kr false h67))) (Kr false h64)) (Kr false h64)))))))) (HCalls Tryd.prog 9 ⟨[]⟩ h34 fun v69 h70 => vBool v69 fun b71 => cond b71 (Kr true h70) (Kr false h70))))
theorem n1_ok (x0 : List UInt8) (x1 : Int) (x2 : Int) (x3 : Int) (Kn : T0) (Kr : T0) (g : Env) (hg : E1 g x0 x1 x2 x3) (h : H) (hS : n1 x0 x1 x2 x3 Kn Kr h) : wpC none Tryd.prog 93 code (Q0 Kn Kr) g h := by
  obtain ⟨hg0, hg1, hg2, hg3, hds⟩ := hg
  refine wpC_of_wpx (by kernel_rfl) (by kernel_rfl) (g' := ((((⟨g.v, []⟩ : Env).upd (some 0) (S x0)).upd (some 1) (.int .i64 x1)).upd (some 2) (.int .i64 x2)).upd (some 3) (.int .i64 x3)) (by rw [env_ds hds, upd_self hg0, upd_self hg1, upd_self hg2, upd_self hg3]) ?_
  have e : (n1 x0 x1 x2 x3 Kn Kr h) = wpx none Tryd.prog 93 code (Q0 Kn Kr) (((((⟨g.v, []⟩ : Env).upd (some 0) (S x0)).upd (some 1) (.int .i64 x1)).upd (some 2) (.int .i64 x2)).upd (some 3) (.int .i64 x3)) h := by kernel_rfl
  exact e ▸ hS
/-- WHAT tympan/tympanlaw21.ColsParts ASKS -/
abbrev asks (x0 : List UInt8) (x1 : Int) (x2 : Int) (x3 : Int) (K : Value → H → Prop) (h : H) : Prop := n1 x0 x1 x2 x3 (fun y8 h => K (.bool y8) h) (fun y8 h => K (.bool y8) h) h
theorem ok (x0 : List UInt8) (x1 : Int) (x2 : Int) (x3 : Int) (K : Value → H → Prop) (h : H) (hS : asks x0 x1 x2 x3 K h) : HCalls Tryd.prog 4 ⟨[(S x0), (.int .i64 x1), (.int .i64 x2), (.int .i64 x3)]⟩ h K := by
  refine calls_of_wpC (c := code) Tryd.func4 (by kernel_rfl) (Nat.le_of_ble_eq_true (by kernel_rfl)) ?_
  refine (n1_ok x0 x1 x2 x3 (fun y8 h => K (.bool y8) h) (fun y8 h => K (.bool y8) h) (env0 [(S x0), (.int .i64 x1), (.int .i64 x2), (.int .i64 x3)]) ⟨rfl, rfl, rfl, rfl, rfl⟩ h hS).mono ?_
  intro e g' h' hq
  cases e with
  | normal =>
    have hq : D0 (fun y8 h => K (.bool y8) h) g' h' := hq
    obtain ⟨y8, ⟨hg8, hd⟩, hq⟩ := D0_ok hq
    show leaveX g'.ds h' _
    rw [hd]
    show K (g'.v 8) h'
    rw [hg8]
    exact hq
  | ret =>
    have hq : D0 (fun y8 h => K (.bool y8) h) g' h' := hq
    obtain ⟨y8, ⟨hg8, hd⟩, hq⟩ := D0_ok hq
    show leaveX g'.ds h' _
    rw [hd]
    show K (g'.v 8) h'
    rw [hg8]
    exact hq
  | _ => exact hq
end Sx.l21_ColsParts

/-! ### tympan/tympanlaw21.ColsPlain -/
namespace Sx.l21_ColsPlain
noncomputable def code : Code := bodyOf Tryd.f5
abbrev T0 := Bool → H → Prop
def E0 (g : Env) (x6 : Bool) : Prop := g.v 6 = (.bool x6) ∧ g.ds = []
def D0 (K : T0) (g : Env) (h : H) : Prop := nilDs g.ds (vBool (g.v 6) fun b1 => K b1 h)
theorem D0_ok {K : T0} {g : Env} {h : H} (hq : D0 K g h) : ∃ (x6 : Bool), E0 g x6 ∧ K x6 h := by
  obtain ⟨hd, hq⟩ := nilDs_ok hq
  obtain ⟨y3, e2, q4⟩ := vBool_ok hq
  exact ⟨y3, ⟨e2, hd⟩, q4⟩
def Q0 (Kn : T0) (Kr : T0) : XPost
  | .normal, g, h => D0 Kn g h
  | .ret, g, h => D0 Kr g h
  | _, _, _ => False
abbrev T1 := (List UInt8) → Int → Int → H → Prop
def E1 (g : Env) (x0 : List UInt8) (x1 : Int) (x2 : Int) : Prop := g.v 0 = (S x0) ∧ g.v 1 = (.int .i64 x1) ∧ g.v 2 = (.int .i64 x2) ∧ g.ds = []
def D1 (K : T1) (g : Env) (h : H) : Prop := nilDs g.ds (vStr (g.v 0) fun s5 => vInt .i64 (g.v 1) fun i6 => vInt .i64 (g.v 2) fun i7 => K s5 i6 i7 h)
theorem D1_ok {K : T1} {g : Env} {h : H} (hq : D1 K g h) : ∃ (x0 : List UInt8) (x1 : Int) (x2 : Int), E1 g x0 x1 x2 ∧ K x0 x1 x2 h := by
  obtain ⟨hd, hq⟩ := nilDs_ok hq
  obtain ⟨y9, e8, q10⟩ := vStr_ok hq
  obtain ⟨y12, e11, q13⟩ := vInt_ok q10
  obtain ⟨y15, e14, q16⟩ := vInt_ok q13
  exact ⟨y9, y12, y15, ⟨e8, e11, e14, hd⟩, q16⟩
noncomputable def n1_c1 : Code := cFst code
noncomputable def n1_c2 : Code := cSnd code
noncomputable def n2_c1 : Code := cFst n1_c2
noncomputable def n2_c2 : Code := cSnd n1_c2
noncomputable def n3_c1 : Code := cFst n2_c2
noncomputable def n3_c2 : Code := cSnd n2_c2
abbrev T2 := (List UInt8) → Int → Int → (List UInt8) → H → Prop
def E2 (g : Env) (x0 : List UInt8) (x1 : Int) (x2 : Int) (x7 : List UInt8) : Prop := g.v 0 = (S x0) ∧ g.v 1 = (.int .i64 x1) ∧ g.v 2 = (.int .i64 x2) ∧ g.v 7 = (S x7) ∧ g.ds = []
def D2 (K : T2) (g : Env) (h : H) : Prop := nilDs g.ds (vStr (g.v 0) fun s17 => vInt .i64 (g.v 1) fun i18 => vInt .i64 (g.v 2) fun i19 => vStr (g.v 7) fun s20 => K s17 i18 i19 s20 h)
theorem D2_ok {K : T2} {g : Env} {h : H} (hq : D2 K g h) : ∃ (x0 : List UInt8) (x1 : Int) (x2 : Int) (x7 : List UInt8), E2 g x0 x1 x2 x7 ∧ K x0 x1 x2 x7 h := by
  obtain ⟨hd, hq⟩ := nilDs_ok hq
  obtain ⟨y22, e21, q23⟩ := vStr_ok hq
  obtain ⟨y25, e24, q26⟩ := vInt_ok q23
  obtain ⟨y28, e27, q29⟩ := vInt_ok q26
  obtain ⟨y31, e30, q32⟩ := vStr_ok q29
  exact ⟨y22, y25, y28, y31, ⟨e21, e24, e27, e30, hd⟩, q32⟩
noncomputable def n4_c1 : Code := cFst n3_c2
noncomputable def n4_c2 : Code := cSnd n3_c2
abbrev T3 := Int → Int → (List UInt8) → H → Prop
def E3 (g : Env) (x1 : Int) (x2 : Int) (x7 : List UInt8) : Prop := g.v 1 = (.int .i64 x1) ∧ g.v 2 = (.int .i64 x2) ∧ g.v 7 = (S x7) ∧ g.ds = []
def D3 (K : T3) (g : Env) (h : H) : Prop := nilDs g.ds (vInt .i64 (g.v 1) fun i33 => vInt .i64 (g.v 2) fun i34 => vStr (g.v 7) fun s35 => K i33 i34 s35 h)
theorem D3_ok {K : T3} {g : Env} {h : H} (hq : D3 K g h) : ∃ (x1 : Int) (x2 : Int) (x7 : List UInt8), E3 g x1 x2 x7 ∧ K x1 x2 x7 h := by
  obtain ⟨hd, hq⟩ := nilDs_ok hq
  obtain ⟨y37, e36, q38⟩ := vInt_ok hq
  obtain ⟨y40, e39, q41⟩ := vInt_ok q38
  obtain ⟨y43, e42, q44⟩ := vStr_ok q41
  exact ⟨y37, y40, y43, ⟨e36, e39, e42, hd⟩, q44⟩
noncomputable def n5_c1 : Code := cFst n4_c2
noncomputable def n5_c2 : Code := cSnd n4_c2
abbrev T4 := Int → Int → (List UInt8) → Int → H → Prop
def E4 (g : Env) (x1 : Int) (x2 : Int) (x7 : List UInt8) (x9 : Int) : Prop := g.v 1 = (.int .i64 x1) ∧ g.v 2 = (.int .i64 x2) ∧ g.v 7 = (S x7) ∧ g.v 9 = (.int .i64 x9) ∧ g.ds = []
def D4 (K : T4) (g : Env) (h : H) : Prop := nilDs g.ds (vInt .i64 (g.v 1) fun i45 => vInt .i64 (g.v 2) fun i46 => vStr (g.v 7) fun s47 => vInt .i64 (g.v 9) fun i48 => K i45 i46 s47 i48 h)
theorem D4_ok {K : T4} {g : Env} {h : H} (hq : D4 K g h) : ∃ (x1 : Int) (x2 : Int) (x7 : List UInt8) (x9 : Int), E4 g x1 x2 x7 x9 ∧ K x1 x2 x7 x9 h := by
  obtain ⟨hd, hq⟩ := nilDs_ok hq
  obtain ⟨y50, e49, q51⟩ := vInt_ok hq
  obtain ⟨y53, e52, q54⟩ := vInt_ok q51
  obtain ⟨y56, e55, q57⟩ := vStr_ok q54
  obtain ⟨y59, e58, q60⟩ := vInt_ok q57
  exact ⟨y50, y53, y56, y59, ⟨e49, e52, e55, e58, hd⟩, q60⟩
noncomputable def n6_c1 : Code := cFst n5_c2
noncomputable def n6_c2 : Code := cSnd n5_c2
abbrev n7 (x1 : Int) (x2 : Int) (x7 : List UInt8) (x9 : Int) (Kn : T0) (Kr : T0) (h : H) : Prop :=
  HCalls Tryd.prog 7 ⟨[(S x7), (.int .i64 x1), (.int .i64 x2)]⟩ h fun v61 h62 => vTup v61 fun l63 => uncons l63 fun e64 l65 => vStr e64 fun s66 => uncons l65 fun e67 l68 => vInt .i64 e67 fun i69 => unnil l68 ((0 ≤ x9 ∧ x9 ≤ (x7.length : Int) ∧ (x7.length : Int) ≤ (x7.length : Int)) ∧ (Spl (s66 = (sub x7 x9 (x7.length : Int))) (Rng .i64 ((if (0 : Int) > x1 then (0 : Int) else x1) + x9) ∧ (Spl (i69 = ((if (0 : Int) > x1 then (0 : Int) else x1) + x9)) (Kr true h62) (Kr false h62))) (Kr false h62)))
theorem n7_ok (x1 : Int) (x2 : Int) (x7 : List UInt8) (x9 : Int) (Kn : T0) (Kr : T0) (g : Env) (hg : E4 g x1 x2 x7 x9) (h : H) (hS : n7 x1 x2 x7 x9 Kn Kr h) : wpC none Tryd.prog 75 n6_c2 (Q0 Kn Kr) g h := by
  obtain ⟨hg1, hg2, hg7, hg9, hds⟩ := hg
  refine wpC_of_wpx (by kernel_rfl) (by kernel_rfl) (g' := ((((⟨g.v, []⟩ : Env).upd (some 1) (.int .i64 x1)).upd (some 2) (.int .i64 x2)).upd (some 7) (S x7)).upd (some 9) (.int .i64 x9)) (by rw [env_ds hds, upd_self hg1, upd_self hg2, upd_self hg7, upd_self hg9]) ?_
  have e : (n7 x1 x2 x7 x9 Kn Kr h) = wpx none Tryd.prog 75 n6_c2 (Q0 Kn Kr) (((((⟨g.v, []⟩ : Env).upd (some 1) (.int .i64 x1)).upd (some 2) (.int .i64 x2)).upd (some 7) (S x7)).upd (some 9) (.int .i64 x9)) h := by kernel_rfl
  exact e ▸ hS
def Q1 (Kn : T4) (Kr : T0) : XPost
  | .normal, g, h => D4 Kn g h
  | .ret, g, h => D0 Kr g h
  | _, _, _ => False
noncomputable def n8_c1 : Code := cFst n6_c1
def Q2 (Kn : T4) (Ke2 : T4) (Kr : T0) : XPost
  | .normal, g, h => D4 Kn g h
  | .ret, g, h => D0 Kr g h
  | .exit id, g, h => cond (Nat.beq id 2) (D4 Ke2 g h) (False)
  | _, _, _ => False
noncomputable def n9_c1 : Code := cFst n8_c1
def n9_L (Kn : T4) (Ke2 : T4) (Kr : T0) : Nat → Int → Int → (List UInt8) → Int → H → Prop
  | 0 => fun _ _ _ _ _ => False
  | N + 1 => fun x1 x2 x7 x9 h => Spl (x9 < (x7.length : Int)) (Spl (x9 < x2) ((0 ≤ x9 ∧ x9 < (x7.length : Int)) ∧ (Spl (((List.getD x7 (Int.toNat x9) 0).toNat : Int) = (32 : Int)) (Rng .i64 (x9 + (1 : Int)) ∧ (n9_L Kn Ke2 Kr N x1 x2 x7 (x9 + (1 : Int)) h)) (Ke2 x1 x2 x7 x9 h))) (Ke2 x1 x2 x7 x9 h)) (Ke2 x1 x2 x7 x9 h)
abbrev n9 (x1 : Int) (x2 : Int) (x7 : List UInt8) (x9 : Int) (Kn : T4) (Ke2 : T4) (Kr : T0) (h : H) : Prop := ∃ N, n9_L Kn Ke2 Kr N x1 x2 x7 x9 h
theorem n9_ok (x1 : Int) (x2 : Int) (x7 : List UInt8) (x9 : Int) (Kn : T4) (Ke2 : T4) (Kr : T0) (g : Env) (hg : E4 g x1 x2 x7 x9) (h : H) (hS : n9 x1 x2 x7 x9 Kn Ke2 Kr h) : wpC none Tryd.prog 75 n8_c1 (Q2 Kn Ke2 Kr) g h := by
  obtain ⟨N0, hS⟩ := hS
  refine wpC_loop' (x := n9_c1) (by kernel_rfl) (fun k g h => ∃ (x1 : Int) (x2 : Int) (x7 : List UInt8) (x9 : Int), E4 g x1 x2 x7 x9 ∧ n9_L Kn Ke2 Kr k x1 x2 x7 x9 h) (fun g h hr => ?_) (fun N g h hr => ?_) N0 ⟨x1, x2, x7, x9, hg, hS⟩
  · obtain ⟨x1, x2, x7, x9, hg, hS⟩ := hr
    exact hS.elim
  · obtain ⟨x1, x2, x7, x9, hg, hS⟩ := hr
    have hw : wpC none Tryd.prog 75 n9_c1 (Q2 (fun z1 z2 z7 z9 h => n9_L Kn Ke2 Kr N z1 z2 z7 z9 h) Ke2 Kr) g h := by
      obtain ⟨hg1, hg2, hg7, hg9, hds⟩ := hg
      refine wpC_of_wpx (by kernel_rfl) (by kernel_rfl) (g' := ((((⟨g.v, []⟩ : Env).upd (some 1) (.int .i64 x1)).upd (some 2) (.int .i64 x2)).upd (some 7) (S x7)).upd (some 9) (.int .i64 x9)) (by rw [env_ds hds, upd_self hg1, upd_self hg2, upd_self hg7, upd_self hg9]) ?_
      have e : (n9_L Kn Ke2 Kr (N + 1) x1 x2 x7 x9 h) = wpx none Tryd.prog 75 n9_c1 (Q2 (fun z1 z2 z7 z9 h => n9_L Kn Ke2 Kr N z1 z2 z7 z9 h) Ke2 Kr) (((((⟨g.v, []⟩ : Env).upd (some 1) (.int .i64 x1)).upd (some 2) (.int .i64 x2)).upd (some 7) (S x7)).upd (some 9) (.int .i64 x9)) h := by kernel_rfl
      exact e ▸ hS
    refine hw.mono ?_
    intro e g' h' hq
    cases e with
    | normal => exact D4_ok (K := (fun z1 z2 z7 z9 h => n9_L Kn Ke2 Kr N z1 z2 z7 z9 h)) hq
    | _ => exact hq
abbrev n8 (x1 : Int) (x2 : Int) (x7 : List UInt8) (x9 : Int) (Kn : T4) (Kr : T0) (h : H) : Prop := n9 x1 x2 x7 x9 Kn Kn Kr h
theorem n8_ok (x1 : Int) (x2 : Int) (x7 : List UInt8) (x9 : Int) (Kn : T4) (Kr : T0) (g : Env) (hg : E4 g x1 x2 x7 x9) (h : H) (hS : n8 x1 x2 x7 x9 Kn Kr h) : wpC none Tryd.prog 75 n6_c1 (Q1 Kn Kr) g h := by
  refine wpC_block' (id := 2) (x := n8_c1) (by kernel_rfl) (n9_ok x1 x2 x7 x9 Kn Kn Kr g hg h hS) ?_
  intro e g' h' hq
  cases e <;> exact hq
abbrev n6 (x1 : Int) (x2 : Int) (x7 : List UInt8) (x9 : Int) (Kn : T0) (Kr : T0) (h : H) : Prop := n8 x1 x2 x7 x9 (fun z1 z2 z7 z9 h => n7 z1 z2 z7 z9 Kn Kr h) Kr h
theorem n6_ok (x1 : Int) (x2 : Int) (x7 : List UInt8) (x9 : Int) (Kn : T0) (Kr : T0) (g : Env) (hg : E4 g x1 x2 x7 x9) (h : H) (hS : n6 x1 x2 x7 x9 Kn Kr h) : wpC none Tryd.prog 75 n5_c2 (Q0 Kn Kr) g h := by
  refine wpC_seq' (x := n6_c1) (y := n6_c2) (by kernel_rfl) (n8_ok x1 x2 x7 x9 (fun z1 z2 z7 z9 h => n7 z1 z2 z7 z9 Kn Kr h) Kr g hg h hS) ?_
  intro e g' h' hq
  cases e with
  | normal =>
    have hq : D4 (fun z1 z2 z7 z9 h => n7 z1 z2 z7 z9 Kn Kr h) g' h' := hq
    obtain ⟨y1, y2, y7, y9, hg', hq⟩ := D4_ok hq
    exact n7_ok y1 y2 y7 y9 Kn Kr g' hg' h' hq
  | _ => exact hq
abbrev n5 (x1 : Int) (x2 : Int) (x7 : List UInt8) (Kn : T0) (Kr : T0) (h : H) : Prop :=
  n6 x1 x2 x7 (0 : Int) Kn Kr h
theorem n5_ok (x1 : Int) (x2 : Int) (x7 : List UInt8) (Kn : T0) (Kr : T0) (g : Env) (hg : E3 g x1 x2 x7) (h : H) (hS : n5 x1 x2 x7 Kn Kr h) : wpC none Tryd.prog 75 n4_c2 (Q0 Kn Kr) g h := by
  obtain ⟨hg1, hg2, hg7, hds⟩ := hg
  refine wpC_seq' (x := n5_c1) (y := n5_c2) (Q' := (Q1 (fun z1 z2 z7 z9 h => n6 z1 z2 z7 z9 Kn Kr h) Kr)) (by kernel_rfl) ?_ ?_
  · refine wpC_of_wpx (by kernel_rfl) (by kernel_rfl) (g' := (((⟨g.v, []⟩ : Env).upd (some 1) (.int .i64 x1)).upd (some 2) (.int .i64 x2)).upd (some 7) (S x7)) (by rw [env_ds hds, upd_self hg1, upd_self hg2, upd_self hg7]) ?_
    have e : (n5 x1 x2 x7 Kn Kr h) = wpx none Tryd.prog 75 n5_c1 (Q1 (fun z1 z2 z7 z9 h => n6 z1 z2 z7 z9 Kn Kr h) Kr) ((((⟨g.v, []⟩ : Env).upd (some 1) (.int .i64 x1)).upd (some 2) (.int .i64 x2)).upd (some 7) (S x7)) h := by kernel_rfl
    exact e ▸ hS
  · intro e g' h' hq
    cases e with
    | normal =>
      have hq : D4 (fun z1 z2 z7 z9 h => n6 z1 z2 z7 z9 Kn Kr h) g' h' := hq
      obtain ⟨y1, y2, y7, y9, hg', hq⟩ := D4_ok hq
      exact n6_ok y1 y2 y7 y9 Kn Kr g' hg' h' hq
    | _ => exact hq
def Q3 (Kn : T3) (Kr : T0) : XPost
  | .normal, g, h => D3 Kn g h
  | .ret, g, h => D0 Kr g h
  | _, _, _ => False
noncomputable def n10_c1 : Code := cFst n4_c1
noncomputable def n10_c2 : Code := cSnd n4_c1
abbrev T5 := (List UInt8) → Int → Int → (List UInt8) → Int → H → Prop
def E5 (g : Env) (x0 : List UInt8) (x1 : Int) (x2 : Int) (x7 : List UInt8) (x8 : Int) : Prop := g.v 0 = (S x0) ∧ g.v 1 = (.int .i64 x1) ∧ g.v 2 = (.int .i64 x2) ∧ g.v 7 = (S x7) ∧ g.v 8 = (.int .i64 x8) ∧ g.ds = []
def D5 (K : T5) (g : Env) (h : H) : Prop := nilDs g.ds (vStr (g.v 0) fun s70 => vInt .i64 (g.v 1) fun i71 => vInt .i64 (g.v 2) fun i72 => vStr (g.v 7) fun s73 => vInt .i64 (g.v 8) fun i74 => K s70 i71 i72 s73 i74 h)
theorem D5_ok {K : T5} {g : Env} {h : H} (hq : D5 K g h) : ∃ (x0 : List UInt8) (x1 : Int) (x2 : Int) (x7 : List UInt8) (x8 : Int), E5 g x0 x1 x2 x7 x8 ∧ K x0 x1 x2 x7 x8 h := by
  obtain ⟨hd, hq⟩ := nilDs_ok hq
  obtain ⟨y76, e75, q77⟩ := vStr_ok hq
  obtain ⟨y79, e78, q80⟩ := vInt_ok q77
  obtain ⟨y82, e81, q83⟩ := vInt_ok q80
  obtain ⟨y85, e84, q86⟩ := vStr_ok q83
  obtain ⟨y88, e87, q89⟩ := vInt_ok q86
  exact ⟨y76, y79, y82, y85, y88, ⟨e75, e78, e81, e84, e87, hd⟩, q89⟩
noncomputable def n11_c1 : Code := cFst n10_c2
def Q4 (Kn : T3) (Ke0 : T3) (Kr : T0) : XPost
  | .normal, g, h => D3 Kn g h
  | .ret, g, h => D0 Kr g h
  | .exit id, g, h => cond (Nat.beq id 0) (D3 Ke0 g h) (False)
  | _, _, _ => False
noncomputable def n12_c1 : Code := cFst n11_c1
def Q5 (Kn : T5) (Ke0 : T3) (Kr : T0) : XPost
  | .normal, g, h => D5 Kn g h
  | .ret, g, h => D0 Kr g h
  | .exit id, g, h => cond (Nat.beq id 0) (D3 Ke0 g h) (False)
  | _, _, _ => False
def n12_L (Kn : T3) (Ke0 : T3) (Kr : T0) : Nat → (List UInt8) → Int → Int → (List UInt8) → Int → H → Prop
  | 0 => fun _ _ _ _ _ _ => False
  | N + 1 => fun x0 x1 x2 x7 x8 h => Spl (x8 < (x0.length : Int)) ((0 ≤ x8 ∧ x8 < (x0.length : Int)) ∧ (Spl (((List.getD x0 (Int.toNat x8) 0).toNat : Int) = (9 : Int)) (Rng .i64 (x8 + (1 : Int)) ∧ (n12_L Kn Ke0 Kr N x0 x1 x2 x7 (x8 + (1 : Int)) h)) (Rng .i64 (x8 + (1 : Int)) ∧ ((0 ≤ x8 ∧ x8 ≤ (x8 + (1 : Int)) ∧ (x8 + (1 : Int)) ≤ (x0.length : Int)) ∧ (((x7.length + (sub x0 x8 (x8 + (1 : Int))).length : Nat) : Int) ≤ 9223372036854775807 ∧ (Rng .i64 (x8 + (1 : Int)) ∧ (n12_L Kn Ke0 Kr N x0 x1 x2 (x7 ++ (sub x0 x8 (x8 + (1 : Int)))) (x8 + (1 : Int)) h))))))) (Ke0 x1 x2 x7 h)
abbrev n12 (x0 : List UInt8) (x1 : Int) (x2 : Int) (x7 : List UInt8) (x8 : Int) (Kn : T3) (Ke0 : T3) (Kr : T0) (h : H) : Prop := ∃ N, n12_L Kn Ke0 Kr N x0 x1 x2 x7 x8 h
theorem n12_ok (x0 : List UInt8) (x1 : Int) (x2 : Int) (x7 : List UInt8) (x8 : Int) (Kn : T3) (Ke0 : T3) (Kr : T0) (g : Env) (hg : E5 g x0 x1 x2 x7 x8) (h : H) (hS : n12 x0 x1 x2 x7 x8 Kn Ke0 Kr h) : wpC none Tryd.prog 75 n11_c1 (Q4 Kn Ke0 Kr) g h := by
  obtain ⟨N0, hS⟩ := hS
  refine wpC_loop' (x := n12_c1) (by kernel_rfl) (fun k g h => ∃ (x0 : List UInt8) (x1 : Int) (x2 : Int) (x7 : List UInt8) (x8 : Int), E5 g x0 x1 x2 x7 x8 ∧ n12_L Kn Ke0 Kr k x0 x1 x2 x7 x8 h) (fun g h hr => ?_) (fun N g h hr => ?_) N0 ⟨x0, x1, x2, x7, x8, hg, hS⟩
  · obtain ⟨x0, x1, x2, x7, x8, hg, hS⟩ := hr
    exact hS.elim
  · obtain ⟨x0, x1, x2, x7, x8, hg, hS⟩ := hr
    have hw : wpC none Tryd.prog 75 n12_c1 (Q5 (fun z0 z1 z2 z7 z8 h => n12_L Kn Ke0 Kr N z0 z1 z2 z7 z8 h) Ke0 Kr) g h := by
      obtain ⟨hg0, hg1, hg2, hg7, hg8, hds⟩ := hg
      refine wpC_of_wpx (by kernel_rfl) (by kernel_rfl) (g' := (((((⟨g.v, []⟩ : Env).upd (some 0) (S x0)).upd (some 1) (.int .i64 x1)).upd (some 2) (.int .i64 x2)).upd (some 7) (S x7)).upd (some 8) (.int .i64 x8)) (by rw [env_ds hds, upd_self hg0, upd_self hg1, upd_self hg2, upd_self hg7, upd_self hg8]) ?_
      have e : (n12_L Kn Ke0 Kr (N + 1) x0 x1 x2 x7 x8 h) = wpx none Tryd.prog 75 n12_c1 (Q5 (fun z0 z1 z2 z7 z8 h => n12_L Kn Ke0 Kr N z0 z1 z2 z7 z8 h) Ke0 Kr) ((((((⟨g.v, []⟩ : Env).upd (some 0) (S x0)).upd (some 1) (.int .i64 x1)).upd (some 2) (.int .i64 x2)).upd (some 7) (S x7)).upd (some 8) (.int .i64 x8)) h := by kernel_rfl
      exact e ▸ hS
    refine hw.mono ?_
    intro e g' h' hq
    cases e with
    | normal => exact D5_ok (K := (fun z0 z1 z2 z7 z8 h => n12_L Kn Ke0 Kr N z0 z1 z2 z7 z8 h)) hq
    | _ => exact hq
abbrev n11 (x0 : List UInt8) (x1 : Int) (x2 : Int) (x7 : List UInt8) (x8 : Int) (Kn : T3) (Kr : T0) (h : H) : Prop := n12 x0 x1 x2 x7 x8 Kn Kn Kr h
theorem n11_ok (x0 : List UInt8) (x1 : Int) (x2 : Int) (x7 : List UInt8) (x8 : Int) (Kn : T3) (Kr : T0) (g : Env) (hg : E5 g x0 x1 x2 x7 x8) (h : H) (hS : n11 x0 x1 x2 x7 x8 Kn Kr h) : wpC none Tryd.prog 75 n10_c2 (Q3 Kn Kr) g h := by
  refine wpC_block' (id := 0) (x := n11_c1) (by kernel_rfl) (n12_ok x0 x1 x2 x7 x8 Kn Kn Kr g hg h hS) ?_
  intro e g' h' hq
  cases e <;> exact hq
def Q6 (Kn : T5) (Kr : T0) : XPost
  | .normal, g, h => D5 Kn g h
  | .ret, g, h => D0 Kr g h
  | _, _, _ => False
abbrev n10 (x0 : List UInt8) (x1 : Int) (x2 : Int) (x7 : List UInt8) (Kn : T3) (Kr : T0) (h : H) : Prop :=
  n11 x0 x1 x2 x7 (0 : Int) Kn Kr h
theorem n10_ok (x0 : List UInt8) (x1 : Int) (x2 : Int) (x7 : List UInt8) (Kn : T3) (Kr : T0) (g : Env) (hg : E2 g x0 x1 x2 x7) (h : H) (hS : n10 x0 x1 x2 x7 Kn Kr h) : wpC none Tryd.prog 75 n4_c1 (Q3 Kn Kr) g h := by
  obtain ⟨hg0, hg1, hg2, hg7, hds⟩ := hg
  refine wpC_seq' (x := n10_c1) (y := n10_c2) (Q' := (Q6 (fun z0 z1 z2 z7 z8 h => n11 z0 z1 z2 z7 z8 Kn Kr h) Kr)) (by kernel_rfl) ?_ ?_
  · refine wpC_of_wpx (by kernel_rfl) (by kernel_rfl) (g' := ((((⟨g.v, []⟩ : Env).upd (some 0) (S x0)).upd (some 1) (.int .i64 x1)).upd (some 2) (.int .i64 x2)).upd (some 7) (S x7)) (by rw [env_ds hds, upd_self hg0, upd_self hg1, upd_self hg2, upd_self hg7]) ?_
    have e : (n10 x0 x1 x2 x7 Kn Kr h) = wpx none Tryd.prog 75 n10_c1 (Q6 (fun z0 z1 z2 z7 z8 h => n11 z0 z1 z2 z7 z8 Kn Kr h) Kr) (((((⟨g.v, []⟩ : Env).upd (some 0) (S x0)).upd (some 1) (.int .i64 x1)).upd (some 2) (.int .i64 x2)).upd (some 7) (S x7)) h := by kernel_rfl
    exact e ▸ hS
  · intro e g' h' hq
    cases e with
    | normal =>
      have hq : D5 (fun z0 z1 z2 z7 z8 h => n11 z0 z1 z2 z7 z8 Kn Kr h) g' h' := hq
      obtain ⟨y0, y1, y2, y7, y8, hg', hq⟩ := D5_ok hq
      exact n11_ok y0 y1 y2 y7 y8 Kn Kr g' hg' h' hq
    | _ => exact hq
abbrev n4 (x0 : List UInt8) (x1 : Int) (x2 : Int) (x7 : List UInt8) (Kn : T0) (Kr : T0) (h : H) : Prop := n10 x0 x1 x2 x7 (fun z1 z2 z7 h => n5 z1 z2 z7 Kn Kr h) Kr h
theorem n4_ok (x0 : List UInt8) (x1 : Int) (x2 : Int) (x7 : List UInt8) (Kn : T0) (Kr : T0) (g : Env) (hg : E2 g x0 x1 x2 x7) (h : H) (hS : n4 x0 x1 x2 x7 Kn Kr h) : wpC none Tryd.prog 75 n3_c2 (Q0 Kn Kr) g h := by
  refine wpC_seq' (x := n4_c1) (y := n4_c2) (by kernel_rfl) (n10_ok x0 x1 x2 x7 (fun z1 z2 z7 h => n5 z1 z2 z7 Kn Kr h) Kr g hg h hS) ?_
  intro e g' h' hq
  cases e with
  | normal =>
    have hq : D3 (fun z1 z2 z7 h => n5 z1 z2 z7 Kn Kr h) g' h' := hq
    obtain ⟨y1, y2, y7, hg', hq⟩ := D3_ok hq
    exact n5_ok y1 y2 y7 Kn Kr g' hg' h' hq
  | _ => exact hq
def Q7 (Kn : T2) (Kr : T0) : XPost
  | .normal, g, h => D2 Kn g h
  | .ret, g, h => D0 Kr g h
  | _, _, _ => False
abbrev n3 (x0 : List UInt8) (x1 : Int) (x2 : Int) (Kn : T0) (Kr : T0) (h : H) : Prop :=
  n4 x0 x1 x2 ([] : List UInt8) Kn Kr h
theorem n3_ok (x0 : List UInt8) (x1 : Int) (x2 : Int) (Kn : T0) (Kr : T0) (g : Env) (hg : E1 g x0 x1 x2) (h : H) (hS : n3 x0 x1 x2 Kn Kr h) : wpC none Tryd.prog 75 n2_c2 (Q0 Kn Kr) g h := by
  obtain ⟨hg0, hg1, hg2, hds⟩ := hg
  refine wpC_seq' (x := n3_c1) (y := n3_c2) (Q' := (Q7 (fun z0 z1 z2 z7 h => n4 z0 z1 z2 z7 Kn Kr h) Kr)) (by kernel_rfl) ?_ ?_
  · refine wpC_of_wpx (by kernel_rfl) (by kernel_rfl) (g' := (((⟨g.v, []⟩ : Env).upd (some 0) (S x0)).upd (some 1) (.int .i64 x1)).upd (some 2) (.int .i64 x2)) (by rw [env_ds hds, upd_self hg0, upd_self hg1, upd_self hg2]) ?_
    have e : (n3 x0 x1 x2 Kn Kr h) = wpx none Tryd.prog 75 n3_c1 (Q7 (fun z0 z1 z2 z7 h => n4 z0 z1 z2 z7 Kn Kr h) Kr) ((((⟨g.v, []⟩ : Env).upd (some 0) (S x0)).upd (some 1) (.int .i64 x1)).upd (some 2) (.int .i64 x2)) h := by kernel_rfl
    exact e ▸ hS
  · intro e g' h' hq
    cases e with
    | normal =>
      have hq : D2 (fun z0 z1 z2 z7 h => n4 z0 z1 z2 z7 Kn Kr h) g' h' := hq
      obtain ⟨y0, y1, y2, y7, hg', hq⟩ := D2_ok hq
      exact n4_ok y0 y1 y2 y7 Kn Kr g' hg' h' hq
    | _ => exact hq
def Q8 (Kn : T1) (Kr : T0) : XPost
  | .normal, g, h => D1 Kn g h
  | .ret, g, h => D0 Kr g h
  | _, _, _ => False
abbrev n2 (x0 : List UInt8) (x1 : Int) (x2 : Int) (Kn : T0) (Kr : T0) (h : H) : Prop :=
  HCalls Tryd.prog 6 ⟨[(S x0), (.int .i64 x1), (.int .i64 x2)]⟩ h fun v90 h91 => vBool v90 fun b92 => cond b92 (HCalls Tryd.prog 9 ⟨[]⟩ h91 fun v93 h94 => vBool v93 fun b95 => cond b95 (Kr true h94) (Kr false h94)) (HCalls Tryd.prog 9 ⟨[]⟩ h91 fun v96 h97 => vBool v96 fun b98 => cond b98 (n3 x0 x1 x2 Kn Kr h97) (HCalls Tryd.prog 9 ⟨[]⟩ h97 fun v99 h100 => vBool v99 fun b101 => cond b101 (Kr true h100) (Kr false h100)))
theorem n2_ok (x0 : List UInt8) (x1 : Int) (x2 : Int) (Kn : T0) (Kr : T0) (g : Env) (hg : E1 g x0 x1 x2) (h : H) (hS : n2 x0 x1 x2 Kn Kr h) : wpC none Tryd.prog 75 n1_c2 (Q0 Kn Kr) g h := by
  obtain ⟨hg0, hg1, hg2, hds⟩ := hg
  refine wpC_seq' (x := n2_c1) (y := n2_c2) (Q' := (Q8 (fun z0 z1 z2 h => n3 z0 z1 z2 Kn Kr h) Kr)) (by kernel_rfl) ?_ ?_
  · refine wpC_of_wpx (by kernel_rfl) (by kernel_rfl) (g' := (((⟨g.v, []⟩ : Env).upd (some 0) (S x0)).upd (some 1) (.int .i64 x1)).upd (some 2) (.int .i64 x2)) (by rw [env_ds hds, upd_self hg0, upd_self hg1, upd_self hg2]) ?_
    have e : (n2 x0 x1 x2 Kn Kr h) = wpx none Tryd.prog 75 n2_c1 (Q8 (fun z0 z1 z2 h => n3 z0 z1 z2 Kn Kr h) Kr) ((((⟨g.v, []⟩ : Env).upd (some 0) (S x0)).upd (some 1) (.int .i64 x1)).upd (some 2) (.int .i64 x2)) h := by kernel_rfl
    exact e ▸ hS
  · intro e g' h' hq
    cases e with
    | normal =>
      have hq : D1 (fun z0 z1 z2 h => n3 z0 z1 z2 Kn Kr h) g' h' := hq
      obtain ⟨y0, y1, y2, hg', hq⟩ := D1_ok hq
      exact n3_ok y0 y1 y2 Kn Kr g' hg' h' hq
    | _ => exact hq
abbrev n1 (x0 : List UInt8) (x1 : Int) (x2 : Int) (Kn : T0) (Kr : T0) (h : H) : Prop :=
  n2 x0 x1 x2 Kn Kr h
theorem n1_ok (x0 : List UInt8) (x1 : Int) (x2 : Int) (Kn : T0) (Kr : T0) (g : Env) (hg : E1 g x0 x1 x2) (h : H) (hS : n1 x0 x1 x2 Kn Kr h) : wpC none Tryd.prog 75 code (Q0 Kn Kr) g h := by
  obtain ⟨hg0, hg1, hg2, hds⟩ := hg
  refine wpC_seq' (x := n1_c1) (y := n1_c2) (Q' := (Q8 (fun z0 z1 z2 h => n2 z0 z1 z2 Kn Kr h) Kr)) (by kernel_rfl) ?_ ?_
  · refine wpC_of_wpx (by kernel_rfl) (by kernel_rfl) (g' := (((⟨g.v, []⟩ : Env).upd (some 0) (S x0)).upd (some 1) (.int .i64 x1)).upd (some 2) (.int .i64 x2)) (by rw [env_ds hds, upd_self hg0, upd_self hg1, upd_self hg2]) ?_
    have e : (n1 x0 x1 x2 Kn Kr h) = wpx none Tryd.prog 75 n1_c1 (Q8 (fun z0 z1 z2 h => n2 z0 z1 z2 Kn Kr h) Kr) ((((⟨g.v, []⟩ : Env).upd (some 0) (S x0)).upd (some 1) (.int .i64 x1)).upd (some 2) (.int .i64 x2)) h := by kernel_rfl
    exact e ▸ hS
  · intro e g' h' hq
    cases e with
    | normal =>
      have hq : D1 (fun z0 z1 z2 h => n2 z0 z1 z2 Kn Kr h) g' h' := hq
      obtain ⟨y0, y1, y2, hg', hq⟩ := D1_ok hq
      exact n2_ok y0 y1 y2 Kn Kr g' hg' h' hq
    | _ => exact hq
/-- WHAT tympan/tympanlaw21.ColsPlain ASKS -/
abbrev asks (x0 : List UInt8) (x1 : Int) (x2 : Int) (K : Value → H → Prop) (h : H) : Prop := n1 x0 x1 x2 (fun y6 h => K (.bool y6) h) (fun y6 h => K (.bool y6) h) h
theorem ok (x0 : List UInt8) (x1 : Int) (x2 : Int) (K : Value → H → Prop) (h : H) (hS : asks x0 x1 x2 K h) : HCalls Tryd.prog 5 ⟨[(S x0), (.int .i64 x1), (.int .i64 x2)]⟩ h K := by
  refine calls_of_wpC (c := code) Tryd.func5 (by kernel_rfl) (Nat.le_of_ble_eq_true (by kernel_rfl)) ?_
  refine (n1_ok x0 x1 x2 (fun y6 h => K (.bool y6) h) (fun y6 h => K (.bool y6) h) (env0 [(S x0), (.int .i64 x1), (.int .i64 x2)]) ⟨rfl, rfl, rfl, rfl⟩ h hS).mono ?_
  intro e g' h' hq
  cases e with
  | normal =>
    have hq : D0 (fun y6 h => K (.bool y6) h) g' h' := hq
    obtain ⟨y6, ⟨hg6, hd⟩, hq⟩ := D0_ok hq
    show leaveX g'.ds h' _
    rw [hd]
    show K (g'.v 6) h'
    rw [hg6]
    exact hq
  | ret =>
    have hq : D0 (fun y6 h => K (.bool y6) h) g' h' := hq
    obtain ⟨y6, ⟨hg6, hd⟩, hq⟩ := D0_ok hq
    show leaveX g'.ds h' _
    rw [hd]
    show K (g'.v 6) h'
    rw [hg6]
    exact hq
  | _ => exact hq
end Sx.l21_ColsPlain

/-! ### tympan/tympanlaw21.far -/
namespace Sx.l21_far
noncomputable def code : Code := bodyOf Tryd.f6
abbrev T0 := Bool → H → Prop
def E0 (g : Env) (x6 : Bool) : Prop := g.v 6 = (.bool x6) ∧ g.ds = []
def D0 (K : T0) (g : Env) (h : H) : Prop := nilDs g.ds (vBool (g.v 6) fun b1 => K b1 h)
theorem D0_ok {K : T0} {g : Env} {h : H} (hq : D0 K g h) : ∃ (x6 : Bool), E0 g x6 ∧ K x6 h := by
  obtain ⟨hd, hq⟩ := nilDs_ok hq
  obtain ⟨y3, e2, q4⟩ := vBool_ok hq
  exact ⟨y3, ⟨e2, hd⟩, q4⟩
def Q0 (Kn : T0) (Kr : T0) : XPost
  | .normal, g, h => D0 Kn g h
  | .ret, g, h => D0 Kr g h
  | _, _, _ => False
abbrev T1 := (List UInt8) → Int → Int → H → Prop
def E1 (g : Env) (x0 : List UInt8) (x1 : Int) (x2 : Int) : Prop := g.v 0 = (S x0) ∧ g.v 1 = (.int .i64 x1) ∧ g.v 2 = (.int .i64 x2) ∧ g.ds = []
def D1 (K : T1) (g : Env) (h : H) : Prop := nilDs g.ds (vStr (g.v 0) fun s5 => vInt .i64 (g.v 1) fun i6 => vInt .i64 (g.v 2) fun i7 => K s5 i6 i7 h)
theorem D1_ok {K : T1} {g : Env} {h : H} (hq : D1 K g h) : ∃ (x0 : List UInt8) (x1 : Int) (x2 : Int), E1 g x0 x1 x2 ∧ K x0 x1 x2 h := by
  obtain ⟨hd, hq⟩ := nilDs_ok hq
  obtain ⟨y9, e8, q10⟩ := vStr_ok hq
  obtain ⟨y12, e11, q13⟩ := vInt_ok q10
  obtain ⟨y15, e14, q16⟩ := vInt_ok q13
  exact ⟨y9, y12, y15, ⟨e8, e11, e14, hd⟩, q16⟩
abbrev n1 (x0 : List UInt8) (x1 : Int) (x2 : Int) (Kn : T0) (Kr : T0) (h : H) : Prop :=
  Spl ((x0.length : Int) > (3000 : Int)) (Kr true h) (Spl (x1 > (1099511627776 : Int)) (Kr true h) (Spl (x2 > (1099511627776 : Int)) (Kr true h) (Kr false h)))
theorem n1_ok (x0 : List UInt8) (x1 : Int) (x2 : Int) (Kn : T0) (Kr : T0) (g : Env) (hg : E1 g x0 x1 x2) (h : H) (hS : n1 x0 x1 x2 Kn Kr h) : wpC none Tryd.prog 18 code (Q0 Kn Kr) g h := by
  obtain ⟨hg0, hg1, hg2, hds⟩ := hg
  refine wpC_of_wpx (by kernel_rfl) (by kernel_rfl) (g' := (((⟨g.v, []⟩ : Env).upd (some 0) (S x0)).upd (some 1) (.int .i64 x1)).upd (some 2) (.int .i64 x2)) (by rw [env_ds hds, upd_self hg0, upd_self hg1, upd_self hg2]) ?_
  have e : (n1 x0 x1 x2 Kn Kr h) = wpx none Tryd.prog 18 code (Q0 Kn Kr) ((((⟨g.v, []⟩ : Env).upd (some 0) (S x0)).upd (some 1) (.int .i64 x1)).upd (some 2) (.int .i64 x2)) h := by kernel_rfl
  exact e ▸ hS
/-- WHAT tympan/tympanlaw21.far ASKS -/
abbrev asks (x0 : List UInt8) (x1 : Int) (x2 : Int) (K : Value → H → Prop) (h : H) : Prop := n1 x0 x1 x2 (fun y6 h => K (.bool y6) h) (fun y6 h => K (.bool y6) h) h
theorem ok (x0 : List UInt8) (x1 : Int) (x2 : Int) (K : Value → H → Prop) (h : H) (hS : asks x0 x1 x2 K h) : HCalls Tryd.prog 6 ⟨[(S x0), (.int .i64 x1), (.int .i64 x2)]⟩ h K := by
  refine calls_of_wpC (c := code) Tryd.func6 (by kernel_rfl) (Nat.le_of_ble_eq_true (by kernel_rfl)) ?_
  refine (n1_ok x0 x1 x2 (fun y6 h => K (.bool y6) h) (fun y6 h => K (.bool y6) h) (env0 [(S x0), (.int .i64 x1), (.int .i64 x2)]) ⟨rfl, rfl, rfl, rfl⟩ h hS).mono ?_
  intro e g' h' hq
  cases e with
  | normal =>
    have hq : D0 (fun y6 h => K (.bool y6) h) g' h' := hq
    obtain ⟨y6, ⟨hg6, hd⟩, hq⟩ := D0_ok hq
    show leaveX g'.ds h' _
    rw [hd]
    show K (g'.v 6) h'
    rw [hg6]
    exact hq
  | ret =>
    have hq : D0 (fun y6 h => K (.bool y6) h) g' h' := hq
    obtain ⟨y6, ⟨hg6, hd⟩, hq⟩ := D0_ok hq
    show leaveX g'.ds h' _
    rw [hd]
    show K (g'.v 6) h'
    rw [hg6]
    exact hq
  | _ => exact hq
end Sx.l21_far

/-! ### tympan/cols.Cut -/
namespace Sx.cols_Cut
noncomputable def code : Code := bodyOf Tryd.f7
abbrev T0 := (List UInt8) → Int → H → Prop
def E0 (g : Env) (x6 : List UInt8) (x7 : Int) : Prop := g.v 6 = (S x6) ∧ g.v 7 = (.int .i64 x7) ∧ g.ds = []
def D0 (K : T0) (g : Env) (h : H) : Prop := nilDs g.ds (vStr (g.v 6) fun s1 => vInt .i64 (g.v 7) fun i2 => K s1 i2 h)
theorem D0_ok {K : T0} {g : Env} {h : H} (hq : D0 K g h) : ∃ (x6 : List UInt8) (x7 : Int), E0 g x6 x7 ∧ K x6 x7 h := by
  obtain ⟨hd, hq⟩ := nilDs_ok hq
  obtain ⟨y4, e3, q5⟩ := vStr_ok hq
  obtain ⟨y7, e6, q8⟩ := vInt_ok q5
  exact ⟨y4, y7, ⟨e3, e6, hd⟩, q8⟩
def Q0 (Kn : T0) (Kr : T0) : XPost
  | .normal, g, h => D0 Kn g h
  | .ret, g, h => D0 Kr g h
  | _, _, _ => False
abbrev T1 := (List UInt8) → Int → Int → H → Prop
def E1 (g : Env) (x0 : List UInt8) (x1 : Int) (x2 : Int) : Prop := g.v 0 = (S x0) ∧ g.v 1 = (.int .i64 x1) ∧ g.v 2 = (.int .i64 x2) ∧ g.ds = []
def D1 (K : T1) (g : Env) (h : H) : Prop := nilDs g.ds (vStr (g.v 0) fun s9 => vInt .i64 (g.v 1) fun i10 => vInt .i64 (g.v 2) fun i11 => K s9 i10 i11 h)
theorem D1_ok {K : T1} {g : Env} {h : H} (hq : D1 K g h) : ∃ (x0 : List UInt8) (x1 : Int) (x2 : Int), E1 g x0 x1 x2 ∧ K x0 x1 x2 h := by
  obtain ⟨hd, hq⟩ := nilDs_ok hq
  obtain ⟨y13, e12, q14⟩ := vStr_ok hq
  obtain ⟨y16, e15, q17⟩ := vInt_ok q14
  obtain ⟨y19, e18, q20⟩ := vInt_ok q17
  exact ⟨y13, y16, y19, ⟨e12, e15, e18, hd⟩, q20⟩
abbrev n1 (x0 : List UInt8) (x1 : Int) (x2 : Int) (Kn : T0) (Kr : T0) (h : H) : Prop :=
  newx h ⟨[(.int .i64 (if (0 : Int) > x1 then (0 : Int) else x1))]⟩ 32 fun a21 h22 => newx h22 #[(.pointer none)] 30 fun a23 h24 => stL a23 [(.pointer (some a21))] 0 h24 fun h25 => ∃ p26, cell h25 a23 = some (.pointer p26) ∧ (vSome p26 fun a27 => ∃ i28, cell h25 (a27.add 0) = some (.int .i64 i28) ∧ (Rng .i64 (i28 + (if (0 : Int) > x2 then (0 : Int) else x2)) ∧ (newx h25 #[(.int .i64 (0 : Int))] 3 fun a29 h30 => stL a29 [(.int .i64 (i28 + (if (0 : Int) > x2 then (0 : Int) else x2)))] 0 h30 fun h31 => HCalls Tryd.prog 16 ⟨[(S x0), (.func (.func 17) ⟨[]⟩ ⟨[(.pointer (some a23)), (.pointer (some a29))]⟩)]⟩ h31 fun v32 h33 => vInt .i64 v32 fun i34 => ∃ p35, cell h33 a23 = some (.pointer p35) ∧ (vSome p35 fun a36 => ∃ i37, cell h33 (a36.add 0) = some (.int .i64 i37) ∧ (∃ i38, cell h33 a29 = some (.int .i64 i38) ∧ (Spl (i37 ≤ i38) ((0 ≤ i34 ∧ i34 ≤ (x0.length : Int) ∧ (x0.length : Int) ≤ (x0.length : Int)) ∧ (∃ p39, cell h33 a23 = some (.pointer p39) ∧ (vSome p39 fun a40 => ∃ i41, cell h33 (a40.add 0) = some (.int .i64 i41) ∧ (Kr (sub x0 i34 (x0.length : Int)) i41 h33)))) (∃ p42, cell h33 a23 = some (.pointer p42) ∧ (vSome p42 fun a43 => ∃ i44, cell h33 (a43.add 0) = some (.int .i64 i44) ∧ (∃ i45, cell h33 a29 = some (.int .i64 i45) ∧ (Rng .i64 (i44 - i45) ∧ ((0 ≤ i34 ∧ i34 ≤ (x0.length : Int) ∧ (x0.length : Int) ≤ (x0.length : Int)) ∧ (∃ i46, cell h33 a29 = some (.int .i64 i46) ∧ (HCalls Tryd.prog 19 ⟨[(S ([32] : List UInt8)), (.int .i64 (i44 - i45))]⟩ h33 fun v47 h48 => vStr v47 fun s49 => ExtH h33 h48 ∧ (((s49.length + (sub x0 i34 (x0.length : Int)).length : Nat) : Int) ≤ 9223372036854775807 ∧ (Kr (s49 ++ (sub x0 i34 (x0.length : Int))) i46 h48)))))))))))))))
theorem n1_ok (x0 : List UInt8) (x1 : Int) (x2 : Int) (Kn : T0) (Kr : T0) (g : Env) (hg : E1 g x0 x1 x2) (h : H) (hS : n1 x0 x1 x2 Kn Kr h) : wpC none Tryd.prog 50 code (Q0 Kn Kr) g h := by
  obtain ⟨hg0, hg1, hg2, hds⟩ := hg
  refine wpC_of_wpx (by kernel_rfl) (by kernel_rfl) (g' := (((⟨g.v, []⟩ : Env).upd (some 0) (S x0)).upd (some 1) (.int .i64 x1)).upd (some 2) (.int .i64 x2)) (by rw [env_ds hds, upd_self hg0, upd_self hg1, upd_self hg2]) ?_
  have e : (n1 x0 x1 x2 Kn Kr h) = wpx none Tryd.prog 50 code (Q0 Kn Kr) ((((⟨g.v, []⟩ : Env).upd (some 0) (S x0)).upd (some 1) (.int .i64 x1)).upd (some 2) (.int .i64 x2)) h := by kernel_rfl
  exact e ▸ hS
/-- WHAT tympan/cols.Cut ASKS -/
abbrev asks (x0 : List UInt8) (x1 : Int) (x2 : Int) (K : Value → H → Prop) (h : H) : Prop := n1 x0 x1 x2 (fun y6 y7 h => K (.tuple ⟨[(S y6), (.int .i64 y7)]⟩) h) (fun y6 y7 h => K (.tuple ⟨[(S y6), (.int .i64 y7)]⟩) h) h
theorem ok (x0 : List UInt8) (x1 : Int) (x2 : Int) (K : Value → H → Prop) (h : H) (hS : asks x0 x1 x2 K h) : HCalls Tryd.prog 7 ⟨[(S x0), (.int .i64 x1), (.int .i64 x2)]⟩ h K := by
  refine calls_of_wpC (c := code) Tryd.func7 (by kernel_rfl) (Nat.le_of_ble_eq_true (by kernel_rfl)) ?_
  refine (n1_ok x0 x1 x2 (fun y6 y7 h => K (.tuple ⟨[(S y6), (.int .i64 y7)]⟩) h) (fun y6 y7 h => K (.tuple ⟨[(S y6), (.int .i64 y7)]⟩) h) (env0 [(S x0), (.int .i64 x1), (.int .i64 x2)]) ⟨rfl, rfl, rfl, rfl⟩ h hS).mono ?_
  intro e g' h' hq
  cases e with
  | normal =>
    have hq : D0 (fun y6 y7 h => K (.tuple ⟨[(S y6), (.int .i64 y7)]⟩) h) g' h' := hq
    obtain ⟨y6, y7, ⟨hg6, hg7, hd⟩, hq⟩ := D0_ok hq
    show leaveX g'.ds h' _
    rw [hd]
    show K (.tuple ⟨[(g'.v 6), (g'.v 7)]⟩) h'
    rw [hg6, hg7]
    exact hq
  | ret =>
    have hq : D0 (fun y6 y7 h => K (.tuple ⟨[(S y6), (.int .i64 y7)]⟩) h) g' h' := hq
    obtain ⟨y6, y7, ⟨hg6, hg7, hd⟩, hq⟩ := D0_ok hq
    show leaveX g'.ds h' _
    rw [hd]
    show K (.tuple ⟨[(g'.v 6), (g'.v 7)]⟩) h'
    rw [hg6, hg7]
    exact hq
  | _ => exact hq
end Sx.cols_Cut

/-! ### tympan/tympanref21.Cut -/
namespace Sx.r21_Cut
noncomputable def code : Code := bodyOf Tryd.f8
abbrev T0 := (List UInt8) → Int → H → Prop
def E0 (g : Env) (x6 : List UInt8) (x7 : Int) : Prop := g.v 6 = (S x6) ∧ g.v 7 = (.int .i64 x7) ∧ g.ds = []
def D0 (K : T0) (g : Env) (h : H) : Prop := nilDs g.ds (vStr (g.v 6) fun s1 => vInt .i64 (g.v 7) fun i2 => K s1 i2 h)
theorem D0_ok {K : T0} {g : Env} {h : H} (hq : D0 K g h) : ∃ (x6 : List UInt8) (x7 : Int), E0 g x6 x7 ∧ K x6 x7 h := by
  obtain ⟨hd, hq⟩ := nilDs_ok hq
  obtain ⟨y4, e3, q5⟩ := vStr_ok hq
  obtain ⟨y7, e6, q8⟩ := vInt_ok q5
  exact ⟨y4, y7, ⟨e3, e6, hd⟩, q8⟩
def Q0 (Kn : T0) (Kr : T0) : XPost
  | .normal, g, h => D0 Kn g h
  | .ret, g, h => D0 Kr g h
  | _, _, _ => False
abbrev T1 := (List UInt8) → Int → Int → H → Prop
def E1 (g : Env) (x0 : List UInt8) (x1 : Int) (x2 : Int) : Prop := g.v 0 = (S x0) ∧ g.v 1 = (.int .i64 x1) ∧ g.v 2 = (.int .i64 x2) ∧ g.ds = []
def D1 (K : T1) (g : Env) (h : H) : Prop := nilDs g.ds (vStr (g.v 0) fun s9 => vInt .i64 (g.v 1) fun i10 => vInt .i64 (g.v 2) fun i11 => K s9 i10 i11 h)
theorem D1_ok {K : T1} {g : Env} {h : H} (hq : D1 K g h) : ∃ (x0 : List UInt8) (x1 : Int) (x2 : Int), E1 g x0 x1 x2 ∧ K x0 x1 x2 h := by
  obtain ⟨hd, hq⟩ := nilDs_ok hq
  obtain ⟨y13, e12, q14⟩ := vStr_ok hq
  obtain ⟨y16, e15, q17⟩ := vInt_ok q14
  obtain ⟨y19, e18, q20⟩ := vInt_ok q17
  exact ⟨y13, y16, y19, ⟨e12, e15, e18, hd⟩, q20⟩
noncomputable def n1_c1 : Code := cFst code
noncomputable def n1_c2 : Code := cSnd code
noncomputable def n2_c1 : Code := cFst n1_c2
noncomputable def n2_c2 : Code := cSnd n1_c2
noncomputable def n3_c1 : Code := cFst n2_c2
noncomputable def n3_c2 : Code := cSnd n2_c2
abbrev T2 := (List UInt8) → Int → Int → Int → H → Prop
def E2 (g : Env) (x0 : List UInt8) (x1 : Int) (x2 : Int) (x8 : Int) : Prop := g.v 0 = (S x0) ∧ g.v 1 = (.int .i64 x1) ∧ g.v 2 = (.int .i64 x2) ∧ g.v 8 = (.int .i64 x8) ∧ g.ds = []
def D2 (K : T2) (g : Env) (h : H) : Prop := nilDs g.ds (vStr (g.v 0) fun s21 => vInt .i64 (g.v 1) fun i22 => vInt .i64 (g.v 2) fun i23 => vInt .i64 (g.v 8) fun i24 => K s21 i22 i23 i24 h)
theorem D2_ok {K : T2} {g : Env} {h : H} (hq : D2 K g h) : ∃ (x0 : List UInt8) (x1 : Int) (x2 : Int) (x8 : Int), E2 g x0 x1 x2 x8 ∧ K x0 x1 x2 x8 h := by
  obtain ⟨hd, hq⟩ := nilDs_ok hq
  obtain ⟨y26, e25, q27⟩ := vStr_ok hq
  obtain ⟨y29, e28, q30⟩ := vInt_ok q27
  obtain ⟨y32, e31, q33⟩ := vInt_ok q30
  obtain ⟨y35, e34, q36⟩ := vInt_ok q33
  exact ⟨y26, y29, y32, y35, ⟨e25, e28, e31, e34, hd⟩, q36⟩
noncomputable def n4_c1 : Code := cFst n3_c2
noncomputable def n4_c2 : Code := cSnd n3_c2
noncomputable def n5_c1 : Code := cFst n4_c2
noncomputable def n5_c2 : Code := cSnd n4_c2
noncomputable def n6_c1 : Code := cFst n5_c2
noncomputable def n6_c2 : Code := cSnd n5_c2
abbrev T3 := (List UInt8) → Int → H → Prop
def E3 (g : Env) (x0 : List UInt8) (x8 : Int) : Prop := g.v 0 = (S x0) ∧ g.v 8 = (.int .i64 x8) ∧ g.ds = []
def D3 (K : T3) (g : Env) (h : H) : Prop := nilDs g.ds (vStr (g.v 0) fun s37 => vInt .i64 (g.v 8) fun i38 => K s37 i38 h)
theorem D3_ok {K : T3} {g : Env} {h : H} (hq : D3 K g h) : ∃ (x0 : List UInt8) (x8 : Int), E3 g x0 x8 ∧ K x0 x8 h := by
  obtain ⟨hd, hq⟩ := nilDs_ok hq
  obtain ⟨y40, e39, q41⟩ := vStr_ok hq
  obtain ⟨y43, e42, q44⟩ := vInt_ok q41
  exact ⟨y40, y43, ⟨e39, e42, hd⟩, q44⟩
abbrev n7 (x0 : List UInt8) (x8 : Int) (Kn : T0) (Kr : T0) (h : H) : Prop :=
  Kr x0 x8 h
theorem n7_ok (x0 : List UInt8) (x8 : Int) (Kn : T0) (Kr : T0) (g : Env) (hg : E3 g x0 x8) (h : H) (hS : n7 x0 x8 Kn Kr h) : wpC none Tryd.prog 48 n6_c2 (Q0 Kn Kr) g h := by
  obtain ⟨hg0, hg8, hds⟩ := hg
  refine wpC_of_wpx (by kernel_rfl) (by kernel_rfl) (g' := ((⟨g.v, []⟩ : Env).upd (some 0) (S x0)).upd (some 8) (.int .i64 x8)) (by rw [env_ds hds, upd_self hg0, upd_self hg8]) ?_
  have e : (n7 x0 x8 Kn Kr h) = wpx none Tryd.prog 48 n6_c2 (Q0 Kn Kr) (((⟨g.v, []⟩ : Env).upd (some 0) (S x0)).upd (some 8) (.int .i64 x8)) h := by kernel_rfl
  exact e ▸ hS
def Q1 (Kn : T3) (Kr : T0) : XPost
  | .normal, g, h => D3 Kn g h
  | .ret, g, h => D0 Kr g h
  | _, _, _ => False
noncomputable def n8_c1 : Code := cFst n6_c1
def Q2 (Kn : T3) (Ke2 : T3) (Kr : T0) : XPost
  | .normal, g, h => D3 Kn g h
  | .ret, g, h => D0 Kr g h
  | .exit id, g, h => cond (Nat.beq id 2) (D3 Ke2 g h) (False)
  | _, _, _ => False
noncomputable def n9_c1 : Code := cFst n8_c1
def Q3 (Kn : T2) (Ke2 : T3) (Kr : T0) : XPost
  | .normal, g, h => D2 Kn g h
  | .ret, g, h => D0 Kr g h
  | .exit id, g, h => cond (Nat.beq id 2) (D3 Ke2 g h) (False)
  | _, _, _ => False
def n9_L (Kn : T3) (Ke2 : T3) (Kr : T0) : Nat → (List UInt8) → Int → Int → Int → H → Prop
  | 0 => fun _ _ _ _ _ => False
  | N + 1 => fun x0 x1 x2 x8 h => Rng .i64 (x8 - x1) ∧ (Spl ((x8 - x1) > x2) (((([32] : List UInt8).length + x0.length : Nat) : Int) ≤ 9223372036854775807 ∧ (Rng .i64 (x8 - (1 : Int)) ∧ (n9_L Kn Ke2 Kr N (([32] : List UInt8) ++ x0) x1 x2 (x8 - (1 : Int)) h))) (Ke2 x0 x8 h))
abbrev n9 (x0 : List UInt8) (x1 : Int) (x2 : Int) (x8 : Int) (Kn : T3) (Ke2 : T3) (Kr : T0) (h : H) : Prop := ∃ N, n9_L Kn Ke2 Kr N x0 x1 x2 x8 h
theorem n9_ok (x0 : List UInt8) (x1 : Int) (x2 : Int) (x8 : Int) (Kn : T3) (Ke2 : T3) (Kr : T0) (g : Env) (hg : E2 g x0 x1 x2 x8) (h : H) (hS : n9 x0 x1 x2 x8 Kn Ke2 Kr h) : wpC none Tryd.prog 48 n8_c1 (Q2 Kn Ke2 Kr) g h := by
  obtain ⟨N0, hS⟩ := hS
  refine wpC_loop' (x := n9_c1) (by kernel_rfl) (fun k g h => ∃ (x0 : List UInt8) (x1 : Int) (x2 : Int) (x8 : Int), E2 g x0 x1 x2 x8 ∧ n9_L Kn Ke2 Kr k x0 x1 x2 x8 h) (fun g h hr => ?_) (fun N g h hr => ?_) N0 ⟨x0, x1, x2, x8, hg, hS⟩
  · obtain ⟨x0, x1, x2, x8, hg, hS⟩ := hr
    exact hS.elim
  · obtain ⟨x0, x1, x2, x8, hg, hS⟩ := hr
    have hw : wpC none Tryd.prog 48 n9_c1 (Q3 (fun z0 z1 z2 z8 h => n9_L Kn Ke2 Kr N z0 z1 z2 z8 h) Ke2 Kr) g h := by
      obtain ⟨hg0, hg1, hg2, hg8, hds⟩ := hg
      refine wpC_of_wpx (by kernel_rfl) (by kernel_rfl) (g' := ((((⟨g.v, []⟩ : Env).upd (some 0) (S x0)).upd (some 1) (.int .i64 x1)).upd (some 2) (.int .i64 x2)).upd (some 8) (.int .i64 x8)) (by rw [env_ds hds, upd_self hg0, upd_self hg1, upd_self hg2, upd_self hg8]) ?_
      have e : (n9_L Kn Ke2 Kr (N + 1) x0 x1 x2 x8 h) = wpx none Tryd.prog 48 n9_c1 (Q3 (fun z0 z1 z2 z8 h => n9_L Kn Ke2 Kr N z0 z1 z2 z8 h) Ke2 Kr) (((((⟨g.v, []⟩ : Env).upd (some 0) (S x0)).upd (some 1) (.int .i64 x1)).upd (some 2) (.int .i64 x2)).upd (some 8) (.int .i64 x8)) h := by kernel_rfl
      exact e ▸ hS
    refine hw.mono ?_
    intro e g' h' hq
    cases e with
    | normal => exact D2_ok (K := (fun z0 z1 z2 z8 h => n9_L Kn Ke2 Kr N z0 z1 z2 z8 h)) hq
    | _ => exact hq
abbrev n8 (x0 : List UInt8) (x1 : Int) (x2 : Int) (x8 : Int) (Kn : T3) (Kr : T0) (h : H) : Prop := n9 x0 x1 x2 x8 Kn Kn Kr h
theorem n8_ok (x0 : List UInt8) (x1 : Int) (x2 : Int) (x8 : Int) (Kn : T3) (Kr : T0) (g : Env) (hg : E2 g x0 x1 x2 x8) (h : H) (hS : n8 x0 x1 x2 x8 Kn Kr h) : wpC none Tryd.prog 48 n6_c1 (Q1 Kn Kr) g h := by
  refine wpC_block' (id := 2) (x := n8_c1) (by kernel_rfl) (n9_ok x0 x1 x2 x8 Kn Kn Kr g hg h hS) ?_
  intro e g' h' hq
  cases e <;> exact hq
abbrev n6 (x0 : List UInt8) (x1 : Int) (x2 : Int) (x8 : Int) (Kn : T0) (Kr : T0) (h : H) : Prop := n8 x0 x1 x2 x8 (fun z0 z8 h => n7 z0 z8 Kn Kr h) Kr h
theorem n6_ok (x0 : List UInt8) (x1 : Int) (x2 : Int) (x8 : Int) (Kn : T0) (Kr : T0) (g : Env) (hg : E2 g x0 x1 x2 x8) (h : H) (hS : n6 x0 x1 x2 x8 Kn Kr h) : wpC none Tryd.prog 48 n5_c2 (Q0 Kn Kr) g h := by
  refine wpC_seq' (x := n6_c1) (y := n6_c2) (by kernel_rfl) (n8_ok x0 x1 x2 x8 (fun z0 z8 h => n7 z0 z8 Kn Kr h) Kr g hg h hS) ?_
  intro e g' h' hq
  cases e with
  | normal =>
    have hq : D3 (fun z0 z8 h => n7 z0 z8 Kn Kr h) g' h' := hq
    obtain ⟨y0, y8, hg', hq⟩ := D3_ok hq
    exact n7_ok y0 y8 Kn Kr g' hg' h' hq
  | _ => exact hq
def Q4 (Kn : T2) (Kr : T0) : XPost
  | .normal, g, h => D2 Kn g h
  | .ret, g, h => D0 Kr g h
  | _, _, _ => False
abbrev n5 (x0 : List UInt8) (x1 : Int) (x2 : Int) (x8 : Int) (Kn : T0) (Kr : T0) (h : H) : Prop :=
  Spl (x2 ≤ (0 : Int)) (Kr x0 x1 h) (n6 x0 x1 x2 x8 Kn Kr h)
theorem n5_ok (x0 : List UInt8) (x1 : Int) (x2 : Int) (x8 : Int) (Kn : T0) (Kr : T0) (g : Env) (hg : E2 g x0 x1 x2 x8) (h : H) (hS : n5 x0 x1 x2 x8 Kn Kr h) : wpC none Tryd.prog 48 n4_c2 (Q0 Kn Kr) g h := by
  obtain ⟨hg0, hg1, hg2, hg8, hds⟩ := hg
  refine wpC_seq' (x := n5_c1) (y := n5_c2) (Q' := (Q4 (fun z0 z1 z2 z8 h => n6 z0 z1 z2 z8 Kn Kr h) Kr)) (by kernel_rfl) ?_ ?_
  · refine wpC_of_wpx (by kernel_rfl) (by kernel_rfl) (g' := ((((⟨g.v, []⟩ : Env).upd (some 0) (S x0)).upd (some 1) (.int .i64 x1)).upd (some 2) (.int .i64 x2)).upd (some 8) (.int .i64 x8)) (by rw [env_ds hds, upd_self hg0, upd_self hg1, upd_self hg2, upd_self hg8]) ?_
    have e : (n5 x0 x1 x2 x8 Kn Kr h) = wpx none Tryd.prog 48 n5_c1 (Q4 (fun z0 z1 z2 z8 h => n6 z0 z1 z2 z8 Kn Kr h) Kr) (((((⟨g.v, []⟩ : Env).upd (some 0) (S x0)).upd (some 1) (.int .i64 x1)).upd (some 2) (.int .i64 x2)).upd (some 8) (.int .i64 x8)) h := by kernel_rfl
    exact e ▸ hS
  · intro e g' h' hq
    cases e with
    | normal =>
      have hq : D2 (fun z0 z1 z2 z8 h => n6 z0 z1 z2 z8 Kn Kr h) g' h' := hq
      obtain ⟨y0, y1, y2, y8, hg', hq⟩ := D2_ok hq
      exact n6_ok y0 y1 y2 y8 Kn Kr g' hg' h' hq
    | _ => exact hq
noncomputable def n10_c1 : Code := cFst n4_c1
def Q5 (Kn : T2) (Ke0 : T2) (Kr : T0) : XPost
  | .normal, g, h => D2 Kn g h
  | .ret, g, h => D0 Kr g h
  | .exit id, g, h => cond (Nat.beq id 0) (D2 Ke0 g h) (False)
  | _, _, _ => False
noncomputable def n11_c1 : Code := cFst n10_c1
def n11_L (Kn : T2) (Ke0 : T2) (Kr : T0) : Nat → (List UInt8) → Int → Int → Int → H → Prop
  | 0 => fun _ _ _ _ _ => False
  | N + 1 => fun x0 x1 x2 x8 h => Rng .i64 (x8 - x1) ∧ (Spl ((x8 - x1) < x2) (Spl ((x0.length : Int) > (0 : Int)) ((0 ≤ (0 : Int) ∧ (0 : Int) < (x0.length : Int)) ∧ (HCalls Tryd.prog 20 ⟨[(.int .u8 ((List.getD x0 (Int.toNat (0 : Int)) 0).toNat : Int))]⟩ h fun v45 h46 => vBool v45 fun b47 => cond b47 ((0 ≤ (0 : Int) ∧ (0 : Int) < (x0.length : Int)) ∧ (HCalls Tryd.prog 21 ⟨[(.int .u8 ((List.getD x0 (Int.toNat (0 : Int)) 0).toNat : Int)), (.int .i64 x8)]⟩ h46 fun v48 h49 => vInt .i64 v48 fun i50 => (0 ≤ (1 : Int) ∧ (1 : Int) ≤ (x0.length : Int) ∧ (x0.length : Int) ≤ (x0.length : Int)) ∧ (n11_L Kn Ke0 Kr N (sub x0 (1 : Int) (x0.length : Int)) x1 x2 i50 h49))) (Ke0 x0 x1 x2 x8 h46))) (Ke0 x0 x1 x2 x8 h)) (Ke0 x0 x1 x2 x8 h))
abbrev n11 (x0 : List UInt8) (x1 : Int) (x2 : Int) (x8 : Int) (Kn : T2) (Ke0 : T2) (Kr : T0) (h : H) : Prop := ∃ N, n11_L Kn Ke0 Kr N x0 x1 x2 x8 h
theorem n11_ok (x0 : List UInt8) (x1 : Int) (x2 : Int) (x8 : Int) (Kn : T2) (Ke0 : T2) (Kr : T0) (g : Env) (hg : E2 g x0 x1 x2 x8) (h : H) (hS : n11 x0 x1 x2 x8 Kn Ke0 Kr h) : wpC none Tryd.prog 48 n10_c1 (Q5 Kn Ke0 Kr) g h := by
  obtain ⟨N0, hS⟩ := hS
  refine wpC_loop' (x := n11_c1) (by kernel_rfl) (fun k g h => ∃ (x0 : List UInt8) (x1 : Int) (x2 : Int) (x8 : Int), E2 g x0 x1 x2 x8 ∧ n11_L Kn Ke0 Kr k x0 x1 x2 x8 h) (fun g h hr => ?_) (fun N g h hr => ?_) N0 ⟨x0, x1, x2, x8, hg, hS⟩
  · obtain ⟨x0, x1, x2, x8, hg, hS⟩ := hr
    exact hS.elim
  · obtain ⟨x0, x1, x2, x8, hg, hS⟩ := hr
    have hw : wpC none Tryd.prog 48 n11_c1 (Q5 (fun z0 z1 z2 z8 h => n11_L Kn Ke0 Kr N z0 z1 z2 z8 h) Ke0 Kr) g h := by
      obtain ⟨hg0, hg1, hg2, hg8, hds⟩ := hg
      refine wpC_of_wpx (by kernel_rfl) (by kernel_rfl) (g' := ((((⟨g.v, []⟩ : Env).upd (some 0) (S x0)).upd (some 1) (.int .i64 x1)).upd (some 2) (.int .i64 x2)).upd (some 8) (.int .i64 x8)) (by rw [env_ds hds, upd_self hg0, upd_self hg1, upd_self hg2, upd_self hg8]) ?_
      have e : (n11_L Kn Ke0 Kr (N + 1) x0 x1 x2 x8 h) = wpx none Tryd.prog 48 n11_c1 (Q5 (fun z0 z1 z2 z8 h => n11_L Kn Ke0 Kr N z0 z1 z2 z8 h) Ke0 Kr) (((((⟨g.v, []⟩ : Env).upd (some 0) (S x0)).upd (some 1) (.int .i64 x1)).upd (some 2) (.int .i64 x2)).upd (some 8) (.int .i64 x8)) h := by kernel_rfl
      exact e ▸ hS
    refine hw.mono ?_
    intro e g' h' hq
    cases e with
    | normal => exact D2_ok (K := (fun z0 z1 z2 z8 h => n11_L Kn Ke0 Kr N z0 z1 z2 z8 h)) hq
    | _ => exact hq
abbrev n10 (x0 : List UInt8) (x1 : Int) (x2 : Int) (x8 : Int) (Kn : T2) (Kr : T0) (h : H) : Prop := n11 x0 x1 x2 x8 Kn Kn Kr h
theorem n10_ok (x0 : List UInt8) (x1 : Int) (x2 : Int) (x8 : Int) (Kn : T2) (Kr : T0) (g : Env) (hg : E2 g x0 x1 x2 x8) (h : H) (hS : n10 x0 x1 x2 x8 Kn Kr h) : wpC none Tryd.prog 48 n4_c1 (Q4 Kn Kr) g h := by
  refine wpC_block' (id := 0) (x := n10_c1) (by kernel_rfl) (n11_ok x0 x1 x2 x8 Kn Kn Kr g hg h hS) ?_
  intro e g' h' hq
  cases e <;> exact hq
abbrev n4 (x0 : List UInt8) (x1 : Int) (x2 : Int) (x8 : Int) (Kn : T0) (Kr : T0) (h : H) : Prop := n10 x0 x1 x2 x8 (fun z0 z1 z2 z8 h => n5 z0 z1 z2 z8 Kn Kr h) Kr h
theorem n4_ok (x0 : List UInt8) (x1 : Int) (x2 : Int) (x8 : Int) (Kn : T0) (Kr : T0) (g : Env) (hg : E2 g x0 x1 x2 x8) (h : H) (hS : n4 x0 x1 x2 x8 Kn Kr h) : wpC none Tryd.prog 48 n3_c2 (Q0 Kn Kr) g h := by
  refine wpC_seq' (x := n4_c1) (y := n4_c2) (by kernel_rfl) (n10_ok x0 x1 x2 x8 (fun z0 z1 z2 z8 h => n5 z0 z1 z2 z8 Kn Kr h) Kr g hg h hS) ?_
  intro e g' h' hq
  cases e with
  | normal =>
    have hq : D2 (fun z0 z1 z2 z8 h => n5 z0 z1 z2 z8 Kn Kr h) g' h' := hq
    obtain ⟨y0, y1, y2, y8, hg', hq⟩ := D2_ok hq
    exact n5_ok y0 y1 y2 y8 Kn Kr g' hg' h' hq
  | _ => exact hq
abbrev n3 (x0 : List UInt8) (x1 : Int) (x2 : Int) (Kn : T0) (Kr : T0) (h : H) : Prop :=
  n4 x0 x1 x2 x1 Kn Kr h
theorem n3_ok (x0 : List UInt8) (x1 : Int) (x2 : Int) (Kn : T0) (Kr : T0) (g : Env) (hg : E1 g x0 x1 x2) (h : H) (hS : n3 x0 x1 x2 Kn Kr h) : wpC none Tryd.prog 48 n2_c2 (Q0 Kn Kr) g h := by
  obtain ⟨hg0, hg1, hg2, hds⟩ := hg
  refine wpC_seq' (x := n3_c1) (y := n3_c2) (Q' := (Q4 (fun z0 z1 z2 z8 h => n4 z0 z1 z2 z8 Kn Kr h) Kr)) (by kernel_rfl) ?_ ?_
  · refine wpC_of_wpx (by kernel_rfl) (by kernel_rfl) (g' := (((⟨g.v, []⟩ : Env).upd (some 0) (S x0)).upd (some 1) (.int .i64 x1)).upd (some 2) (.int .i64 x2)) (by rw [env_ds hds, upd_self hg0, upd_self hg1, upd_self hg2]) ?_
    have e : (n3 x0 x1 x2 Kn Kr h) = wpx none Tryd.prog 48 n3_c1 (Q4 (fun z0 z1 z2 z8 h => n4 z0 z1 z2 z8 Kn Kr h) Kr) ((((⟨g.v, []⟩ : Env).upd (some 0) (S x0)).upd (some 1) (.int .i64 x1)).upd (some 2) (.int .i64 x2)) h := by kernel_rfl
    exact e ▸ hS
  · intro e g' h' hq
    cases e with
    | normal =>
      have hq : D2 (fun z0 z1 z2 z8 h => n4 z0 z1 z2 z8 Kn Kr h) g' h' := hq
      obtain ⟨y0, y1, y2, y8, hg', hq⟩ := D2_ok hq
      exact n4_ok y0 y1 y2 y8 Kn Kr g' hg' h' hq
    | _ => exact hq
def Q6 (Kn : T1) (Kr : T0) : XPost
  | .normal, g, h => D1 Kn g h
  | .ret, g, h => D0 Kr g h
  | _, _, _ => False
abbrev n2 (x0 : List UInt8) (x1 : Int) (x2 : Int) (Kn : T0) (Kr : T0) (h : H) : Prop :=
  n3 x0 (if (0 : Int) > x1 then (0 : Int) else x1) x2 Kn Kr h
theorem n2_ok (x0 : List UInt8) (x1 : Int) (x2 : Int) (Kn : T0) (Kr : T0) (g : Env) (hg : E1 g x0 x1 x2) (h : H) (hS : n2 x0 x1 x2 Kn Kr h) : wpC none Tryd.prog 48 n1_c2 (Q0 Kn Kr) g h := by
  obtain ⟨hg0, hg1, hg2, hds⟩ := hg
  refine wpC_seq' (x := n2_c1) (y := n2_c2) (Q' := (Q6 (fun z0 z1 z2 h => n3 z0 z1 z2 Kn Kr h) Kr)) (by kernel_rfl) ?_ ?_
  · refine wpC_of_wpx (by kernel_rfl) (by kernel_rfl) (g' := (((⟨g.v, []⟩ : Env).upd (some 0) (S x0)).upd (some 1) (.int .i64 x1)).upd (some 2) (.int .i64 x2)) (by rw [env_ds hds, upd_self hg0, upd_self hg1, upd_self hg2]) ?_
    have e : (n2 x0 x1 x2 Kn Kr h) = wpx none Tryd.prog 48 n2_c1 (Q6 (fun z0 z1 z2 h => n3 z0 z1 z2 Kn Kr h) Kr) ((((⟨g.v, []⟩ : Env).upd (some 0) (S x0)).upd (some 1) (.int .i64 x1)).upd (some 2) (.int .i64 x2)) h := by kernel_rfl
    exact e ▸ hS
  · intro e g' h' hq
    cases e with
    | normal =>
      have hq : D1 (fun z0 z1 z2 h => n3 z0 z1 z2 Kn Kr h) g' h' := hq
      obtain ⟨y0, y1, y2, hg', hq⟩ := D1_ok hq
      exact n3_ok y0 y1 y2 Kn Kr g' hg' h' hq
    | _ => exact hq
abbrev n1 (x0 : List UInt8) (x1 : Int) (x2 : Int) (Kn : T0) (Kr : T0) (h : H) : Prop :=
  n2 x0 x1 x2 Kn Kr h
theorem n1_ok (x0 : List UInt8) (x1 : Int) (x2 : Int) (Kn : T0) (Kr : T0) (g : Env) (hg : E1 g x0 x1 x2) (h : H) (hS : n1 x0 x1 x2 Kn Kr h) : wpC none Tryd.prog 48 code (Q0 Kn Kr) g h := by
  obtain ⟨hg0, hg1, hg2, hds⟩ := hg
  refine wpC_seq' (x := n1_c1) (y := n1_c2) (Q' := (Q6 (fun z0 z1 z2 h => n2 z0 z1 z2 Kn Kr h) Kr)) (by kernel_rfl) ?_ ?_
  · refine wpC_of_wpx (by kernel_rfl) (by kernel_rfl) (g' := (((⟨g.v, []⟩ : Env).upd (some 0) (S x0)).upd (some 1) (.int .i64 x1)).upd (some 2) (.int .i64 x2)) (by rw [env_ds hds, upd_self hg0, upd_self hg1, upd_self hg2]) ?_
    have e : (n1 x0 x1 x2 Kn Kr h) = wpx none Tryd.prog 48 n1_c1 (Q6 (fun z0 z1 z2 h => n2 z0 z1 z2 Kn Kr h) Kr) ((((⟨g.v, []⟩ : Env).upd (some 0) (S x0)).upd (some 1) (.int .i64 x1)).upd (some 2) (.int .i64 x2)) h := by kernel_rfl
    exact e ▸ hS
  · intro e g' h' hq
    cases e with
    | normal =>
      have hq : D1 (fun z0 z1 z2 h => n2 z0 z1 z2 Kn Kr h) g' h' := hq
      obtain ⟨y0, y1, y2, hg', hq⟩ := D1_ok hq
      exact n2_ok y0 y1 y2 Kn Kr g' hg' h' hq
    | _ => exact hq
/-- WHAT tympan/tympanref21.Cut ASKS -/
abbrev asks (x0 : List UInt8) (x1 : Int) (x2 : Int) (K : Value → H → Prop) (h : H) : Prop := n1 x0 x1 x2 (fun y6 y7 h => K (.tuple ⟨[(S y6), (.int .i64 y7)]⟩) h) (fun y6 y7 h => K (.tuple ⟨[(S y6), (.int .i64 y7)]⟩) h) h
theorem ok (x0 : List UInt8) (x1 : Int) (x2 : Int) (K : Value → H → Prop) (h : H) (hS : asks x0 x1 x2 K h) : HCalls Tryd.prog 8 ⟨[(S x0), (.int .i64 x1), (.int .i64 x2)]⟩ h K := by
  refine calls_of_wpC (c := code) Tryd.func8 (by kernel_rfl) (Nat.le_of_ble_eq_true (by kernel_rfl)) ?_
  refine (n1_ok x0 x1 x2 (fun y6 y7 h => K (.tuple ⟨[(S y6), (.int .i64 y7)]⟩) h) (fun y6 y7 h => K (.tuple ⟨[(S y6), (.int .i64 y7)]⟩) h) (env0 [(S x0), (.int .i64 x1), (.int .i64 x2)]) ⟨rfl, rfl, rfl, rfl⟩ h hS).mono ?_
  intro e g' h' hq
  cases e with
  | normal =>
    have hq : D0 (fun y6 y7 h => K (.tuple ⟨[(S y6), (.int .i64 y7)]⟩) h) g' h' := hq
    obtain ⟨y6, y7, ⟨hg6, hg7, hd⟩, hq⟩ := D0_ok hq
    show leaveX g'.ds h' _
    rw [hd]
    show K (.tuple ⟨[(g'.v 6), (g'.v 7)]⟩) h'
    rw [hg6, hg7]
    exact hq
  | ret =>
    have hq : D0 (fun y6 y7 h => K (.tuple ⟨[(S y6), (.int .i64 y7)]⟩) h) g' h' := hq
    obtain ⟨y6, y7, ⟨hg6, hg7, hd⟩, hq⟩ := D0_ok hq
    show leaveX g'.ds h' _
    rw [hd]
    show K (.tuple ⟨[(g'.v 6), (g'.v 7)]⟩) h'
    rw [hg6, hg7]
    exact hq
  | _ => exact hq
end Sx.r21_Cut

/-! ### tympan/tympanlaw21.known -/
namespace Sx.l21_known
noncomputable def code : Code := bodyOf Tryd.f9
abbrev T0 := Bool → H → Prop
def E0 (g : Env) (x0 : Bool) : Prop := g.v 0 = (.bool x0) ∧ g.ds = []
def D0 (K : T0) (g : Env) (h : H) : Prop := nilDs g.ds (vBool (g.v 0) fun b1 => K b1 h)
theorem D0_ok {K : T0} {g : Env} {h : H} (hq : D0 K g h) : ∃ (x0 : Bool), E0 g x0 ∧ K x0 h := by
  obtain ⟨hd, hq⟩ := nilDs_ok hq
  obtain ⟨y3, e2, q4⟩ := vBool_ok hq
  exact ⟨y3, ⟨e2, hd⟩, q4⟩
def Q0 (Kn : T0) (Kr : T0) : XPost
  | .normal, g, h => D0 Kn g h
  | .ret, g, h => D0 Kr g h
  | _, _, _ => False
abbrev T1 := H → Prop
def E1 (g : Env)  : Prop := g.ds = []
def D1 (K : T1) (g : Env) (h : H) : Prop := nilDs g.ds (K h)
theorem D1_ok {K : T1} {g : Env} {h : H} (hq : D1 K g h) : E1 g  ∧ K  h := by
  obtain ⟨hd, hq⟩ := nilDs_ok hq
  skip
  exact ⟨hd, hq⟩
abbrev n1  (Kn : T0) (Kr : T0) (h : H) : Prop :=
  HCalls Tryd.prog 7 ⟨[(S ([9, 120] : List UInt8)), (.int .i64 (0 : Int)), (.int .i64 (1 : Int))]⟩ h fun v5 h6 => vTup v5 fun l7 => uncons l7 fun e8 l9 => vStr e8 fun s10 => uncons l9 fun e11 l12 => vInt .i64 e11 fun i13 => unnil l12 (HCalls Tryd.prog 10 ⟨[(S ([32, 9, 120] : List UInt8)), (.int .i64 (0 : Int))]⟩ h6 fun v14 h15 => vInt .i64 v14 fun i16 => Spl (i16 = (4 : Int)) (HCalls Tryd.prog 10 ⟨[(S ([9] : List UInt8)), (.int .i64 (2 : Int))]⟩ h15 fun v17 h18 => vInt .i64 v17 fun i19 => Spl (i19 = (2 : Int)) (Spl (s10 = ([32, 32, 32, 120] : List UInt8)) (Spl (i13 = (1 : Int)) (HCalls Tryd.prog 12 ⟨[(S ([] : List UInt8))]⟩ h18 fun v20 h21 => vBool v20 fun b22 => cond b22 (HCalls Tryd.prog 14 ⟨[(S ([32, 97, 9] : List UInt8))]⟩ h21 fun v23 h24 => vStr v23 fun s25 => Spl (s25 = ([97] : List UInt8)) (Kr true h24) (Kr false h24)) (Kr false h21)) (Kr false h18)) (Kr false h18)) (Kr false h18)) (Kr false h15))
theorem n1_ok  (Kn : T0) (Kr : T0) (g : Env) (hg : E1 g ) (h : H) (hS : n1  Kn Kr h) : wpC none Tryd.prog 28 code (Q0 Kn Kr) g h := by
  have hds : g.ds = [] := hg
  refine wpC_of_wpx (by kernel_rfl) (by kernel_rfl) (g' := ⟨g.v, []⟩) (by rw [env_ds hds]) ?_
  have e : (n1  Kn Kr h) = wpx none Tryd.prog 28 code (Q0 Kn Kr) (⟨g.v, []⟩) h := by kernel_rfl
  exact e ▸ hS
/-- WHAT tympan/tympanlaw21.known ASKS -/
abbrev asks  (K : Value → H → Prop) (h : H) : Prop := n1  (fun y0 h => K (.bool y0) h) (fun y0 h => K (.bool y0) h) h
theorem ok  (K : Value → H → Prop) (h : H) (hS : asks  K h) : HCalls Tryd.prog 9 ⟨[]⟩ h K := by
  refine calls_of_wpC (c := code) Tryd.func9 (by kernel_rfl) (Nat.le_of_ble_eq_true (by kernel_rfl)) ?_
  refine (n1_ok  (fun y0 h => K (.bool y0) h) (fun y0 h => K (.bool y0) h) (env0 []) rfl h hS).mono ?_
  intro e g' h' hq
  cases e with
  | normal =>
    have hq : D0 (fun y0 h => K (.bool y0) h) g' h' := hq
    obtain ⟨y0, ⟨hg0, hd⟩, hq⟩ := D0_ok hq
    show leaveX g'.ds h' _
    rw [hd]
    show K (g'.v 0) h'
    rw [hg0]
    exact hq
  | ret =>
    have hq : D0 (fun y0 h => K (.bool y0) h) g' h' := hq
    obtain ⟨y0, ⟨hg0, hd⟩, hq⟩ := D0_ok hq
    show leaveX g'.ds h' _
    rw [hd]
    show K (g'.v 0) h'
    rw [hg0]
    exact hq
  | _ => exact hq
end Sx.l21_known

/-! ### tympan/cols.Width -/
namespace Sx.cols_Width
noncomputable def code : Code := bodyOf Tryd.f10
abbrev T0 := Int → H → Prop
def E0 (g : Env) (x4 : Int) : Prop := g.v 4 = (.int .i64 x4) ∧ g.ds = []
def D0 (K : T0) (g : Env) (h : H) : Prop := nilDs g.ds (vInt .i64 (g.v 4) fun i1 => K i1 h)
theorem D0_ok {K : T0} {g : Env} {h : H} (hq : D0 K g h) : ∃ (x4 : Int), E0 g x4 ∧ K x4 h := by
  obtain ⟨hd, hq⟩ := nilDs_ok hq
  obtain ⟨y3, e2, q4⟩ := vInt_ok hq
  exact ⟨y3, ⟨e2, hd⟩, q4⟩
def Q0 (Kn : T0) (Kr : T0) : XPost
  | .normal, g, h => D0 Kn g h
  | .ret, g, h => D0 Kr g h
  | _, _, _ => False
abbrev T1 := (List UInt8) → Int → H → Prop
def E1 (g : Env) (x0 : List UInt8) (x1 : Int) : Prop := g.v 0 = (S x0) ∧ g.v 1 = (.int .i64 x1) ∧ g.ds = []
def D1 (K : T1) (g : Env) (h : H) : Prop := nilDs g.ds (vStr (g.v 0) fun s5 => vInt .i64 (g.v 1) fun i6 => K s5 i6 h)
theorem D1_ok {K : T1} {g : Env} {h : H} (hq : D1 K g h) : ∃ (x0 : List UInt8) (x1 : Int), E1 g x0 x1 ∧ K x0 x1 h := by
  obtain ⟨hd, hq⟩ := nilDs_ok hq
  obtain ⟨y8, e7, q9⟩ := vStr_ok hq
  obtain ⟨y11, e10, q12⟩ := vInt_ok q9
  exact ⟨y8, y11, ⟨e7, e10, hd⟩, q12⟩
abbrev n1 (x0 : List UInt8) (x1 : Int) (Kn : T0) (Kr : T0) (h : H) : Prop :=
  newx h ⟨[(.int .i64 (if (0 : Int) > x1 then (0 : Int) else x1))]⟩ 32 fun a13 h14 => HCalls Tryd.prog 16 ⟨[(S x0), (.func (.func 18) ⟨[(.pointer (some a13))]⟩ ⟨[]⟩)]⟩ h14 fun v15 h16 => vInt .i64 v15 fun i17 => ∃ i18, cell h16 (a13.add 0) = some (.int .i64 i18) ∧ (Rng .i64 (i18 - (if (0 : Int) > x1 then (0 : Int) else x1)) ∧ (Kr (i18 - (if (0 : Int) > x1 then (0 : Int) else x1)) h16))
theorem n1_ok (x0 : List UInt8) (x1 : Int) (Kn : T0) (Kr : T0) (g : Env) (hg : E1 g x0 x1) (h : H) (hS : n1 x0 x1 Kn Kr h) : wpC none Tryd.prog 21 code (Q0 Kn Kr) g h := by
  obtain ⟨hg0, hg1, hds⟩ := hg
  refine wpC_of_wpx (by kernel_rfl) (by kernel_rfl) (g' := ((⟨g.v, []⟩ : Env).upd (some 0) (S x0)).upd (some 1) (.int .i64 x1)) (by rw [env_ds hds, upd_self hg0, upd_self hg1]) ?_
  have e : (n1 x0 x1 Kn Kr h) = wpx none Tryd.prog 21 code (Q0 Kn Kr) (((⟨g.v, []⟩ : Env).upd (some 0) (S x0)).upd (some 1) (.int .i64 x1)) h := by kernel_rfl
  exact e ▸ hS
/-- WHAT tympan/cols.Width ASKS -/
abbrev asks (x0 : List UInt8) (x1 : Int) (K : Value → H → Prop) (h : H) : Prop := n1 x0 x1 (fun y4 h => K (.int .i64 y4) h) (fun y4 h => K (.int .i64 y4) h) h
theorem ok (x0 : List UInt8) (x1 : Int) (K : Value → H → Prop) (h : H) (hS : asks x0 x1 K h) : HCalls Tryd.prog 10 ⟨[(S x0), (.int .i64 x1)]⟩ h K := by
  refine calls_of_wpC (c := code) Tryd.func10 (by kernel_rfl) (Nat.le_of_ble_eq_true (by kernel_rfl)) ?_
  refine (n1_ok x0 x1 (fun y4 h => K (.int .i64 y4) h) (fun y4 h => K (.int .i64 y4) h) (env0 [(S x0), (.int .i64 x1)]) ⟨rfl, rfl, rfl⟩ h hS).mono ?_
  intro e g' h' hq
  cases e with
  | normal =>
    have hq : D0 (fun y4 h => K (.int .i64 y4) h) g' h' := hq
    obtain ⟨y4, ⟨hg4, hd⟩, hq⟩ := D0_ok hq
    show leaveX g'.ds h' _
    rw [hd]
    show K (g'.v 4) h'
    rw [hg4]
    exact hq
  | ret =>
    have hq : D0 (fun y4 h => K (.int .i64 y4) h) g' h' := hq
    obtain ⟨y4, ⟨hg4, hd⟩, hq⟩ := D0_ok hq
    show leaveX g'.ds h' _
    rw [hd]
    show K (g'.v 4) h'
    rw [hg4]
    exact hq
  | _ => exact hq
end Sx.cols_Width

/-! ### tympan/tympanref21.Width -/
namespace Sx.r21_Width
noncomputable def code : Code := bodyOf Tryd.f11
abbrev T0 := Int → H → Prop
def E0 (g : Env) (x4 : Int) : Prop := g.v 4 = (.int .i64 x4) ∧ g.ds = []
def D0 (K : T0) (g : Env) (h : H) : Prop := nilDs g.ds (vInt .i64 (g.v 4) fun i1 => K i1 h)
theorem D0_ok {K : T0} {g : Env} {h : H} (hq : D0 K g h) : ∃ (x4 : Int), E0 g x4 ∧ K x4 h := by
  obtain ⟨hd, hq⟩ := nilDs_ok hq
  obtain ⟨y3, e2, q4⟩ := vInt_ok hq
  exact ⟨y3, ⟨e2, hd⟩, q4⟩
def Q0 (Kn : T0) (Kr : T0) : XPost
  | .normal, g, h => D0 Kn g h
  | .ret, g, h => D0 Kr g h
  | _, _, _ => False
abbrev T1 := (List UInt8) → Int → H → Prop
def E1 (g : Env) (x0 : List UInt8) (x1 : Int) : Prop := g.v 0 = (S x0) ∧ g.v 1 = (.int .i64 x1) ∧ g.ds = []
def D1 (K : T1) (g : Env) (h : H) : Prop := nilDs g.ds (vStr (g.v 0) fun s5 => vInt .i64 (g.v 1) fun i6 => K s5 i6 h)
theorem D1_ok {K : T1} {g : Env} {h : H} (hq : D1 K g h) : ∃ (x0 : List UInt8) (x1 : Int), E1 g x0 x1 ∧ K x0 x1 h := by
  obtain ⟨hd, hq⟩ := nilDs_ok hq
  obtain ⟨y8, e7, q9⟩ := vStr_ok hq
  obtain ⟨y11, e10, q12⟩ := vInt_ok q9
  exact ⟨y8, y11, ⟨e7, e10, hd⟩, q12⟩
noncomputable def n1_c1 : Code := cFst code
noncomputable def n1_c2 : Code := cSnd code
noncomputable def n2_c1 : Code := cFst n1_c2
noncomputable def n2_c2 : Code := cSnd n1_c2
noncomputable def n3_c1 : Code := cFst n2_c2
noncomputable def n3_c2 : Code := cSnd n2_c2
abbrev T2 := (List UInt8) → Int → Int → H → Prop
def E2 (g : Env) (x0 : List UInt8) (x1 : Int) (x5 : Int) : Prop := g.v 0 = (S x0) ∧ g.v 1 = (.int .i64 x1) ∧ g.v 5 = (.int .i64 x5) ∧ g.ds = []
def D2 (K : T2) (g : Env) (h : H) : Prop := nilDs g.ds (vStr (g.v 0) fun s13 => vInt .i64 (g.v 1) fun i14 => vInt .i64 (g.v 5) fun i15 => K s13 i14 i15 h)
theorem D2_ok {K : T2} {g : Env} {h : H} (hq : D2 K g h) : ∃ (x0 : List UInt8) (x1 : Int) (x5 : Int), E2 g x0 x1 x5 ∧ K x0 x1 x5 h := by
  obtain ⟨hd, hq⟩ := nilDs_ok hq
  obtain ⟨y17, e16, q18⟩ := vStr_ok hq
  obtain ⟨y20, e19, q21⟩ := vInt_ok q18
  obtain ⟨y23, e22, q24⟩ := vInt_ok q21
  exact ⟨y17, y20, y23, ⟨e16, e19, e22, hd⟩, q24⟩
noncomputable def n4_c1 : Code := cFst n3_c2
noncomputable def n4_c2 : Code := cSnd n3_c2
abbrev T3 := (List UInt8) → Int → Int → Int → H → Prop
def E3 (g : Env) (x0 : List UInt8) (x1 : Int) (x5 : Int) (x6 : Int) : Prop := g.v 0 = (S x0) ∧ g.v 1 = (.int .i64 x1) ∧ g.v 5 = (.int .i64 x5) ∧ g.v 6 = (.int .i64 x6) ∧ g.ds = []
def D3 (K : T3) (g : Env) (h : H) : Prop := nilDs g.ds (vStr (g.v 0) fun s25 => vInt .i64 (g.v 1) fun i26 => vInt .i64 (g.v 5) fun i27 => vInt .i64 (g.v 6) fun i28 => K s25 i26 i27 i28 h)
theorem D3_ok {K : T3} {g : Env} {h : H} (hq : D3 K g h) : ∃ (x0 : List UInt8) (x1 : Int) (x5 : Int) (x6 : Int), E3 g x0 x1 x5 x6 ∧ K x0 x1 x5 x6 h := by
  obtain ⟨hd, hq⟩ := nilDs_ok hq
  obtain ⟨y30, e29, q31⟩ := vStr_ok hq
  obtain ⟨y33, e32, q34⟩ := vInt_ok q31
  obtain ⟨y36, e35, q37⟩ := vInt_ok q34
  obtain ⟨y39, e38, q40⟩ := vInt_ok q37
  exact ⟨y30, y33, y36, y39, ⟨e29, e32, e35, e38, hd⟩, q40⟩
noncomputable def n5_c1 : Code := cFst n4_c2
noncomputable def n5_c2 : Code := cSnd n4_c2
abbrev T4 := Int → Int → H → Prop
def E4 (g : Env) (x1 : Int) (x5 : Int) : Prop := g.v 1 = (.int .i64 x1) ∧ g.v 5 = (.int .i64 x5) ∧ g.ds = []
def D4 (K : T4) (g : Env) (h : H) : Prop := nilDs g.ds (vInt .i64 (g.v 1) fun i41 => vInt .i64 (g.v 5) fun i42 => K i41 i42 h)
theorem D4_ok {K : T4} {g : Env} {h : H} (hq : D4 K g h) : ∃ (x1 : Int) (x5 : Int), E4 g x1 x5 ∧ K x1 x5 h := by
  obtain ⟨hd, hq⟩ := nilDs_ok hq
  obtain ⟨y44, e43, q45⟩ := vInt_ok hq
  obtain ⟨y47, e46, q48⟩ := vInt_ok q45
  exact ⟨y44, y47, ⟨e43, e46, hd⟩, q48⟩
abbrev n6 (x1 : Int) (x5 : Int) (Kn : T0) (Kr : T0) (h : H) : Prop :=
  Rng .i64 (x5 - x1) ∧ (Kr (x5 - x1) h)
theorem n6_ok (x1 : Int) (x5 : Int) (Kn : T0) (Kr : T0) (g : Env) (hg : E4 g x1 x5) (h : H) (hS : n6 x1 x5 Kn Kr h) : wpC none Tryd.prog 26 n5_c2 (Q0 Kn Kr) g h := by
  obtain ⟨hg1, hg5, hds⟩ := hg
  refine wpC_of_wpx (by kernel_rfl) (by kernel_rfl) (g' := ((⟨g.v, []⟩ : Env).upd (some 1) (.int .i64 x1)).upd (some 5) (.int .i64 x5)) (by rw [env_ds hds, upd_self hg1, upd_self hg5]) ?_
  have e : (n6 x1 x5 Kn Kr h) = wpx none Tryd.prog 26 n5_c2 (Q0 Kn Kr) (((⟨g.v, []⟩ : Env).upd (some 1) (.int .i64 x1)).upd (some 5) (.int .i64 x5)) h := by kernel_rfl
  exact e ▸ hS
def Q1 (Kn : T4) (Kr : T0) : XPost
  | .normal, g, h => D4 Kn g h
  | .ret, g, h => D0 Kr g h
  | _, _, _ => False
noncomputable def n7_c1 : Code := cFst n5_c1
noncomputable def n7_c2 : Code := cSnd n5_c1
abbrev T5 := (List UInt8) → Int → Int → Int → Int → H → Prop
def E5 (g : Env) (x0 : List UInt8) (x1 : Int) (x5 : Int) (x6 : Int) (x7 : Int) : Prop := g.v 0 = (S x0) ∧ g.v 1 = (.int .i64 x1) ∧ g.v 5 = (.int .i64 x5) ∧ g.v 6 = (.int .i64 x6) ∧ g.v 7 = (.int .i64 x7) ∧ g.ds = []
def D5 (K : T5) (g : Env) (h : H) : Prop := nilDs g.ds (vStr (g.v 0) fun s49 => vInt .i64 (g.v 1) fun i50 => vInt .i64 (g.v 5) fun i51 => vInt .i64 (g.v 6) fun i52 => vInt .i64 (g.v 7) fun i53 => K s49 i50 i51 i52 i53 h)
theorem D5_ok {K : T5} {g : Env} {h : H} (hq : D5 K g h) : ∃ (x0 : List UInt8) (x1 : Int) (x5 : Int) (x6 : Int) (x7 : Int), E5 g x0 x1 x5 x6 x7 ∧ K x0 x1 x5 x6 x7 h := by
  obtain ⟨hd, hq⟩ := nilDs_ok hq
  obtain ⟨y55, e54, q56⟩ := vStr_ok hq
  obtain ⟨y58, e57, q59⟩ := vInt_ok q56
  obtain ⟨y61, e60, q62⟩ := vInt_ok q59
  obtain ⟨y64, e63, q65⟩ := vInt_ok q62
  obtain ⟨y67, e66, q68⟩ := vInt_ok q65
  exact ⟨y55, y58, y61, y64, y67, ⟨e54, e57, e60, e63, e66, hd⟩, q68⟩
noncomputable def n8_c1 : Code := cFst n7_c2
def Q2 (Kn : T4) (Ke0 : T4) (Kr : T0) : XPost
  | .normal, g, h => D4 Kn g h
  | .ret, g, h => D0 Kr g h
  | .exit id, g, h => cond (Nat.beq id 0) (D4 Ke0 g h) (False)
  | _, _, _ => False
noncomputable def n9_c1 : Code := cFst n8_c1
def Q3 (Kn : T5) (Ke0 : T4) (Kr : T0) : XPost
  | .normal, g, h => D5 Kn g h
  | .ret, g, h => D0 Kr g h
  | .exit id, g, h => cond (Nat.beq id 0) (D4 Ke0 g h) (False)
  | _, _, _ => False
def n9_L (Kn : T4) (Ke0 : T4) (Kr : T0) : Nat → (List UInt8) → Int → Int → Int → Int → H → Prop
  | 0 => fun _ _ _ _ _ _ => False
  | N + 1 => fun x0 x1 x5 x6 x7 h => Spl (x7 < x6) ((0 ≤ x7 ∧ x7 < (x0.length : Int)) ∧ (HCalls Tryd.prog 21 ⟨[(.int .u8 ((List.getD x0 (Int.toNat x7) 0).toNat : Int)), (.int .i64 x5)]⟩ h fun v69 h70 => vInt .i64 v69 fun i71 => Rng .i64 (x7 + (1 : Int)) ∧ (n9_L Kn Ke0 Kr N x0 x1 i71 x6 (x7 + (1 : Int)) h70))) (Ke0 x1 x5 h)
abbrev n9 (x0 : List UInt8) (x1 : Int) (x5 : Int) (x6 : Int) (x7 : Int) (Kn : T4) (Ke0 : T4) (Kr : T0) (h : H) : Prop := ∃ N, n9_L Kn Ke0 Kr N x0 x1 x5 x6 x7 h
theorem n9_ok (x0 : List UInt8) (x1 : Int) (x5 : Int) (x6 : Int) (x7 : Int) (Kn : T4) (Ke0 : T4) (Kr : T0) (g : Env) (hg : E5 g x0 x1 x5 x6 x7) (h : H) (hS : n9 x0 x1 x5 x6 x7 Kn Ke0 Kr h) : wpC none Tryd.prog 26 n8_c1 (Q2 Kn Ke0 Kr) g h := by
  obtain ⟨N0, hS⟩ := hS
  refine wpC_loop' (x := n9_c1) (by kernel_rfl) (fun k g h => ∃ (x0 : List UInt8) (x1 : Int) (x5 : Int) (x6 : Int) (x7 : Int), E5 g x0 x1 x5 x6 x7 ∧ n9_L Kn Ke0 Kr k x0 x1 x5 x6 x7 h) (fun g h hr => ?_) (fun N g h hr => ?_) N0 ⟨x0, x1, x5, x6, x7, hg, hS⟩
  · obtain ⟨x0, x1, x5, x6, x7, hg, hS⟩ := hr
    exact hS.elim
  · obtain ⟨x0, x1, x5, x6, x7, hg, hS⟩ := hr
    have hw : wpC none Tryd.prog 26 n9_c1 (Q3 (fun z0 z1 z5 z6 z7 h => n9_L Kn Ke0 Kr N z0 z1 z5 z6 z7 h) Ke0 Kr) g h := by
      obtain ⟨hg0, hg1, hg5, hg6, hg7, hds⟩ := hg
      refine wpC_of_wpx (by kernel_rfl) (by kernel_rfl) (g' := (((((⟨g.v, []⟩ : Env).upd (some 0) (S x0)).upd (some 1) (.int .i64 x1)).upd (some 5) (.int .i64 x5)).upd (some 6) (.int .i64 x6)).upd (some 7) (.int .i64 x7)) (by rw [env_ds hds, upd_self hg0, upd_self hg1, upd_self hg5, upd_self hg6, upd_self hg7]) ?_
      have e : (n9_L Kn Ke0 Kr (N + 1) x0 x1 x5 x6 x7 h) = wpx none Tryd.prog 26 n9_c1 (Q3 (fun z0 z1 z5 z6 z7 h => n9_L Kn Ke0 Kr N z0 z1 z5 z6 z7 h) Ke0 Kr) ((((((⟨g.v, []⟩ : Env).upd (some 0) (S x0)).upd (some 1) (.int .i64 x1)).upd (some 5) (.int .i64 x5)).upd (some 6) (.int .i64 x6)).upd (some 7) (.int .i64 x7)) h := by kernel_rfl
      exact e ▸ hS
    refine hw.mono ?_
    intro e g' h' hq
    cases e with
    | normal => exact D5_ok (K := (fun z0 z1 z5 z6 z7 h => n9_L Kn Ke0 Kr N z0 z1 z5 z6 z7 h)) hq
    | _ => exact hq
abbrev n8 (x0 : List UInt8) (x1 : Int) (x5 : Int) (x6 : Int) (x7 : Int) (Kn : T4) (Kr : T0) (h : H) : Prop := n9 x0 x1 x5 x6 x7 Kn Kn Kr h
theorem n8_ok (x0 : List UInt8) (x1 : Int) (x5 : Int) (x6 : Int) (x7 : Int) (Kn : T4) (Kr : T0) (g : Env) (hg : E5 g x0 x1 x5 x6 x7) (h : H) (hS : n8 x0 x1 x5 x6 x7 Kn Kr h) : wpC none Tryd.prog 26 n7_c2 (Q1 Kn Kr) g h := by
  refine wpC_block' (id := 0) (x := n8_c1) (by kernel_rfl) (n9_ok x0 x1 x5 x6 x7 Kn Kn Kr g hg h hS) ?_
  intro e g' h' hq
  cases e <;> exact hq
def Q4 (Kn : T5) (Kr : T0) : XPost
  | .normal, g, h => D5 Kn g h
  | .ret, g, h => D0 Kr g h
  | _, _, _ => False
abbrev n7 (x0 : List UInt8) (x1 : Int) (x5 : Int) (x6 : Int) (Kn : T4) (Kr : T0) (h : H) : Prop :=
  n8 x0 x1 x5 x6 (0 : Int) Kn Kr h
theorem n7_ok (x0 : List UInt8) (x1 : Int) (x5 : Int) (x6 : Int) (Kn : T4) (Kr : T0) (g : Env) (hg : E3 g x0 x1 x5 x6) (h : H) (hS : n7 x0 x1 x5 x6 Kn Kr h) : wpC none Tryd.prog 26 n5_c1 (Q1 Kn Kr) g h := by
  obtain ⟨hg0, hg1, hg5, hg6, hds⟩ := hg
  refine wpC_seq' (x := n7_c1) (y := n7_c2) (Q' := (Q4 (fun z0 z1 z5 z6 z7 h => n8 z0 z1 z5 z6 z7 Kn Kr h) Kr)) (by kernel_rfl) ?_ ?_
  · refine wpC_of_wpx (by kernel_rfl) (by kernel_rfl) (g' := ((((⟨g.v, []⟩ : Env).upd (some 0) (S x0)).upd (some 1) (.int .i64 x1)).upd (some 5) (.int .i64 x5)).upd (some 6) (.int .i64 x6)) (by rw [env_ds hds, upd_self hg0, upd_self hg1, upd_self hg5, upd_self hg6]) ?_
    have e : (n7 x0 x1 x5 x6 Kn Kr h) = wpx none Tryd.prog 26 n7_c1 (Q4 (fun z0 z1 z5 z6 z7 h => n8 z0 z1 z5 z6 z7 Kn Kr h) Kr) (((((⟨g.v, []⟩ : Env).upd (some 0) (S x0)).upd (some 1) (.int .i64 x1)).upd (some 5) (.int .i64 x5)).upd (some 6) (.int .i64 x6)) h := by kernel_rfl
    exact e ▸ hS
  · intro e g' h' hq
    cases e with
    | normal =>
      have hq : D5 (fun z0 z1 z5 z6 z7 h => n8 z0 z1 z5 z6 z7 Kn Kr h) g' h' := hq
      obtain ⟨y0, y1, y5, y6, y7, hg', hq⟩ := D5_ok hq
      exact n8_ok y0 y1 y5 y6 y7 Kn Kr g' hg' h' hq
    | _ => exact hq
abbrev n5 (x0 : List UInt8) (x1 : Int) (x5 : Int) (x6 : Int) (Kn : T0) (Kr : T0) (h : H) : Prop := n7 x0 x1 x5 x6 (fun z1 z5 h => n6 z1 z5 Kn Kr h) Kr h
theorem n5_ok (x0 : List UInt8) (x1 : Int) (x5 : Int) (x6 : Int) (Kn : T0) (Kr : T0) (g : Env) (hg : E3 g x0 x1 x5 x6) (h : H) (hS : n5 x0 x1 x5 x6 Kn Kr h) : wpC none Tryd.prog 26 n4_c2 (Q0 Kn Kr) g h := by
  refine wpC_seq' (x := n5_c1) (y := n5_c2) (by kernel_rfl) (n7_ok x0 x1 x5 x6 (fun z1 z5 h => n6 z1 z5 Kn Kr h) Kr g hg h hS) ?_
  intro e g' h' hq
  cases e with
  | normal =>
    have hq : D4 (fun z1 z5 h => n6 z1 z5 Kn Kr h) g' h' := hq
    obtain ⟨y1, y5, hg', hq⟩ := D4_ok hq
    exact n6_ok y1 y5 Kn Kr g' hg' h' hq
  | _ => exact hq
def Q5 (Kn : T3) (Kr : T0) : XPost
  | .normal, g, h => D3 Kn g h
  | .ret, g, h => D0 Kr g h
  | _, _, _ => False
abbrev n4 (x0 : List UInt8) (x1 : Int) (x5 : Int) (Kn : T0) (Kr : T0) (h : H) : Prop :=
  HCalls Tryd.prog 22 ⟨[(S x0)]⟩ h fun v72 h73 => vInt .i64 v72 fun i74 => n5 x0 x1 x5 i74 Kn Kr h73
theorem n4_ok (x0 : List UInt8) (x1 : Int) (x5 : Int) (Kn : T0) (Kr : T0) (g : Env) (hg : E2 g x0 x1 x5) (h : H) (hS : n4 x0 x1 x5 Kn Kr h) : wpC none Tryd.prog 26 n3_c2 (Q0 Kn Kr) g h := by
  obtain ⟨hg0, hg1, hg5, hds⟩ := hg
  refine wpC_seq' (x := n4_c1) (y := n4_c2) (Q' := (Q5 (fun z0 z1 z5 z6 h => n5 z0 z1 z5 z6 Kn Kr h) Kr)) (by kernel_rfl) ?_ ?_
  · refine wpC_of_wpx (by kernel_rfl) (by kernel_rfl) (g' := (((⟨g.v, []⟩ : Env).upd (some 0) (S x0)).upd (some 1) (.int .i64 x1)).upd (some 5) (.int .i64 x5)) (by rw [env_ds hds, upd_self hg0, upd_self hg1, upd_self hg5]) ?_
    have e : (n4 x0 x1 x5 Kn Kr h) = wpx none Tryd.prog 26 n4_c1 (Q5 (fun z0 z1 z5 z6 h => n5 z0 z1 z5 z6 Kn Kr h) Kr) ((((⟨g.v, []⟩ : Env).upd (some 0) (S x0)).upd (some 1) (.int .i64 x1)).upd (some 5) (.int .i64 x5)) h := by kernel_rfl
    exact e ▸ hS
  · intro e g' h' hq
    cases e with
    | normal =>
      have hq : D3 (fun z0 z1 z5 z6 h => n5 z0 z1 z5 z6 Kn Kr h) g' h' := hq
      obtain ⟨y0, y1, y5, y6, hg', hq⟩ := D3_ok hq
      exact n5_ok y0 y1 y5 y6 Kn Kr g' hg' h' hq
    | _ => exact hq
def Q6 (Kn : T2) (Kr : T0) : XPost
  | .normal, g, h => D2 Kn g h
  | .ret, g, h => D0 Kr g h
  | _, _, _ => False
abbrev n3 (x0 : List UInt8) (x1 : Int) (Kn : T0) (Kr : T0) (h : H) : Prop :=
  n4 x0 x1 x1 Kn Kr h
theorem n3_ok (x0 : List UInt8) (x1 : Int) (Kn : T0) (Kr : T0) (g : Env) (hg : E1 g x0 x1) (h : H) (hS : n3 x0 x1 Kn Kr h) : wpC none Tryd.prog 26 n2_c2 (Q0 Kn Kr) g h := by
  obtain ⟨hg0, hg1, hds⟩ := hg
  refine wpC_seq' (x := n3_c1) (y := n3_c2) (Q' := (Q6 (fun z0 z1 z5 h => n4 z0 z1 z5 Kn Kr h) Kr)) (by kernel_rfl) ?_ ?_
  · refine wpC_of_wpx (by kernel_rfl) (by kernel_rfl) (g' := ((⟨g.v, []⟩ : Env).upd (some 0) (S x0)).upd (some 1) (.int .i64 x1)) (by rw [env_ds hds, upd_self hg0, upd_self hg1]) ?_
    have e : (n3 x0 x1 Kn Kr h) = wpx none Tryd.prog 26 n3_c1 (Q6 (fun z0 z1 z5 h => n4 z0 z1 z5 Kn Kr h) Kr) (((⟨g.v, []⟩ : Env).upd (some 0) (S x0)).upd (some 1) (.int .i64 x1)) h := by kernel_rfl
    exact e ▸ hS
  · intro e g' h' hq
    cases e with
    | normal =>
      have hq : D2 (fun z0 z1 z5 h => n4 z0 z1 z5 Kn Kr h) g' h' := hq
      obtain ⟨y0, y1, y5, hg', hq⟩ := D2_ok hq
      exact n4_ok y0 y1 y5 Kn Kr g' hg' h' hq
    | _ => exact hq
def Q7 (Kn : T1) (Kr : T0) : XPost
  | .normal, g, h => D1 Kn g h
  | .ret, g, h => D0 Kr g h
  | _, _, _ => False
abbrev n2 (x0 : List UInt8) (x1 : Int) (Kn : T0) (Kr : T0) (h : H) : Prop :=
  n3 x0 (if (0 : Int) > x1 then (0 : Int) else x1) Kn Kr h
theorem n2_ok (x0 : List UInt8) (x1 : Int) (Kn : T0) (Kr : T0) (g : Env) (hg : E1 g x0 x1) (h : H) (hS : n2 x0 x1 Kn Kr h) : wpC none Tryd.prog 26 n1_c2 (Q0 Kn Kr) g h := by
  obtain ⟨hg0, hg1, hds⟩ := hg
  refine wpC_seq' (x := n2_c1) (y := n2_c2) (Q' := (Q7 (fun z0 z1 h => n3 z0 z1 Kn Kr h) Kr)) (by kernel_rfl) ?_ ?_
  · refine wpC_of_wpx (by kernel_rfl) (by kernel_rfl) (g' := ((⟨g.v, []⟩ : Env).upd (some 0) (S x0)).upd (some 1) (.int .i64 x1)) (by rw [env_ds hds, upd_self hg0, upd_self hg1]) ?_
    have e : (n2 x0 x1 Kn Kr h) = wpx none Tryd.prog 26 n2_c1 (Q7 (fun z0 z1 h => n3 z0 z1 Kn Kr h) Kr) (((⟨g.v, []⟩ : Env).upd (some 0) (S x0)).upd (some 1) (.int .i64 x1)) h := by kernel_rfl
    exact e ▸ hS
  · intro e g' h' hq
    cases e with
    | normal =>
      have hq : D1 (fun z0 z1 h => n3 z0 z1 Kn Kr h) g' h' := hq
      obtain ⟨y0, y1, hg', hq⟩ := D1_ok hq
      exact n3_ok y0 y1 Kn Kr g' hg' h' hq
    | _ => exact hq
abbrev n1 (x0 : List UInt8) (x1 : Int) (Kn : T0) (Kr : T0) (h : H) : Prop :=
  n2 x0 x1 Kn Kr h
theorem n1_ok (x0 : List UInt8) (x1 : Int) (Kn : T0) (Kr : T0) (g : Env) (hg : E1 g x0 x1) (h : H) (hS : n1 x0 x1 Kn Kr h) : wpC none Tryd.prog 26 code (Q0 Kn Kr) g h := by
  obtain ⟨hg0, hg1, hds⟩ := hg
  refine wpC_seq' (x := n1_c1) (y := n1_c2) (Q' := (Q7 (fun z0 z1 h => n2 z0 z1 Kn Kr h) Kr)) (by kernel_rfl) ?_ ?_
  · refine wpC_of_wpx (by kernel_rfl) (by kernel_rfl) (g' := ((⟨g.v, []⟩ : Env).upd (some 0) (S x0)).upd (some 1) (.int .i64 x1)) (by rw [env_ds hds, upd_self hg0, upd_self hg1]) ?_
    have e : (n1 x0 x1 Kn Kr h) = wpx none Tryd.prog 26 n1_c1 (Q7 (fun z0 z1 h => n2 z0 z1 Kn Kr h) Kr) (((⟨g.v, []⟩ : Env).upd (some 0) (S x0)).upd (some 1) (.int .i64 x1)) h := by kernel_rfl
    exact e ▸ hS
  · intro e g' h' hq
    cases e with
    | normal =>
      have hq : D1 (fun z0 z1 h => n2 z0 z1 Kn Kr h) g' h' := hq
      obtain ⟨y0, y1, hg', hq⟩ := D1_ok hq
      exact n2_ok y0 y1 Kn Kr g' hg' h' hq
    | _ => exact hq
/-- WHAT tympan/tympanref21.Width ASKS -/
abbrev asks (x0 : List UInt8) (x1 : Int) (K : Value → H → Prop) (h : H) : Prop := n1 x0 x1 (fun y4 h => K (.int .i64 y4) h) (fun y4 h => K (.int .i64 y4) h) h
theorem ok (x0 : List UInt8) (x1 : Int) (K : Value → H → Prop) (h : H) (hS : asks x0 x1 K h) : HCalls Tryd.prog 11 ⟨[(S x0), (.int .i64 x1)]⟩ h K := by
  refine calls_of_wpC (c := code) Tryd.func11 (by kernel_rfl) (Nat.le_of_ble_eq_true (by kernel_rfl)) ?_
  refine (n1_ok x0 x1 (fun y4 h => K (.int .i64 y4) h) (fun y4 h => K (.int .i64 y4) h) (env0 [(S x0), (.int .i64 x1)]) ⟨rfl, rfl, rfl⟩ h hS).mono ?_
  intro e g' h' hq
  cases e with
  | normal =>
    have hq : D0 (fun y4 h => K (.int .i64 y4) h) g' h' := hq
    obtain ⟨y4, ⟨hg4, hd⟩, hq⟩ := D0_ok hq
    show leaveX g'.ds h' _
    rw [hd]
    show K (g'.v 4) h'
    rw [hg4]
    exact hq
  | ret =>
    have hq : D0 (fun y4 h => K (.int .i64 y4) h) g' h' := hq
    obtain ⟨y4, ⟨hg4, hd⟩, hq⟩ := D0_ok hq
    show leaveX g'.ds h' _
    rw [hd]
    show K (g'.v 4) h'
    rw [hg4]
    exact hq
  | _ => exact hq
end Sx.r21_Width

/-! ### tympan/cols.Blank -/
namespace Sx.cols_Blank
noncomputable def code : Code := bodyOf Tryd.f12
abbrev T0 := Bool → H → Prop
def E0 (g : Env) (x2 : Bool) : Prop := g.v 2 = (.bool x2) ∧ g.ds = []
def D0 (K : T0) (g : Env) (h : H) : Prop := nilDs g.ds (vBool (g.v 2) fun b1 => K b1 h)
theorem D0_ok {K : T0} {g : Env} {h : H} (hq : D0 K g h) : ∃ (x2 : Bool), E0 g x2 ∧ K x2 h := by
  obtain ⟨hd, hq⟩ := nilDs_ok hq
  obtain ⟨y3, e2, q4⟩ := vBool_ok hq
  exact ⟨y3, ⟨e2, hd⟩, q4⟩
def Q0 (Kn : T0) (Kr : T0) : XPost
  | .normal, g, h => D0 Kn g h
  | .ret, g, h => D0 Kr g h
  | _, _, _ => False
abbrev T1 := (List UInt8) → H → Prop
def E1 (g : Env) (x0 : List UInt8) : Prop := g.v 0 = (S x0) ∧ g.ds = []
def D1 (K : T1) (g : Env) (h : H) : Prop := nilDs g.ds (vStr (g.v 0) fun s5 => K s5 h)
theorem D1_ok {K : T1} {g : Env} {h : H} (hq : D1 K g h) : ∃ (x0 : List UInt8), E1 g x0 ∧ K x0 h := by
  obtain ⟨hd, hq⟩ := nilDs_ok hq
  obtain ⟨y7, e6, q8⟩ := vStr_ok hq
  exact ⟨y7, ⟨e6, hd⟩, q8⟩
abbrev n1 (x0 : List UInt8) (Kn : T0) (Kr : T0) (h : H) : Prop :=
  HCalls Tryd.prog 14 ⟨[(S x0)]⟩ h fun v9 h10 => vStr v9 fun s11 => Spl (s11 = ([] : List UInt8)) (Kr true h10) (Kr false h10)
theorem n1_ok (x0 : List UInt8) (Kn : T0) (Kr : T0) (g : Env) (hg : E1 g x0) (h : H) (hS : n1 x0 Kn Kr h) : wpC none Tryd.prog 6 code (Q0 Kn Kr) g h := by
  obtain ⟨hg0, hds⟩ := hg
  refine wpC_of_wpx (by kernel_rfl) (by kernel_rfl) (g' := (⟨g.v, []⟩ : Env).upd (some 0) (S x0)) (by rw [env_ds hds, upd_self hg0]) ?_
  have e : (n1 x0 Kn Kr h) = wpx none Tryd.prog 6 code (Q0 Kn Kr) ((⟨g.v, []⟩ : Env).upd (some 0) (S x0)) h := by kernel_rfl
  exact e ▸ hS
/-- WHAT tympan/cols.Blank ASKS -/
abbrev asks (x0 : List UInt8) (K : Value → H → Prop) (h : H) : Prop := n1 x0 (fun y2 h => K (.bool y2) h) (fun y2 h => K (.bool y2) h) h
theorem ok (x0 : List UInt8) (K : Value → H → Prop) (h : H) (hS : asks x0 K h) : HCalls Tryd.prog 12 ⟨[(S x0)]⟩ h K := by
  refine calls_of_wpC (c := code) Tryd.func12 (by kernel_rfl) (Nat.le_of_ble_eq_true (by kernel_rfl)) ?_
  refine (n1_ok x0 (fun y2 h => K (.bool y2) h) (fun y2 h => K (.bool y2) h) (env0 [(S x0)]) ⟨rfl, rfl⟩ h hS).mono ?_
  intro e g' h' hq
  cases e with
  | normal =>
    have hq : D0 (fun y2 h => K (.bool y2) h) g' h' := hq
    obtain ⟨y2, ⟨hg2, hd⟩, hq⟩ := D0_ok hq
    show leaveX g'.ds h' _
    rw [hd]
    show K (g'.v 2) h'
    rw [hg2]
    exact hq
  | ret =>
    have hq : D0 (fun y2 h => K (.bool y2) h) g' h' := hq
    obtain ⟨y2, ⟨hg2, hd⟩, hq⟩ := D0_ok hq
    show leaveX g'.ds h' _
    rw [hd]
    show K (g'.v 2) h'
    rw [hg2]
    exact hq
  | _ => exact hq
end Sx.cols_Blank

/-! ### tympan/tympanref21.Blank -/
namespace Sx.r21_Blank
noncomputable def code : Code := bodyOf Tryd.f13
abbrev T0 := Bool → H → Prop
def E0 (g : Env) (x2 : Bool) : Prop := g.v 2 = (.bool x2) ∧ g.ds = []
def D0 (K : T0) (g : Env) (h : H) : Prop := nilDs g.ds (vBool (g.v 2) fun b1 => K b1 h)
theorem D0_ok {K : T0} {g : Env} {h : H} (hq : D0 K g h) : ∃ (x2 : Bool), E0 g x2 ∧ K x2 h := by
  obtain ⟨hd, hq⟩ := nilDs_ok hq
  obtain ⟨y3, e2, q4⟩ := vBool_ok hq
  exact ⟨y3, ⟨e2, hd⟩, q4⟩
def Q0 (Kn : T0) (Kr : T0) : XPost
  | .normal, g, h => D0 Kn g h
  | .ret, g, h => D0 Kr g h
  | _, _, _ => False
abbrev T1 := (List UInt8) → H → Prop
def E1 (g : Env) (x0 : List UInt8) : Prop := g.v 0 = (S x0) ∧ g.ds = []
def D1 (K : T1) (g : Env) (h : H) : Prop := nilDs g.ds (vStr (g.v 0) fun s5 => K s5 h)
theorem D1_ok {K : T1} {g : Env} {h : H} (hq : D1 K g h) : ∃ (x0 : List UInt8), E1 g x0 ∧ K x0 h := by
  obtain ⟨hd, hq⟩ := nilDs_ok hq
  obtain ⟨y7, e6, q8⟩ := vStr_ok hq
  exact ⟨y7, ⟨e6, hd⟩, q8⟩
abbrev n1 (x0 : List UInt8) (Kn : T0) (Kr : T0) (h : H) : Prop :=
  HCalls Tryd.prog 22 ⟨[(S x0)]⟩ h fun v9 h10 => vInt .i64 v9 fun i11 => Spl (i11 = (x0.length : Int)) (Kr true h10) (Kr false h10)
theorem n1_ok (x0 : List UInt8) (Kn : T0) (Kr : T0) (g : Env) (hg : E1 g x0) (h : H) (hS : n1 x0 Kn Kr h) : wpC none Tryd.prog 8 code (Q0 Kn Kr) g h := by
  obtain ⟨hg0, hds⟩ := hg
  refine wpC_of_wpx (by kernel_rfl) (by kernel_rfl) (g' := (⟨g.v, []⟩ : Env).upd (some 0) (S x0)) (by rw [env_ds hds, upd_self hg0]) ?_
  have e : (n1 x0 Kn Kr h) = wpx none Tryd.prog 8 code (Q0 Kn Kr) ((⟨g.v, []⟩ : Env).upd (some 0) (S x0)) h := by kernel_rfl
  exact e ▸ hS
/-- WHAT tympan/tympanref21.Blank ASKS -/
abbrev asks (x0 : List UInt8) (K : Value → H → Prop) (h : H) : Prop := n1 x0 (fun y2 h => K (.bool y2) h) (fun y2 h => K (.bool y2) h) h
theorem ok (x0 : List UInt8) (K : Value → H → Prop) (h : H) (hS : asks x0 K h) : HCalls Tryd.prog 13 ⟨[(S x0)]⟩ h K := by
  refine calls_of_wpC (c := code) Tryd.func13 (by kernel_rfl) (Nat.le_of_ble_eq_true (by kernel_rfl)) ?_
  refine (n1_ok x0 (fun y2 h => K (.bool y2) h) (fun y2 h => K (.bool y2) h) (env0 [(S x0)]) ⟨rfl, rfl⟩ h hS).mono ?_
  intro e g' h' hq
  cases e with
  | normal =>
    have hq : D0 (fun y2 h => K (.bool y2) h) g' h' := hq
    obtain ⟨y2, ⟨hg2, hd⟩, hq⟩ := D0_ok hq
    show leaveX g'.ds h' _
    rw [hd]
    show K (g'.v 2) h'
    rw [hg2]
    exact hq
  | ret =>
    have hq : D0 (fun y2 h => K (.bool y2) h) g' h' := hq
    obtain ⟨y2, ⟨hg2, hd⟩, hq⟩ := D0_ok hq
    show leaveX g'.ds h' _
    rw [hd]
    show K (g'.v 2) h'
    rw [hg2]
    exact hq
  | _ => exact hq
end Sx.r21_Blank

/-! ### tympan/cols.Trim -/
namespace Sx.cols_Trim
noncomputable def code : Code := bodyOf Tryd.f14
abbrev T0 := (List UInt8) → H → Prop
def E0 (g : Env) (x2 : List UInt8) : Prop := g.v 2 = (S x2) ∧ g.ds = []
def D0 (K : T0) (g : Env) (h : H) : Prop := nilDs g.ds (vStr (g.v 2) fun s1 => K s1 h)
theorem D0_ok {K : T0} {g : Env} {h : H} (hq : D0 K g h) : ∃ (x2 : List UInt8), E0 g x2 ∧ K x2 h := by
  obtain ⟨hd, hq⟩ := nilDs_ok hq
  obtain ⟨y3, e2, q4⟩ := vStr_ok hq
  exact ⟨y3, ⟨e2, hd⟩, q4⟩
def Q0 (Kn : T0) (Kr : T0) : XPost
  | .normal, g, h => D0 Kn g h
  | .ret, g, h => D0 Kr g h
  | _, _, _ => False
abbrev T1 := (List UInt8) → H → Prop
def E1 (g : Env) (x0 : List UInt8) : Prop := g.v 0 = (S x0) ∧ g.ds = []
def D1 (K : T1) (g : Env) (h : H) : Prop := nilDs g.ds (vStr (g.v 0) fun s5 => K s5 h)
theorem D1_ok {K : T1} {g : Env} {h : H} (hq : D1 K g h) : ∃ (x0 : List UInt8), E1 g x0 ∧ K x0 h := by
  obtain ⟨hd, hq⟩ := nilDs_ok hq
  obtain ⟨y7, e6, q8⟩ := vStr_ok hq
  exact ⟨y7, ⟨e6, hd⟩, q8⟩
abbrev n1 (x0 : List UInt8) (Kn : T0) (Kr : T0) (h : H) : Prop :=
  HCalls Tryd.prog 23 ⟨[(S x0), (S ([32, 9] : List UInt8))]⟩ h fun v9 h10 => vStr v9 fun s11 => Kr s11 h10
theorem n1_ok (x0 : List UInt8) (Kn : T0) (Kr : T0) (g : Env) (hg : E1 g x0) (h : H) (hS : n1 x0 Kn Kr h) : wpC none Tryd.prog 5 code (Q0 Kn Kr) g h := by
  obtain ⟨hg0, hds⟩ := hg
  refine wpC_of_wpx (by kernel_rfl) (by kernel_rfl) (g' := (⟨g.v, []⟩ : Env).upd (some 0) (S x0)) (by rw [env_ds hds, upd_self hg0]) ?_
  have e : (n1 x0 Kn Kr h) = wpx none Tryd.prog 5 code (Q0 Kn Kr) ((⟨g.v, []⟩ : Env).upd (some 0) (S x0)) h := by kernel_rfl
  exact e ▸ hS
/-- WHAT tympan/cols.Trim ASKS -/
abbrev asks (x0 : List UInt8) (K : Value → H → Prop) (h : H) : Prop := n1 x0 (fun y2 h => K (S y2) h) (fun y2 h => K (S y2) h) h
theorem ok (x0 : List UInt8) (K : Value → H → Prop) (h : H) (hS : asks x0 K h) : HCalls Tryd.prog 14 ⟨[(S x0)]⟩ h K := by
  refine calls_of_wpC (c := code) Tryd.func14 (by kernel_rfl) (Nat.le_of_ble_eq_true (by kernel_rfl)) ?_
  refine (n1_ok x0 (fun y2 h => K (S y2) h) (fun y2 h => K (S y2) h) (env0 [(S x0)]) ⟨rfl, rfl⟩ h hS).mono ?_
  intro e g' h' hq
  cases e with
  | normal =>
    have hq : D0 (fun y2 h => K (S y2) h) g' h' := hq
    obtain ⟨y2, ⟨hg2, hd⟩, hq⟩ := D0_ok hq
    show leaveX g'.ds h' _
    rw [hd]
    show K (g'.v 2) h'
    rw [hg2]
    exact hq
  | ret =>
    have hq : D0 (fun y2 h => K (S y2) h) g' h' := hq
    obtain ⟨y2, ⟨hg2, hd⟩, hq⟩ := D0_ok hq
    show leaveX g'.ds h' _
    rw [hd]
    show K (g'.v 2) h'
    rw [hg2]
    exact hq
  | _ => exact hq
end Sx.cols_Trim

/-! ### tympan/tympanref21.Trim -/
namespace Sx.r21_Trim
noncomputable def code : Code := bodyOf Tryd.f15
abbrev T0 := (List UInt8) → H → Prop
def E0 (g : Env) (x2 : List UInt8) : Prop := g.v 2 = (S x2) ∧ g.ds = []
def D0 (K : T0) (g : Env) (h : H) : Prop := nilDs g.ds (vStr (g.v 2) fun s1 => K s1 h)
theorem D0_ok {K : T0} {g : Env} {h : H} (hq : D0 K g h) : ∃ (x2 : List UInt8), E0 g x2 ∧ K x2 h := by
  obtain ⟨hd, hq⟩ := nilDs_ok hq
  obtain ⟨y3, e2, q4⟩ := vStr_ok hq
  exact ⟨y3, ⟨e2, hd⟩, q4⟩
def Q0 (Kn : T0) (Kr : T0) : XPost
  | .normal, g, h => D0 Kn g h
  | .ret, g, h => D0 Kr g h
  | _, _, _ => False
abbrev T1 := (List UInt8) → H → Prop
def E1 (g : Env) (x0 : List UInt8) : Prop := g.v 0 = (S x0) ∧ g.ds = []
def D1 (K : T1) (g : Env) (h : H) : Prop := nilDs g.ds (vStr (g.v 0) fun s5 => K s5 h)
theorem D1_ok {K : T1} {g : Env} {h : H} (hq : D1 K g h) : ∃ (x0 : List UInt8), E1 g x0 ∧ K x0 h := by
  obtain ⟨hd, hq⟩ := nilDs_ok hq
  obtain ⟨y7, e6, q8⟩ := vStr_ok hq
  exact ⟨y7, ⟨e6, hd⟩, q8⟩
noncomputable def n1_c1 : Code := cFst code
noncomputable def n1_c2 : Code := cSnd code
noncomputable def n2_c1 : Code := cFst n1_c2
noncomputable def n2_c2 : Code := cSnd n1_c2
noncomputable def n3_c1 : Code := cFst n2_c2
noncomputable def n3_c2 : Code := cSnd n2_c2
abbrev n4 (x0 : List UInt8) (Kn : T0) (Kr : T0) (h : H) : Prop :=
  Kr x0 h
theorem n4_ok (x0 : List UInt8) (Kn : T0) (Kr : T0) (g : Env) (hg : E1 g x0) (h : H) (hS : n4 x0 Kn Kr h) : wpC none Tryd.prog 24 n3_c2 (Q0 Kn Kr) g h := by
  obtain ⟨hg0, hds⟩ := hg
  refine wpC_of_wpx (by kernel_rfl) (by kernel_rfl) (g' := (⟨g.v, []⟩ : Env).upd (some 0) (S x0)) (by rw [env_ds hds, upd_self hg0]) ?_
  have e : (n4 x0 Kn Kr h) = wpx none Tryd.prog 24 n3_c2 (Q0 Kn Kr) ((⟨g.v, []⟩ : Env).upd (some 0) (S x0)) h := by kernel_rfl
  exact e ▸ hS
def Q1 (Kn : T1) (Kr : T0) : XPost
  | .normal, g, h => D1 Kn g h
  | .ret, g, h => D0 Kr g h
  | _, _, _ => False
noncomputable def n5_c1 : Code := cFst n3_c1
def Q2 (Kn : T1) (Ke0 : T1) (Kr : T0) : XPost
  | .normal, g, h => D1 Kn g h
  | .ret, g, h => D0 Kr g h
  | .exit id, g, h => cond (Nat.beq id 0) (D1 Ke0 g h) (False)
  | _, _, _ => False
noncomputable def n6_c1 : Code := cFst n5_c1
def n6_L (Kn : T1) (Ke0 : T1) (Kr : T0) : Nat → (List UInt8) → H → Prop
  | 0 => fun _ _ => False
  | N + 1 => fun x0 h => Spl ((x0.length : Int) > (0 : Int)) (Rng .i64 ((x0.length : Int) - (1 : Int)) ∧ ((0 ≤ ((x0.length : Int) - (1 : Int)) ∧ ((x0.length : Int) - (1 : Int)) < (x0.length : Int)) ∧ (HCalls Tryd.prog 20 ⟨[(.int .u8 ((List.getD x0 (Int.toNat ((x0.length : Int) - (1 : Int))) 0).toNat : Int))]⟩ h fun v9 h10 => vBool v9 fun b11 => cond b11 (Rng .i64 ((x0.length : Int) - (1 : Int)) ∧ ((0 ≤ (0 : Int) ∧ (0 : Int) ≤ ((x0.length : Int) - (1 : Int)) ∧ ((x0.length : Int) - (1 : Int)) ≤ (x0.length : Int)) ∧ (n6_L Kn Ke0 Kr N (sub x0 (0 : Int) ((x0.length : Int) - (1 : Int))) h10))) (Ke0 x0 h10)))) (Ke0 x0 h)
abbrev n6 (x0 : List UInt8) (Kn : T1) (Ke0 : T1) (Kr : T0) (h : H) : Prop := ∃ N, n6_L Kn Ke0 Kr N x0 h
theorem n6_ok (x0 : List UInt8) (Kn : T1) (Ke0 : T1) (Kr : T0) (g : Env) (hg : E1 g x0) (h : H) (hS : n6 x0 Kn Ke0 Kr h) : wpC none Tryd.prog 24 n5_c1 (Q2 Kn Ke0 Kr) g h := by
  obtain ⟨N0, hS⟩ := hS
  refine wpC_loop' (x := n6_c1) (by kernel_rfl) (fun k g h => ∃ (x0 : List UInt8), E1 g x0 ∧ n6_L Kn Ke0 Kr k x0 h) (fun g h hr => ?_) (fun N g h hr => ?_) N0 ⟨x0, hg, hS⟩
  · obtain ⟨x0, hg, hS⟩ := hr
    exact hS.elim
  · obtain ⟨x0, hg, hS⟩ := hr
    have hw : wpC none Tryd.prog 24 n6_c1 (Q2 (fun z0 h => n6_L Kn Ke0 Kr N z0 h) Ke0 Kr) g h := by
      obtain ⟨hg0, hds⟩ := hg
      refine wpC_of_wpx (by kernel_rfl) (by kernel_rfl) (g' := (⟨g.v, []⟩ : Env).upd (some 0) (S x0)) (by rw [env_ds hds, upd_self hg0]) ?_
      have e : (n6_L Kn Ke0 Kr (N + 1) x0 h) = wpx none Tryd.prog 24 n6_c1 (Q2 (fun z0 h => n6_L Kn Ke0 Kr N z0 h) Ke0 Kr) ((⟨g.v, []⟩ : Env).upd (some 0) (S x0)) h := by kernel_rfl
      exact e ▸ hS
    refine hw.mono ?_
    intro e g' h' hq
    cases e with
    | normal => exact D1_ok (K := (fun z0 h => n6_L Kn Ke0 Kr N z0 h)) hq
    | _ => exact hq
abbrev n5 (x0 : List UInt8) (Kn : T1) (Kr : T0) (h : H) : Prop := n6 x0 Kn Kn Kr h
theorem n5_ok (x0 : List UInt8) (Kn : T1) (Kr : T0) (g : Env) (hg : E1 g x0) (h : H) (hS : n5 x0 Kn Kr h) : wpC none Tryd.prog 24 n3_c1 (Q1 Kn Kr) g h := by
  refine wpC_block' (id := 0) (x := n5_c1) (by kernel_rfl) (n6_ok x0 Kn Kn Kr g hg h hS) ?_
  intro e g' h' hq
  cases e <;> exact hq
abbrev n3 (x0 : List UInt8) (Kn : T0) (Kr : T0) (h : H) : Prop := n5 x0 (fun z0 h => n4 z0 Kn Kr h) Kr h
theorem n3_ok (x0 : List UInt8) (Kn : T0) (Kr : T0) (g : Env) (hg : E1 g x0) (h : H) (hS : n3 x0 Kn Kr h) : wpC none Tryd.prog 24 n2_c2 (Q0 Kn Kr) g h := by
  refine wpC_seq' (x := n3_c1) (y := n3_c2) (by kernel_rfl) (n5_ok x0 (fun z0 h => n4 z0 Kn Kr h) Kr g hg h hS) ?_
  intro e g' h' hq
  cases e with
  | normal =>
    have hq : D1 (fun z0 h => n4 z0 Kn Kr h) g' h' := hq
    obtain ⟨y0, hg', hq⟩ := D1_ok hq
    exact n4_ok y0 Kn Kr g' hg' h' hq
  | _ => exact hq
abbrev n2 (x0 : List UInt8) (Kn : T0) (Kr : T0) (h : H) : Prop :=
  HCalls Tryd.prog 22 ⟨[(S x0)]⟩ h fun v12 h13 => vInt .i64 v12 fun i14 => (0 ≤ i14 ∧ i14 ≤ (x0.length : Int) ∧ (x0.length : Int) ≤ (x0.length : Int)) ∧ (n3 (sub x0 i14 (x0.length : Int)) Kn Kr h13)
theorem n2_ok (x0 : List UInt8) (Kn : T0) (Kr : T0) (g : Env) (hg : E1 g x0) (h : H) (hS : n2 x0 Kn Kr h) : wpC none Tryd.prog 24 n1_c2 (Q0 Kn Kr) g h := by
  obtain ⟨hg0, hds⟩ := hg
  refine wpC_seq' (x := n2_c1) (y := n2_c2) (Q' := (Q1 (fun z0 h => n3 z0 Kn Kr h) Kr)) (by kernel_rfl) ?_ ?_
  · refine wpC_of_wpx (by kernel_rfl) (by kernel_rfl) (g' := (⟨g.v, []⟩ : Env).upd (some 0) (S x0)) (by rw [env_ds hds, upd_self hg0]) ?_
    have e : (n2 x0 Kn Kr h) = wpx none Tryd.prog 24 n2_c1 (Q1 (fun z0 h => n3 z0 Kn Kr h) Kr) ((⟨g.v, []⟩ : Env).upd (some 0) (S x0)) h := by kernel_rfl
    exact e ▸ hS
  · intro e g' h' hq
    cases e with
    | normal =>
      have hq : D1 (fun z0 h => n3 z0 Kn Kr h) g' h' := hq
      obtain ⟨y0, hg', hq⟩ := D1_ok hq
      exact n3_ok y0 Kn Kr g' hg' h' hq
    | _ => exact hq
abbrev n1 (x0 : List UInt8) (Kn : T0) (Kr : T0) (h : H) : Prop :=
  n2 x0 Kn Kr h
theorem n1_ok (x0 : List UInt8) (Kn : T0) (Kr : T0) (g : Env) (hg : E1 g x0) (h : H) (hS : n1 x0 Kn Kr h) : wpC none Tryd.prog 24 code (Q0 Kn Kr) g h := by
  obtain ⟨hg0, hds⟩ := hg
  refine wpC_seq' (x := n1_c1) (y := n1_c2) (Q' := (Q1 (fun z0 h => n2 z0 Kn Kr h) Kr)) (by kernel_rfl) ?_ ?_
  · refine wpC_of_wpx (by kernel_rfl) (by kernel_rfl) (g' := (⟨g.v, []⟩ : Env).upd (some 0) (S x0)) (by rw [env_ds hds, upd_self hg0]) ?_
    have e : (n1 x0 Kn Kr h) = wpx none Tryd.prog 24 n1_c1 (Q1 (fun z0 h => n2 z0 Kn Kr h) Kr) ((⟨g.v, []⟩ : Env).upd (some 0) (S x0)) h := by kernel_rfl
    exact e ▸ hS
  · intro e g' h' hq
    cases e with
    | normal =>
      have hq : D1 (fun z0 h => n2 z0 Kn Kr h) g' h' := hq
      obtain ⟨y0, hg', hq⟩ := D1_ok hq
      exact n2_ok y0 Kn Kr g' hg' h' hq
    | _ => exact hq
/-- WHAT tympan/tympanref21.Trim ASKS -/
abbrev asks (x0 : List UInt8) (K : Value → H → Prop) (h : H) : Prop := n1 x0 (fun y2 h => K (S y2) h) (fun y2 h => K (S y2) h) h
theorem ok (x0 : List UInt8) (K : Value → H → Prop) (h : H) (hS : asks x0 K h) : HCalls Tryd.prog 15 ⟨[(S x0)]⟩ h K := by
  refine calls_of_wpC (c := code) Tryd.func15 (by kernel_rfl) (Nat.le_of_ble_eq_true (by kernel_rfl)) ?_
  refine (n1_ok x0 (fun y2 h => K (S y2) h) (fun y2 h => K (S y2) h) (env0 [(S x0)]) ⟨rfl, rfl⟩ h hS).mono ?_
  intro e g' h' hq
  cases e with
  | normal =>
    have hq : D0 (fun y2 h => K (S y2) h) g' h' := hq
    obtain ⟨y2, ⟨hg2, hd⟩, hq⟩ := D0_ok hq
    show leaveX g'.ds h' _
    rw [hd]
    show K (g'.v 2) h'
    rw [hg2]
    exact hq
  | ret =>
    have hq : D0 (fun y2 h => K (S y2) h) g' h' := hq
    obtain ⟨y2, ⟨hg2, hd⟩, hq⟩ := D0_ok hq
    show leaveX g'.ds h' _
    rw [hd]
    show K (g'.v 2) h'
    rw [hg2]
    exact hq
  | _ => exact hq
end Sx.r21_Trim

/-! ### tympan/cols.take -/
namespace Sx.cols_take
noncomputable def code : Code := bodyOf Tryd.f16
abbrev T0 := Int → H → Prop
def E0 (g : Env) (x4 : Int) : Prop := g.v 4 = (.int .i64 x4) ∧ g.ds = []
def D0 (K : T0) (g : Env) (h : H) : Prop := nilDs g.ds (vInt .i64 (g.v 4) fun i1 => K i1 h)
theorem D0_ok {K : T0} {g : Env} {h : H} (hq : D0 K g h) : ∃ (x4 : Int), E0 g x4 ∧ K x4 h := by
  obtain ⟨hd, hq⟩ := nilDs_ok hq
  obtain ⟨y3, e2, q4⟩ := vInt_ok hq
  exact ⟨y3, ⟨e2, hd⟩, q4⟩
def Q0 (Kn : T0) (Kr : T0) : XPost
  | .normal, g, h => D0 Kn g h
  | .ret, g, h => D0 Kr g h
  | _, _, _ => False
abbrev T1 := (List UInt8) → Value → H → Prop
def E1 (g : Env) (x0 : List UInt8) (x1 : Value) : Prop := g.v 0 = (S x0) ∧ g.v 1 = x1 ∧ g.ds = []
def D1 (K : T1) (g : Env) (h : H) : Prop := nilDs g.ds (vStr (g.v 0) fun s5 => K s5 (g.v 1) h)
theorem D1_ok {K : T1} {g : Env} {h : H} (hq : D1 K g h) : ∃ (x0 : List UInt8) (x1 : Value), E1 g x0 x1 ∧ K x0 x1 h := by
  obtain ⟨hd, hq⟩ := nilDs_ok hq
  obtain ⟨y7, e6, q8⟩ := vStr_ok hq
  exact ⟨y7, (g.v 1), ⟨e6, rfl, hd⟩, q8⟩
noncomputable def n1_c1 : Code := cFst code
noncomputable def n1_c2 : Code := cSnd code
noncomputable def n2_c1 : Code := cFst n1_c2
noncomputable def n2_c2 : Code := cSnd n1_c2
abbrev T2 := (List UInt8) → H → Prop
def E2 (g : Env) (x0 : List UInt8) : Prop := g.v 0 = (S x0) ∧ g.ds = []
def D2 (K : T2) (g : Env) (h : H) : Prop := nilDs g.ds (vStr (g.v 0) fun s9 => K s9 h)
theorem D2_ok {K : T2} {g : Env} {h : H} (hq : D2 K g h) : ∃ (x0 : List UInt8), E2 g x0 ∧ K x0 h := by
  obtain ⟨hd, hq⟩ := nilDs_ok hq
  obtain ⟨y11, e10, q12⟩ := vStr_ok hq
  exact ⟨y11, ⟨e10, hd⟩, q12⟩
abbrev n3 (x0 : List UInt8) (Kn : T0) (Kr : T0) (h : H) : Prop :=
  Kr (x0.length : Int) h
theorem n3_ok (x0 : List UInt8) (Kn : T0) (Kr : T0) (g : Env) (hg : E2 g x0) (h : H) (hS : n3 x0 Kn Kr h) : wpC none Tryd.prog 21 n2_c2 (Q0 Kn Kr) g h := by
  obtain ⟨hg0, hds⟩ := hg
  refine wpC_of_wpx (by kernel_rfl) (by kernel_rfl) (g' := (⟨g.v, []⟩ : Env).upd (some 0) (S x0)) (by rw [env_ds hds, upd_self hg0]) ?_
  have e : (n3 x0 Kn Kr h) = wpx none Tryd.prog 21 n2_c2 (Q0 Kn Kr) ((⟨g.v, []⟩ : Env).upd (some 0) (S x0)) h := by kernel_rfl
  exact e ▸ hS
def Q1 (Kn : T2) (Kr : T0) : XPost
  | .normal, g, h => D2 Kn g h
  | .ret, g, h => D0 Kr g h
  | _, _, _ => False
noncomputable def n4_c1 : Code := cFst n2_c1
noncomputable def n4_c2 : Code := cSnd n2_c1
abbrev T3 := (List UInt8) → Value → Int → Int → H → Prop
def E3 (g : Env) (x0 : List UInt8) (x1 : Value) (x7 : Int) (x8 : Int) : Prop := g.v 0 = (S x0) ∧ g.v 1 = x1 ∧ g.v 7 = (.int .i64 x7) ∧ g.v 8 = (.int .i64 x8) ∧ g.ds = []
def D3 (K : T3) (g : Env) (h : H) : Prop := nilDs g.ds (vStr (g.v 0) fun s13 => vInt .i64 (g.v 7) fun i14 => vInt .i64 (g.v 8) fun i15 => K s13 (g.v 1) i14 i15 h)
theorem D3_ok {K : T3} {g : Env} {h : H} (hq : D3 K g h) : ∃ (x0 : List UInt8) (x1 : Value) (x7 : Int) (x8 : Int), E3 g x0 x1 x7 x8 ∧ K x0 x1 x7 x8 h := by
  obtain ⟨hd, hq⟩ := nilDs_ok hq
  obtain ⟨y17, e16, q18⟩ := vStr_ok hq
  obtain ⟨y20, e19, q21⟩ := vInt_ok q18
  obtain ⟨y23, e22, q24⟩ := vInt_ok q21
  exact ⟨y17, (g.v 1), y20, y23, ⟨e16, rfl, e19, e22, hd⟩, q24⟩
noncomputable def n5_c1 : Code := cFst n4_c2
def Q2 (Kn : T2) (Ke0 : T2) (Kr : T0) : XPost
  | .normal, g, h => D2 Kn g h
  | .ret, g, h => D0 Kr g h
  | .exit id, g, h => cond (Nat.beq id 0) (D2 Ke0 g h) (False)
  | _, _, _ => False
noncomputable def n6_c1 : Code := cFst n5_c1
def Q3 (Kn : T3) (Ke0 : T2) (Kr : T0) : XPost
  | .normal, g, h => D3 Kn g h
  | .ret, g, h => D0 Kr g h
  | .exit id, g, h => cond (Nat.beq id 0) (D2 Ke0 g h) (False)
  | _, _, _ => False
noncomputable def n7_c1 : Code := cFst n6_c1
noncomputable def n7_c2 : Code := cSnd n6_c1
abbrev T4 := (List UInt8) → Value → Int → Int → Bool → H → Prop
def E4 (g : Env) (x0 : List UInt8) (x1 : Value) (x7 : Int) (x8 : Int) (x9 : Bool) : Prop := g.v 0 = (S x0) ∧ g.v 1 = x1 ∧ g.v 7 = (.int .i64 x7) ∧ g.v 8 = (.int .i64 x8) ∧ g.v 9 = (.bool x9) ∧ g.ds = []
def D4 (K : T4) (g : Env) (h : H) : Prop := nilDs g.ds (vStr (g.v 0) fun s25 => vInt .i64 (g.v 7) fun i26 => vInt .i64 (g.v 8) fun i27 => vBool (g.v 9) fun b28 => K s25 (g.v 1) i26 i27 b28 h)
theorem D4_ok {K : T4} {g : Env} {h : H} (hq : D4 K g h) : ∃ (x0 : List UInt8) (x1 : Value) (x7 : Int) (x8 : Int) (x9 : Bool), E4 g x0 x1 x7 x8 x9 ∧ K x0 x1 x7 x8 x9 h := by
  obtain ⟨hd, hq⟩ := nilDs_ok hq
  obtain ⟨y30, e29, q31⟩ := vStr_ok hq
  obtain ⟨y33, e32, q34⟩ := vInt_ok q31
  obtain ⟨y36, e35, q37⟩ := vInt_ok q34
  obtain ⟨y39, e38, q40⟩ := vBool_ok q37
  exact ⟨y30, (g.v 1), y33, y36, y39, ⟨e29, rfl, e32, e35, e38, hd⟩, q40⟩
abbrev n8 (x0 : List UInt8) (x1 : Value) (x7 : Int) (x8 : Int) (x9 : Bool) (Kn : T3) (Ke0 : T2) (Kr : T0) (h : H) : Prop :=
  cond x9 ((0 ≤ x8 ∧ x8 < (x0.length : Int)) ∧ (CallV Tryd.prog 4 x1 ⟨[(.int .u8 ((List.getD x0 (Int.toNat x8) 0).toNat : Int))]⟩ h fun v41 h42 => vBool v41 fun b43 => cond b43 (Rng .i64 (x8 + (1 : Int)) ∧ (Kn x0 x1 x7 (x8 + (1 : Int)) h42)) (Kr x8 h42))) (Ke0 x0 h)
theorem n8_ok (x0 : List UInt8) (x1 : Value) (x7 : Int) (x8 : Int) (x9 : Bool) (Kn : T3) (Ke0 : T2) (Kr : T0) (g : Env) (hg : E4 g x0 x1 x7 x8 x9) (h : H) (hS : n8 x0 x1 x7 x8 x9 Kn Ke0 Kr h) : wpC none Tryd.prog 21 n7_c2 (Q3 Kn Ke0 Kr) g h := by
  obtain ⟨hg0, hg1, hg7, hg8, hg9, hds⟩ := hg
  refine wpC_of_wpx (by kernel_rfl) (by kernel_rfl) (g' := (((((⟨g.v, []⟩ : Env).upd (some 0) (S x0)).upd (some 1) x1).upd (some 7) (.int .i64 x7)).upd (some 8) (.int .i64 x8)).upd (some 9) (.bool x9)) (by rw [env_ds hds, upd_self hg0, upd_self hg1, upd_self hg7, upd_self hg8, upd_self hg9]) ?_
  have e : (n8 x0 x1 x7 x8 x9 Kn Ke0 Kr h) = wpx none Tryd.prog 21 n7_c2 (Q3 Kn Ke0 Kr) ((((((⟨g.v, []⟩ : Env).upd (some 0) (S x0)).upd (some 1) x1).upd (some 7) (.int .i64 x7)).upd (some 8) (.int .i64 x8)).upd (some 9) (.bool x9)) h := by kernel_rfl
  exact e ▸ hS
def Q4 (Kn : T4) (Ke0 : T2) (Kr : T0) : XPost
  | .normal, g, h => D4 Kn g h
  | .ret, g, h => D0 Kr g h
  | .exit id, g, h => cond (Nat.beq id 0) (D2 Ke0 g h) (False)
  | _, _, _ => False
abbrev n7 (x0 : List UInt8) (x1 : Value) (x7 : Int) (x8 : Int) (Kn : T3) (Ke0 : T2) (Kr : T0) (h : H) : Prop :=
  Spl (x8 < x7) (n8 x0 x1 x7 x8 true Kn Ke0 Kr h) (n8 x0 x1 x7 x8 false Kn Ke0 Kr h)
theorem n7_ok (x0 : List UInt8) (x1 : Value) (x7 : Int) (x8 : Int) (Kn : T3) (Ke0 : T2) (Kr : T0) (g : Env) (hg : E3 g x0 x1 x7 x8) (h : H) (hS : n7 x0 x1 x7 x8 Kn Ke0 Kr h) : wpC none Tryd.prog 21 n6_c1 (Q3 Kn Ke0 Kr) g h := by
  obtain ⟨hg0, hg1, hg7, hg8, hds⟩ := hg
  refine wpC_seq' (x := n7_c1) (y := n7_c2) (Q' := (Q4 (fun z0 z1 z7 z8 z9 h => n8 z0 z1 z7 z8 z9 Kn Ke0 Kr h) Ke0 Kr)) (by kernel_rfl) ?_ ?_
  · refine wpC_of_wpx (by kernel_rfl) (by kernel_rfl) (g' := ((((⟨g.v, []⟩ : Env).upd (some 0) (S x0)).upd (some 1) x1).upd (some 7) (.int .i64 x7)).upd (some 8) (.int .i64 x8)) (by rw [env_ds hds, upd_self hg0, upd_self hg1, upd_self hg7, upd_self hg8]) ?_
    have e : (n7 x0 x1 x7 x8 Kn Ke0 Kr h) = wpx none Tryd.prog 21 n7_c1 (Q4 (fun z0 z1 z7 z8 z9 h => n8 z0 z1 z7 z8 z9 Kn Ke0 Kr h) Ke0 Kr) (((((⟨g.v, []⟩ : Env).upd (some 0) (S x0)).upd (some 1) x1).upd (some 7) (.int .i64 x7)).upd (some 8) (.int .i64 x8)) h := by kernel_rfl
    exact e ▸ hS
  · intro e g' h' hq
    cases e with
    | normal =>
      have hq : D4 (fun z0 z1 z7 z8 z9 h => n8 z0 z1 z7 z8 z9 Kn Ke0 Kr h) g' h' := hq
      obtain ⟨y0, y1, y7, y8, y9, hg', hq⟩ := D4_ok hq
      exact n8_ok y0 y1 y7 y8 y9 Kn Ke0 Kr g' hg' h' hq
    | _ => exact hq
def n6_L (Kn : T2) (Ke0 : T2) (Kr : T0) : Nat → (List UInt8) → Value → Int → Int → H → Prop
  | 0 => fun _ _ _ _ _ => False
  | N + 1 => fun x0 x1 x7 x8 h => n7 x0 x1 x7 x8 (fun z0 z1 z7 z8 h => n6_L Kn Ke0 Kr N z0 z1 z7 z8 h) Ke0 Kr h
abbrev n6 (x0 : List UInt8) (x1 : Value) (x7 : Int) (x8 : Int) (Kn : T2) (Ke0 : T2) (Kr : T0) (h : H) : Prop := ∃ N, n6_L Kn Ke0 Kr N x0 x1 x7 x8 h
theorem n6_ok (x0 : List UInt8) (x1 : Value) (x7 : Int) (x8 : Int) (Kn : T2) (Ke0 : T2) (Kr : T0) (g : Env) (hg : E3 g x0 x1 x7 x8) (h : H) (hS : n6 x0 x1 x7 x8 Kn Ke0 Kr h) : wpC none Tryd.prog 21 n5_c1 (Q2 Kn Ke0 Kr) g h := by
  obtain ⟨N0, hS⟩ := hS
  refine wpC_loop' (x := n6_c1) (by kernel_rfl) (fun k g h => ∃ (x0 : List UInt8) (x1 : Value) (x7 : Int) (x8 : Int), E3 g x0 x1 x7 x8 ∧ n6_L Kn Ke0 Kr k x0 x1 x7 x8 h) (fun g h hr => ?_) (fun N g h hr => ?_) N0 ⟨x0, x1, x7, x8, hg, hS⟩
  · obtain ⟨x0, x1, x7, x8, hg, hS⟩ := hr
    exact hS.elim
  · obtain ⟨x0, x1, x7, x8, hg, hS⟩ := hr
    refine (n7_ok x0 x1 x7 x8 (fun z0 z1 z7 z8 h => n6_L Kn Ke0 Kr N z0 z1 z7 z8 h) Ke0 Kr g hg h hS).mono ?_
    intro e g' h' hq
    cases e with
    | normal => exact D3_ok (K := (fun z0 z1 z7 z8 h => n6_L Kn Ke0 Kr N z0 z1 z7 z8 h)) hq
    | _ => exact hq
abbrev n5 (x0 : List UInt8) (x1 : Value) (x7 : Int) (x8 : Int) (Kn : T2) (Kr : T0) (h : H) : Prop := n6 x0 x1 x7 x8 Kn Kn Kr h
theorem n5_ok (x0 : List UInt8) (x1 : Value) (x7 : Int) (x8 : Int) (Kn : T2) (Kr : T0) (g : Env) (hg : E3 g x0 x1 x7 x8) (h : H) (hS : n5 x0 x1 x7 x8 Kn Kr h) : wpC none Tryd.prog 21 n4_c2 (Q1 Kn Kr) g h := by
  refine wpC_block' (id := 0) (x := n5_c1) (by kernel_rfl) (n6_ok x0 x1 x7 x8 Kn Kn Kr g hg h hS) ?_
  intro e g' h' hq
  cases e <;> exact hq
def Q5 (Kn : T3) (Kr : T0) : XPost
  | .normal, g, h => D3 Kn g h
  | .ret, g, h => D0 Kr g h
  | _, _, _ => False
abbrev n4 (x0 : List UInt8) (x1 : Value) (Kn : T2) (Kr : T0) (h : H) : Prop :=
  n5 x0 x1 (x0.length : Int) (0 : Int) Kn Kr h
theorem n4_ok (x0 : List UInt8) (x1 : Value) (Kn : T2) (Kr : T0) (g : Env) (hg : E1 g x0 x1) (h : H) (hS : n4 x0 x1 Kn Kr h) : wpC none Tryd.prog 21 n2_c1 (Q1 Kn Kr) g h := by
  obtain ⟨hg0, hg1, hds⟩ := hg
  refine wpC_seq' (x := n4_c1) (y := n4_c2) (Q' := (Q5 (fun z0 z1 z7 z8 h => n5 z0 z1 z7 z8 Kn Kr h) Kr)) (by kernel_rfl) ?_ ?_
  · refine wpC_of_wpx (by kernel_rfl) (by kernel_rfl) (g' := ((⟨g.v, []⟩ : Env).upd (some 0) (S x0)).upd (some 1) x1) (by rw [env_ds hds, upd_self hg0, upd_self hg1]) ?_
    have e : (n4 x0 x1 Kn Kr h) = wpx none Tryd.prog 21 n4_c1 (Q5 (fun z0 z1 z7 z8 h => n5 z0 z1 z7 z8 Kn Kr h) Kr) (((⟨g.v, []⟩ : Env).upd (some 0) (S x0)).upd (some 1) x1) h := by kernel_rfl
    exact e ▸ hS
  · intro e g' h' hq
    cases e with
    | normal =>
      have hq : D3 (fun z0 z1 z7 z8 h => n5 z0 z1 z7 z8 Kn Kr h) g' h' := hq
      obtain ⟨y0, y1, y7, y8, hg', hq⟩ := D3_ok hq
      exact n5_ok y0 y1 y7 y8 Kn Kr g' hg' h' hq
    | _ => exact hq
abbrev n2 (x0 : List UInt8) (x1 : Value) (Kn : T0) (Kr : T0) (h : H) : Prop := n4 x0 x1 (fun z0 h => n3 z0 Kn Kr h) Kr h
theorem n2_ok (x0 : List UInt8) (x1 : Value) (Kn : T0) (Kr : T0) (g : Env) (hg : E1 g x0 x1) (h : H) (hS : n2 x0 x1 Kn Kr h) : wpC none Tryd.prog 21 n1_c2 (Q0 Kn Kr) g h := by
  refine wpC_seq' (x := n2_c1) (y := n2_c2) (by kernel_rfl) (n4_ok x0 x1 (fun z0 h => n3 z0 Kn Kr h) Kr g hg h hS) ?_
  intro e g' h' hq
  cases e with
  | normal =>
    have hq : D2 (fun z0 h => n3 z0 Kn Kr h) g' h' := hq
    obtain ⟨y0, hg', hq⟩ := D2_ok hq
    exact n3_ok y0 Kn Kr g' hg' h' hq
  | _ => exact hq
def Q6 (Kn : T1) (Kr : T0) : XPost
  | .normal, g, h => D1 Kn g h
  | .ret, g, h => D0 Kr g h
  | _, _, _ => False
abbrev n1 (x0 : List UInt8) (x1 : Value) (Kn : T0) (Kr : T0) (h : H) : Prop :=
  n2 x0 x1 Kn Kr h
theorem n1_ok (x0 : List UInt8) (x1 : Value) (Kn : T0) (Kr : T0) (g : Env) (hg : E1 g x0 x1) (h : H) (hS : n1 x0 x1 Kn Kr h) : wpC none Tryd.prog 21 code (Q0 Kn Kr) g h := by
  obtain ⟨hg0, hg1, hds⟩ := hg
  refine wpC_seq' (x := n1_c1) (y := n1_c2) (Q' := (Q6 (fun z0 z1 h => n2 z0 z1 Kn Kr h) Kr)) (by kernel_rfl) ?_ ?_
  · refine wpC_of_wpx (by kernel_rfl) (by kernel_rfl) (g' := ((⟨g.v, []⟩ : Env).upd (some 0) (S x0)).upd (some 1) x1) (by rw [env_ds hds, upd_self hg0, upd_self hg1]) ?_
    have e : (n1 x0 x1 Kn Kr h) = wpx none Tryd.prog 21 n1_c1 (Q6 (fun z0 z1 h => n2 z0 z1 Kn Kr h) Kr) (((⟨g.v, []⟩ : Env).upd (some 0) (S x0)).upd (some 1) x1) h := by kernel_rfl
    exact e ▸ hS
  · intro e g' h' hq
    cases e with
    | normal =>
      have hq : D1 (fun z0 z1 h => n2 z0 z1 Kn Kr h) g' h' := hq
      obtain ⟨y0, y1, hg', hq⟩ := D1_ok hq
      exact n2_ok y0 y1 Kn Kr g' hg' h' hq
    | _ => exact hq
/-- WHAT tympan/cols.take ASKS -/
abbrev asks (x0 : List UInt8) (x1 : Value) (K : Value → H → Prop) (h : H) : Prop := n1 x0 x1 (fun y4 h => K (.int .i64 y4) h) (fun y4 h => K (.int .i64 y4) h) h
theorem ok (x0 : List UInt8) (x1 : Value) (K : Value → H → Prop) (h : H) (hS : asks x0 x1 K h) : HCalls Tryd.prog 16 ⟨[(S x0), x1]⟩ h K := by
  refine calls_of_wpC (c := code) Tryd.func16 (by kernel_rfl) (Nat.le_of_ble_eq_true (by kernel_rfl)) ?_
  refine (n1_ok x0 x1 (fun y4 h => K (.int .i64 y4) h) (fun y4 h => K (.int .i64 y4) h) (env0 [(S x0), x1]) ⟨rfl, rfl, rfl⟩ h hS).mono ?_
  intro e g' h' hq
  cases e with
  | normal =>
    have hq : D0 (fun y4 h => K (.int .i64 y4) h) g' h' := hq
    obtain ⟨y4, ⟨hg4, hd⟩, hq⟩ := D0_ok hq
    show leaveX g'.ds h' _
    rw [hd]
    show K (g'.v 4) h'
    rw [hg4]
    exact hq
  | ret =>
    have hq : D0 (fun y4 h => K (.int .i64 y4) h) g' h' := hq
    obtain ⟨y4, ⟨hg4, hd⟩, hq⟩ := D0_ok hq
    show leaveX g'.ds h' _
    rw [hd]
    show K (g'.v 4) h'
    rw [hg4]
    exact hq
  | _ => exact hq
end Sx.cols_take

/-! ### tympan/cols.Cut$1 -/
namespace Sx.cols_Cut_1
noncomputable def code : Code := bodyOf Tryd.f17
abbrev T0 := Bool → H → Prop
def E0 (g : Env) (x4 : Bool) : Prop := g.v 4 = (.bool x4) ∧ g.ds = []
def D0 (K : T0) (g : Env) (h : H) : Prop := nilDs g.ds (vBool (g.v 4) fun b1 => K b1 h)
theorem D0_ok {K : T0} {g : Env} {h : H} (hq : D0 K g h) : ∃ (x4 : Bool), E0 g x4 ∧ K x4 h := by
  obtain ⟨hd, hq⟩ := nilDs_ok hq
  obtain ⟨y3, e2, q4⟩ := vBool_ok hq
  exact ⟨y3, ⟨e2, hd⟩, q4⟩
def Q0 (Kn : T0) (Kr : T0) : XPost
  | .normal, g, h => D0 Kn g h
  | .ret, g, h => D0 Kr g h
  | _, _, _ => False
abbrev T1 := Int → Addr → Addr → H → Prop
def E1 (g : Env) (x0 : Int) (x1 : Addr) (x2 : Addr) : Prop := g.v 0 = (.int .u8 x0) ∧ g.v 1 = (.pointer (some x1)) ∧ g.v 2 = (.pointer (some x2)) ∧ g.ds = []
def D1 (K : T1) (g : Env) (h : H) : Prop := nilDs g.ds (vInt .u8 (g.v 0) fun i5 => vAddr (g.v 1) fun a6 => vAddr (g.v 2) fun a7 => K i5 a6 a7 h)
theorem D1_ok {K : T1} {g : Env} {h : H} (hq : D1 K g h) : ∃ (x0 : Int) (x1 : Addr) (x2 : Addr), E1 g x0 x1 x2 ∧ K x0 x1 x2 h := by
  obtain ⟨hd, hq⟩ := nilDs_ok hq
  obtain ⟨y9, e8, q10⟩ := vInt_ok hq
  obtain ⟨y12, e11, q13⟩ := vAddr_ok q10
  obtain ⟨y15, e14, q16⟩ := vAddr_ok q13
  exact ⟨y9, y12, y15, ⟨e8, e11, e14, hd⟩, q16⟩
abbrev n1 (x0 : Int) (x1 : Addr) (x2 : Addr) (Kn : T0) (Kr : T0) (h : H) : Prop :=
  ∃ p17, cell h x1 = some (.pointer p17) ∧ (vSome p17 fun a18 => ∃ i19, cell h (a18.add 0) = some (.int .i64 i19) ∧ (∃ i20, cell h x2 = some (.int .i64 i20) ∧ (Spl (i19 < i20) (∃ p21, cell h x1 = some (.pointer p21) ∧ (HCalls Tryd.prog 18 ⟨[(.pointer p21), (.int .u8 x0)]⟩ h fun v22 h23 => vBool v22 fun b24 => cond b24 (Kr true h23) (Kr false h23))) (Kr false h))))
theorem n1_ok (x0 : Int) (x1 : Addr) (x2 : Addr) (Kn : T0) (Kr : T0) (g : Env) (hg : E1 g x0 x1 x2) (h : H) (hS : n1 x0 x1 x2 Kn Kr h) : wpC none Tryd.prog 16 code (Q0 Kn Kr) g h := by
  obtain ⟨hg0, hg1, hg2, hds⟩ := hg
  refine wpC_of_wpx (by kernel_rfl) (by kernel_rfl) (g' := (((⟨g.v, []⟩ : Env).upd (some 0) (.int .u8 x0)).upd (some 1) (.pointer (some x1))).upd (some 2) (.pointer (some x2))) (by rw [env_ds hds, upd_self hg0, upd_self hg1, upd_self hg2]) ?_
  have e : (n1 x0 x1 x2 Kn Kr h) = wpx none Tryd.prog 16 code (Q0 Kn Kr) ((((⟨g.v, []⟩ : Env).upd (some 0) (.int .u8 x0)).upd (some 1) (.pointer (some x1))).upd (some 2) (.pointer (some x2))) h := by kernel_rfl
  exact e ▸ hS
/-- WHAT tympan/cols.Cut$1 ASKS -/
abbrev asks (x0 : Int) (x1 : Addr) (x2 : Addr) (K : Value → H → Prop) (h : H) : Prop := n1 x0 x1 x2 (fun y4 h => K (.bool y4) h) (fun y4 h => K (.bool y4) h) h
theorem ok (x0 : Int) (x1 : Addr) (x2 : Addr) (K : Value → H → Prop) (h : H) (hS : asks x0 x1 x2 K h) : HCalls Tryd.prog 17 ⟨[(.int .u8 x0), (.pointer (some x1)), (.pointer (some x2))]⟩ h K := by
  refine calls_of_wpC (c := code) Tryd.func17 (by kernel_rfl) (Nat.le_of_ble_eq_true (by kernel_rfl)) ?_
  refine (n1_ok x0 x1 x2 (fun y4 h => K (.bool y4) h) (fun y4 h => K (.bool y4) h) (env0 [(.int .u8 x0), (.pointer (some x1)), (.pointer (some x2))]) ⟨rfl, rfl, rfl, rfl⟩ h hS).mono ?_
  intro e g' h' hq
  cases e with
  | normal =>
    have hq : D0 (fun y4 h => K (.bool y4) h) g' h' := hq
    obtain ⟨y4, ⟨hg4, hd⟩, hq⟩ := D0_ok hq
    show leaveX g'.ds h' _
    rw [hd]
    show K (g'.v 4) h'
    rw [hg4]
    exact hq
  | ret =>
    have hq : D0 (fun y4 h => K (.bool y4) h) g' h' := hq
    obtain ⟨y4, ⟨hg4, hd⟩, hq⟩ := D0_ok hq
    show leaveX g'.ds h' _
    rw [hd]
    show K (g'.v 4) h'
    rw [hg4]
    exact hq
  | _ => exact hq
end Sx.cols_Cut_1

/-! ### (*tympan/cols.counter).pass -/
namespace Sx.cols_counter_pass
noncomputable def code : Code := bodyOf Tryd.f18
abbrev T0 := Bool → H → Prop
def E0 (g : Env) (x4 : Bool) : Prop := g.v 4 = (.bool x4) ∧ g.ds = []
def D0 (K : T0) (g : Env) (h : H) : Prop := nilDs g.ds (vBool (g.v 4) fun b1 => K b1 h)
theorem D0_ok {K : T0} {g : Env} {h : H} (hq : D0 K g h) : ∃ (x4 : Bool), E0 g x4 ∧ K x4 h := by
  obtain ⟨hd, hq⟩ := nilDs_ok hq
  obtain ⟨y3, e2, q4⟩ := vBool_ok hq
  exact ⟨y3, ⟨e2, hd⟩, q4⟩
def Q0 (Kn : T0) (Kr : T0) : XPost
  | .normal, g, h => D0 Kn g h
  | .ret, g, h => D0 Kr g h
  | _, _, _ => False
abbrev T1 := (Option Addr) → Int → H → Prop
def E1 (g : Env) (x0 : Option Addr) (x1 : Int) : Prop := g.v 0 = (.pointer x0) ∧ g.v 1 = (.int .u8 x1) ∧ g.ds = []
def D1 (K : T1) (g : Env) (h : H) : Prop := nilDs g.ds (vPtr (g.v 0) fun p5 => vInt .u8 (g.v 1) fun i6 => K p5 i6 h)
theorem D1_ok {K : T1} {g : Env} {h : H} (hq : D1 K g h) : ∃ (x0 : Option Addr) (x1 : Int), E1 g x0 x1 ∧ K x0 x1 h := by
  obtain ⟨hd, hq⟩ := nilDs_ok hq
  obtain ⟨y8, e7, q9⟩ := vPtr_ok hq
  obtain ⟨y11, e10, q12⟩ := vInt_ok q9
  exact ⟨y8, y11, ⟨e7, e10, hd⟩, q12⟩
noncomputable def n1_c1 : Code := cFst code
noncomputable def n1_c2 : Code := cSnd code
noncomputable def n2_c1 : Code := cFst n1_c2
noncomputable def n2_c2 : Code := cSnd n1_c2
abbrev T2 := H → Prop
def E2 (g : Env)  : Prop := g.ds = []
def D2 (K : T2) (g : Env) (h : H) : Prop := nilDs g.ds (K h)
theorem D2_ok {K : T2} {g : Env} {h : H} (hq : D2 K g h) : E2 g  ∧ K  h := by
  obtain ⟨hd, hq⟩ := nilDs_ok hq
  skip
  exact ⟨hd, hq⟩
abbrev n3  (Kn : T0) (Kr : T0) (h : H) : Prop :=
  Kr true h
theorem n3_ok  (Kn : T0) (Kr : T0) (g : Env) (hg : E2 g ) (h : H) (hS : n3  Kn Kr h) : wpC none Tryd.prog 30 n2_c2 (Q0 Kn Kr) g h := by
  have hds : g.ds = [] := hg
  refine wpC_of_wpx (by kernel_rfl) (by kernel_rfl) (g' := ⟨g.v, []⟩) (by rw [env_ds hds]) ?_
  have e : (n3  Kn Kr h) = wpx none Tryd.prog 30 n2_c2 (Q0 Kn Kr) (⟨g.v, []⟩) h := by kernel_rfl
  exact e ▸ hS
def Q1 (Kn : T2) (Kr : T0) : XPost
  | .normal, g, h => D2 Kn g h
  | .ret, g, h => D0 Kr g h
  | _, _, _ => False
noncomputable def n4_c1 : Code := cFst n2_c1
noncomputable def n4_c2 : Code := cSnd n2_c1
abbrev T3 := (Option Addr) → Int → H → Prop
def E3 (g : Env) (x0 : Option Addr) (x5 : Int) : Prop := g.v 0 = (.pointer x0) ∧ g.v 5 = (.int .u8 x5) ∧ g.ds = []
def D3 (K : T3) (g : Env) (h : H) : Prop := nilDs g.ds (vPtr (g.v 0) fun p13 => vInt .u8 (g.v 5) fun i14 => K p13 i14 h)
theorem D3_ok {K : T3} {g : Env} {h : H} (hq : D3 K g h) : ∃ (x0 : Option Addr) (x5 : Int), E3 g x0 x5 ∧ K x0 x5 h := by
  obtain ⟨hd, hq⟩ := nilDs_ok hq
  obtain ⟨y16, e15, q17⟩ := vPtr_ok hq
  obtain ⟨y19, e18, q20⟩ := vInt_ok q17
  exact ⟨y16, y19, ⟨e15, e18, hd⟩, q20⟩
noncomputable def n5_c1 : Code := cFst n4_c2
def Q2 (Kn : T2) (Ke0 : T2) (Kr : T0) : XPost
  | .normal, g, h => D2 Kn g h
  | .ret, g, h => D0 Kr g h
  | .exit id, g, h => cond (Nat.beq id 0) (D2 Ke0 g h) (False)
  | _, _, _ => False
noncomputable def n6_c1 : Code := cFst n5_c1
noncomputable def n6_c2 : Code := cSnd n5_c1
abbrev T4 := (Option Addr) → Int → Bool → H → Prop
def E4 (g : Env) (x0 : Option Addr) (x5 : Int) (x6 : Bool) : Prop := g.v 0 = (.pointer x0) ∧ g.v 5 = (.int .u8 x5) ∧ g.v 6 = (.bool x6) ∧ g.ds = []
def D4 (K : T4) (g : Env) (h : H) : Prop := nilDs g.ds (vPtr (g.v 0) fun p21 => vInt .u8 (g.v 5) fun i22 => vBool (g.v 6) fun b23 => K p21 i22 b23 h)
theorem D4_ok {K : T4} {g : Env} {h : H} (hq : D4 K g h) : ∃ (x0 : Option Addr) (x5 : Int) (x6 : Bool), E4 g x0 x5 x6 ∧ K x0 x5 x6 h := by
  obtain ⟨hd, hq⟩ := nilDs_ok hq
  obtain ⟨y25, e24, q26⟩ := vPtr_ok hq
  obtain ⟨y28, e27, q29⟩ := vInt_ok q26
  obtain ⟨y31, e30, q32⟩ := vBool_ok q29
  exact ⟨y25, y28, y31, ⟨e24, e27, e30, hd⟩, q32⟩
noncomputable def n7_c1 : Code := cFst n6_c2
noncomputable def n7_c2 : Code := cSnd n6_c2
abbrev T5 := (Option Addr) → H → Prop
def E5 (g : Env) (x0 : Option Addr) : Prop := g.v 0 = (.pointer x0) ∧ g.ds = []
def D5 (K : T5) (g : Env) (h : H) : Prop := nilDs g.ds (vPtr (g.v 0) fun p33 => K p33 h)
theorem D5_ok {K : T5} {g : Env} {h : H} (hq : D5 K g h) : ∃ (x0 : Option Addr), E5 g x0 ∧ K x0 h := by
  obtain ⟨hd, hq⟩ := nilDs_ok hq
  obtain ⟨y35, e34, q36⟩ := vPtr_ok hq
  exact ⟨y35, ⟨e34, hd⟩, q36⟩
abbrev n8 (x0 : Option Addr) (Kn : T2) (Ke0 : T2) (Kr : T0) (h : H) : Prop :=
  vSome x0 fun a37 => ∃ i38, cell h (a37.add 0) = some (.int .i64 i38) ∧ (Rng .i64 (i38 + (1 : Int)) ∧ (vSome x0 fun a39 => stL (a39.add 0) [(.int .i64 (i38 + (1 : Int)))] 0 h fun h40 => Kn h40))
theorem n8_ok (x0 : Option Addr) (Kn : T2) (Ke0 : T2) (Kr : T0) (g : Env) (hg : E5 g x0) (h : H) (hS : n8 x0 Kn Ke0 Kr h) : wpC none Tryd.prog 30 n7_c1 (Q2 Kn Ke0 Kr) g h := by
  obtain ⟨hg0, hds⟩ := hg
  refine wpC_of_wpx (by kernel_rfl) (by kernel_rfl) (g' := (⟨g.v, []⟩ : Env).upd (some 0) (.pointer x0)) (by rw [env_ds hds, upd_self hg0]) ?_
  have e : (n8 x0 Kn Ke0 Kr h) = wpx none Tryd.prog 30 n7_c1 (Q2 Kn Ke0 Kr) ((⟨g.v, []⟩ : Env).upd (some 0) (.pointer x0)) h := by kernel_rfl
  exact e ▸ hS
noncomputable def n9_c1 : Code := cFst n7_c2
noncomputable def n9_c2 : Code := cSnd n7_c2
abbrev T6 := (Option Addr) → Bool → H → Prop
def E6 (g : Env) (x0 : Option Addr) (x15 : Bool) : Prop := g.v 0 = (.pointer x0) ∧ g.v 15 = (.bool x15) ∧ g.ds = []
def D6 (K : T6) (g : Env) (h : H) : Prop := nilDs g.ds (vPtr (g.v 0) fun p41 => vBool (g.v 15) fun b42 => K p41 b42 h)
theorem D6_ok {K : T6} {g : Env} {h : H} (hq : D6 K g h) : ∃ (x0 : Option Addr) (x15 : Bool), E6 g x0 x15 ∧ K x0 x15 h := by
  obtain ⟨hd, hq⟩ := nilDs_ok hq
  obtain ⟨y44, e43, q45⟩ := vPtr_ok hq
  obtain ⟨y47, e46, q48⟩ := vBool_ok q45
  exact ⟨y44, y47, ⟨e43, e46, hd⟩, q48⟩
abbrev n10 (x0 : Option Addr) (x15 : Bool) (Kn : T2) (Ke0 : T2) (Kr : T0) (h : H) : Prop :=
  cond x15 (vSome x0 fun a49 => ∃ i50, cell h (a49.add 0) = some (.int .i64 i50) ∧ (vSome x0 fun a51 => ∃ i52, cell h (a51.add 0) = some (.int .i64 i52) ∧ ((4 : Int) ≠ 0 ∧ (Rng .i64 ((4 : Int) - (Int.tmod i52 (4 : Int))) ∧ (Rng .i64 (i50 + ((4 : Int) - (Int.tmod i52 (4 : Int)))) ∧ (vSome x0 fun a53 => stL (a53.add 0) [(.int .i64 (i50 + ((4 : Int) - (Int.tmod i52 (4 : Int)))))] 0 h fun h54 => Kn h54)))))) (Kr false h)
theorem n10_ok (x0 : Option Addr) (x15 : Bool) (Kn : T2) (Ke0 : T2) (Kr : T0) (g : Env) (hg : E6 g x0 x15) (h : H) (hS : n10 x0 x15 Kn Ke0 Kr h) : wpC none Tryd.prog 30 n9_c2 (Q2 Kn Ke0 Kr) g h := by
  obtain ⟨hg0, hg15, hds⟩ := hg
  refine wpC_of_wpx (by kernel_rfl) (by kernel_rfl) (g' := ((⟨g.v, []⟩ : Env).upd (some 0) (.pointer x0)).upd (some 15) (.bool x15)) (by rw [env_ds hds, upd_self hg0, upd_self hg15]) ?_
  have e : (n10 x0 x15 Kn Ke0 Kr h) = wpx none Tryd.prog 30 n9_c2 (Q2 Kn Ke0 Kr) (((⟨g.v, []⟩ : Env).upd (some 0) (.pointer x0)).upd (some 15) (.bool x15)) h := by kernel_rfl
  exact e ▸ hS
def Q3 (Kn : T6) (Ke0 : T2) (Kr : T0) : XPost
  | .normal, g, h => D6 Kn g h
  | .ret, g, h => D0 Kr g h
  | .exit id, g, h => cond (Nat.beq id 0) (D2 Ke0 g h) (False)
  | _, _, _ => False
abbrev n9 (x0 : Option Addr) (x5 : Int) (Kn : T2) (Ke0 : T2) (Kr : T0) (h : H) : Prop :=
  Spl (x5 = (9 : Int)) (n10 x0 true Kn Ke0 Kr h) (n10 x0 false Kn Ke0 Kr h)
theorem n9_ok (x0 : Option Addr) (x5 : Int) (Kn : T2) (Ke0 : T2) (Kr : T0) (g : Env) (hg : E3 g x0 x5) (h : H) (hS : n9 x0 x5 Kn Ke0 Kr h) : wpC none Tryd.prog 30 n7_c2 (Q2 Kn Ke0 Kr) g h := by
  obtain ⟨hg0, hg5, hds⟩ := hg
  refine wpC_seq' (x := n9_c1) (y := n9_c2) (Q' := (Q3 (fun z0 z15 h => n10 z0 z15 Kn Ke0 Kr h) Ke0 Kr)) (by kernel_rfl) ?_ ?_
  · refine wpC_of_wpx (by kernel_rfl) (by kernel_rfl) (g' := ((⟨g.v, []⟩ : Env).upd (some 0) (.pointer x0)).upd (some 5) (.int .u8 x5)) (by rw [env_ds hds, upd_self hg0, upd_self hg5]) ?_
    have e : (n9 x0 x5 Kn Ke0 Kr h) = wpx none Tryd.prog 30 n9_c1 (Q3 (fun z0 z15 h => n10 z0 z15 Kn Ke0 Kr h) Ke0 Kr) (((⟨g.v, []⟩ : Env).upd (some 0) (.pointer x0)).upd (some 5) (.int .u8 x5)) h := by kernel_rfl
    exact e ▸ hS
  · intro e g' h' hq
    cases e with
    | normal =>
      have hq : D6 (fun z0 z15 h => n10 z0 z15 Kn Ke0 Kr h) g' h' := hq
      obtain ⟨y0, y15, hg', hq⟩ := D6_ok hq
      exact n10_ok y0 y15 Kn Ke0 Kr g' hg' h' hq
    | _ => exact hq
abbrev n7 (x0 : Option Addr) (x5 : Int) (x6 : Bool) (Kn : T2) (Ke0 : T2) (Kr : T0) (h : H) : Prop := cond x6 (n8 x0 Kn Ke0 Kr h) (n9 x0 x5 Kn Ke0 Kr h)
theorem n7_ok (x0 : Option Addr) (x5 : Int) (x6 : Bool) (Kn : T2) (Ke0 : T2) (Kr : T0) (g : Env) (hg : E4 g x0 x5 x6) (h : H) (hS : n7 x0 x5 x6 Kn Ke0 Kr h) : wpC none Tryd.prog 30 n6_c2 (Q2 Kn Ke0 Kr) g h := by
  obtain ⟨hg0, hg5, hg6, hds⟩ := hg
  have hx : evalE 30 g (.tmp 6) = .bool x6 := by
    show cond (Nat.blt 6 30) (g.v 6) undef = _
    rw [hg6]; rfl
  unfold n7 at hS
  refine wpC_cond' (o := .tmp 6) (x := n7_c1) (y := n7_c2) (by kernel_rfl) hx (fun hb => ?_) (fun hb => ?_)
  · subst hb
    exact n8_ok x0 Kn Ke0 Kr g ⟨hg0, hds⟩ h hS
  · subst hb
    exact n9_ok x0 x5 Kn Ke0 Kr g ⟨hg0, hg5, hds⟩ h hS
def Q4 (Kn : T4) (Ke0 : T2) (Kr : T0) : XPost
  | .normal, g, h => D4 Kn g h
  | .ret, g, h => D0 Kr g h
  | .exit id, g, h => cond (Nat.beq id 0) (D2 Ke0 g h) (False)
  | _, _, _ => False
abbrev n6 (x0 : Option Addr) (x5 : Int) (Kn : T2) (Ke0 : T2) (Kr : T0) (h : H) : Prop :=
  Spl (x5 = (32 : Int)) (n7 x0 x5 true Kn Ke0 Kr h) (n7 x0 x5 false Kn Ke0 Kr h)
theorem n6_ok (x0 : Option Addr) (x5 : Int) (Kn : T2) (Ke0 : T2) (Kr : T0) (g : Env) (hg : E3 g x0 x5) (h : H) (hS : n6 x0 x5 Kn Ke0 Kr h) : wpC none Tryd.prog 30 n5_c1 (Q2 Kn Ke0 Kr) g h := by
  obtain ⟨hg0, hg5, hds⟩ := hg
  refine wpC_seq' (x := n6_c1) (y := n6_c2) (Q' := (Q4 (fun z0 z5 z6 h => n7 z0 z5 z6 Kn Ke0 Kr h) Ke0 Kr)) (by kernel_rfl) ?_ ?_
  · refine wpC_of_wpx (by kernel_rfl) (by kernel_rfl) (g' := ((⟨g.v, []⟩ : Env).upd (some 0) (.pointer x0)).upd (some 5) (.int .u8 x5)) (by rw [env_ds hds, upd_self hg0, upd_self hg5]) ?_
    have e : (n6 x0 x5 Kn Ke0 Kr h) = wpx none Tryd.prog 30 n6_c1 (Q4 (fun z0 z5 z6 h => n7 z0 z5 z6 Kn Ke0 Kr h) Ke0 Kr) (((⟨g.v, []⟩ : Env).upd (some 0) (.pointer x0)).upd (some 5) (.int .u8 x5)) h := by kernel_rfl
    exact e ▸ hS
  · intro e g' h' hq
    cases e with
    | normal =>
      have hq : D4 (fun z0 z5 z6 h => n7 z0 z5 z6 Kn Ke0 Kr h) g' h' := hq
      obtain ⟨y0, y5, y6, hg', hq⟩ := D4_ok hq
      exact n7_ok y0 y5 y6 Kn Ke0 Kr g' hg' h' hq
    | _ => exact hq
abbrev n5 (x0 : Option Addr) (x5 : Int) (Kn : T2) (Kr : T0) (h : H) : Prop := n6 x0 x5 Kn Kn Kr h
theorem n5_ok (x0 : Option Addr) (x5 : Int) (Kn : T2) (Kr : T0) (g : Env) (hg : E3 g x0 x5) (h : H) (hS : n5 x0 x5 Kn Kr h) : wpC none Tryd.prog 30 n4_c2 (Q1 Kn Kr) g h := by
  refine wpC_block' (id := 0) (x := n5_c1) (by kernel_rfl) (n6_ok x0 x5 Kn Kn Kr g hg h hS) ?_
  intro e g' h' hq
  cases e <;> exact hq
def Q5 (Kn : T3) (Kr : T0) : XPost
  | .normal, g, h => D3 Kn g h
  | .ret, g, h => D0 Kr g h
  | _, _, _ => False
abbrev n4 (x0 : Option Addr) (x1 : Int) (Kn : T2) (Kr : T0) (h : H) : Prop :=
  n5 x0 x1 Kn Kr h
theorem n4_ok (x0 : Option Addr) (x1 : Int) (Kn : T2) (Kr : T0) (g : Env) (hg : E1 g x0 x1) (h : H) (hS : n4 x0 x1 Kn Kr h) : wpC none Tryd.prog 30 n2_c1 (Q1 Kn Kr) g h := by
  obtain ⟨hg0, hg1, hds⟩ := hg
  refine wpC_seq' (x := n4_c1) (y := n4_c2) (Q' := (Q5 (fun z0 z5 h => n5 z0 z5 Kn Kr h) Kr)) (by kernel_rfl) ?_ ?_
  · refine wpC_of_wpx (by kernel_rfl) (by kernel_rfl) (g' := ((⟨g.v, []⟩ : Env).upd (some 0) (.pointer x0)).upd (some 1) (.int .u8 x1)) (by rw [env_ds hds, upd_self hg0, upd_self hg1]) ?_
    have e : (n4 x0 x1 Kn Kr h) = wpx none Tryd.prog 30 n4_c1 (Q5 (fun z0 z5 h => n5 z0 z5 Kn Kr h) Kr) (((⟨g.v, []⟩ : Env).upd (some 0) (.pointer x0)).upd (some 1) (.int .u8 x1)) h := by kernel_rfl
    exact e ▸ hS
  · intro e g' h' hq
    cases e with
    | normal =>
      have hq : D3 (fun z0 z5 h => n5 z0 z5 Kn Kr h) g' h' := hq
      obtain ⟨y0, y5, hg', hq⟩ := D3_ok hq
      exact n5_ok y0 y5 Kn Kr g' hg' h' hq
    | _ => exact hq
abbrev n2 (x0 : Option Addr) (x1 : Int) (Kn : T0) (Kr : T0) (h : H) : Prop := n4 x0 x1 (fun  h => n3 Kn Kr h) Kr h
theorem n2_ok (x0 : Option Addr) (x1 : Int) (Kn : T0) (Kr : T0) (g : Env) (hg : E1 g x0 x1) (h : H) (hS : n2 x0 x1 Kn Kr h) : wpC none Tryd.prog 30 n1_c2 (Q0 Kn Kr) g h := by
  refine wpC_seq' (x := n2_c1) (y := n2_c2) (by kernel_rfl) (n4_ok x0 x1 (fun  h => n3 Kn Kr h) Kr g hg h hS) ?_
  intro e g' h' hq
  cases e with
  | normal =>
    have hq : D2 (fun  h => n3 Kn Kr h) g' h' := hq
    obtain ⟨hg', hq⟩ := D2_ok hq
    exact n3_ok  Kn Kr g' hg' h' hq
  | _ => exact hq
def Q6 (Kn : T1) (Kr : T0) : XPost
  | .normal, g, h => D1 Kn g h
  | .ret, g, h => D0 Kr g h
  | _, _, _ => False
abbrev n1 (x0 : Option Addr) (x1 : Int) (Kn : T0) (Kr : T0) (h : H) : Prop :=
  n2 x0 x1 Kn Kr h
theorem n1_ok (x0 : Option Addr) (x1 : Int) (Kn : T0) (Kr : T0) (g : Env) (hg : E1 g x0 x1) (h : H) (hS : n1 x0 x1 Kn Kr h) : wpC none Tryd.prog 30 code (Q0 Kn Kr) g h := by
  obtain ⟨hg0, hg1, hds⟩ := hg
  refine wpC_seq' (x := n1_c1) (y := n1_c2) (Q' := (Q6 (fun z0 z1 h => n2 z0 z1 Kn Kr h) Kr)) (by kernel_rfl) ?_ ?_
  · refine wpC_of_wpx (by kernel_rfl) (by kernel_rfl) (g' := ((⟨g.v, []⟩ : Env).upd (some 0) (.pointer x0)).upd (some 1) (.int .u8 x1)) (by rw [env_ds hds, upd_self hg0, upd_self hg1]) ?_
    have e : (n1 x0 x1 Kn Kr h) = wpx none Tryd.prog 30 n1_c1 (Q6 (fun z0 z1 h => n2 z0 z1 Kn Kr h) Kr) (((⟨g.v, []⟩ : Env).upd (some 0) (.pointer x0)).upd (some 1) (.int .u8 x1)) h := by kernel_rfl
    exact e ▸ hS
  · intro e g' h' hq
    cases e with
    | normal =>
      have hq : D1 (fun z0 z1 h => n2 z0 z1 Kn Kr h) g' h' := hq
      obtain ⟨y0, y1, hg', hq⟩ := D1_ok hq
      exact n2_ok y0 y1 Kn Kr g' hg' h' hq
    | _ => exact hq
/-- WHAT (*tympan/cols.counter).pass ASKS -/
abbrev asks (x0 : Option Addr) (x1 : Int) (K : Value → H → Prop) (h : H) : Prop := n1 x0 x1 (fun y4 h => K (.bool y4) h) (fun y4 h => K (.bool y4) h) h
theorem ok (x0 : Option Addr) (x1 : Int) (K : Value → H → Prop) (h : H) (hS : asks x0 x1 K h) : HCalls Tryd.prog 18 ⟨[(.pointer x0), (.int .u8 x1)]⟩ h K := by
  refine calls_of_wpC (c := code) Tryd.func18 (by kernel_rfl) (Nat.le_of_ble_eq_true (by kernel_rfl)) ?_
  refine (n1_ok x0 x1 (fun y4 h => K (.bool y4) h) (fun y4 h => K (.bool y4) h) (env0 [(.pointer x0), (.int .u8 x1)]) ⟨rfl, rfl, rfl⟩ h hS).mono ?_
  intro e g' h' hq
  cases e with
  | normal =>
    have hq : D0 (fun y4 h => K (.bool y4) h) g' h' := hq
    obtain ⟨y4, ⟨hg4, hd⟩, hq⟩ := D0_ok hq
    show leaveX g'.ds h' _
    rw [hd]
    show K (g'.v 4) h'
    rw [hg4]
    exact hq
  | ret =>
    have hq : D0 (fun y4 h => K (.bool y4) h) g' h' := hq
    obtain ⟨y4, ⟨hg4, hd⟩, hq⟩ := D0_ok hq
    show leaveX g'.ds h' _
    rw [hd]
    show K (g'.v 4) h'
    rw [hg4]
    exact hq
  | _ => exact hq
end Sx.cols_counter_pass

/-! ### strings.Repeat -/
namespace Sx.strings_Repeat
noncomputable def code : Code := bodyOf Tryd.f19
abbrev T0 := (List UInt8) → H → Prop
def E0 (g : Env) (x4 : List UInt8) : Prop := g.v 4 = (S x4) ∧ g.ds = []
def D0 (K : T0) (g : Env) (h : H) : Prop := nilDs g.ds (vStr (g.v 4) fun s1 => K s1 h)
theorem D0_ok {K : T0} {g : Env} {h : H} (hq : D0 K g h) : ∃ (x4 : List UInt8), E0 g x4 ∧ K x4 h := by
  obtain ⟨hd, hq⟩ := nilDs_ok hq
  obtain ⟨y3, e2, q4⟩ := vStr_ok hq
  exact ⟨y3, ⟨e2, hd⟩, q4⟩
def Q0 (Kn : T0) (Kr : T0) : XPost
  | .normal, g, h => D0 Kn g h
  | .ret, g, h => D0 Kr g h
  | _, _, _ => False
abbrev T1 := (List UInt8) → Int → H → Prop
def E1 (g : Env) (x0 : List UInt8) (x1 : Int) : Prop := g.v 0 = (S x0) ∧ g.v 1 = (.int .i64 x1) ∧ g.ds = []
def D1 (K : T1) (g : Env) (h : H) : Prop := nilDs g.ds (vStr (g.v 0) fun s5 => vInt .i64 (g.v 1) fun i6 => K s5 i6 h)
theorem D1_ok {K : T1} {g : Env} {h : H} (hq : D1 K g h) : ∃ (x0 : List UInt8) (x1 : Int), E1 g x0 x1 ∧ K x0 x1 h := by
  obtain ⟨hd, hq⟩ := nilDs_ok hq
  obtain ⟨y8, e7, q9⟩ := vStr_ok hq
  obtain ⟨y11, e10, q12⟩ := vInt_ok q9
  exact ⟨y8, y11, ⟨e7, e10, hd⟩, q12⟩
noncomputable def n1_c1 : Code := cFst code
noncomputable def n1_c2 : Code := cSnd code
noncomputable def n2_c1 : Code := cFst n1_c2
noncomputable def n2_c2 : Code := cSnd n1_c2
noncomputable def n3_c1 : Code := cFst n2_c2
noncomputable def n3_c2 : Code := cSnd n2_c2
noncomputable def n4_c1 : Code := cFst n3_c2
noncomputable def n4_c2 : Code := cSnd n3_c2
abbrev T2 := (List UInt8) → Int → Int → H → Prop
def E2 (g : Env) (x0 : List UInt8) (x5 : Int) (x6 : Int) : Prop := g.v 0 = (S x0) ∧ g.v 5 = (.int .u64 x5) ∧ g.v 6 = (.int .u64 x6) ∧ g.ds = []
def D2 (K : T2) (g : Env) (h : H) : Prop := nilDs g.ds (vStr (g.v 0) fun s13 => vInt .u64 (g.v 5) fun i14 => vInt .u64 (g.v 6) fun i15 => K s13 i14 i15 h)
theorem D2_ok {K : T2} {g : Env} {h : H} (hq : D2 K g h) : ∃ (x0 : List UInt8) (x5 : Int) (x6 : Int), E2 g x0 x5 x6 ∧ K x0 x5 x6 h := by
  obtain ⟨hd, hq⟩ := nilDs_ok hq
  obtain ⟨y17, e16, q18⟩ := vStr_ok hq
  obtain ⟨y20, e19, q21⟩ := vInt_ok q18
  obtain ⟨y23, e22, q24⟩ := vInt_ok q21
  exact ⟨y17, y20, y23, ⟨e16, e19, e22, hd⟩, q24⟩
noncomputable def n5_c1 : Code := cFst n4_c2
noncomputable def n5_c2 : Code := cSnd n4_c2
abbrev T3 := (List UInt8) → Int → H → Prop
def E3 (g : Env) (x0 : List UInt8) (x6 : Int) : Prop := g.v 0 = (S x0) ∧ g.v 6 = (.int .u64 x6) ∧ g.ds = []
def D3 (K : T3) (g : Env) (h : H) : Prop := nilDs g.ds (vStr (g.v 0) fun s25 => vInt .u64 (g.v 6) fun i26 => K s25 i26 h)
theorem D3_ok {K : T3} {g : Env} {h : H} (hq : D3 K g h) : ∃ (x0 : List UInt8) (x6 : Int), E3 g x0 x6 ∧ K x0 x6 h := by
  obtain ⟨hd, hq⟩ := nilDs_ok hq
  obtain ⟨y28, e27, q29⟩ := vStr_ok hq
  obtain ⟨y31, e30, q32⟩ := vInt_ok q29
  exact ⟨y28, y31, ⟨e27, e30, hd⟩, q32⟩
noncomputable def n6_c1 : Code := cFst n5_c2
noncomputable def n6_c2 : Code := cSnd n5_c2
abbrev T4 := (List UInt8) → Int → H → Prop
def E4 (g : Env) (x0 : List UInt8) (x7 : Int) : Prop := g.v 0 = (S x0) ∧ g.v 7 = (.int .i64 x7) ∧ g.ds = []
def D4 (K : T4) (g : Env) (h : H) : Prop := nilDs g.ds (vStr (g.v 0) fun s33 => vInt .i64 (g.v 7) fun i34 => K s33 i34 h)
theorem D4_ok {K : T4} {g : Env} {h : H} (hq : D4 K g h) : ∃ (x0 : List UInt8) (x7 : Int), E4 g x0 x7 ∧ K x0 x7 h := by
  obtain ⟨hd, hq⟩ := nilDs_ok hq
  obtain ⟨y36, e35, q37⟩ := vStr_ok hq
  obtain ⟨y39, e38, q40⟩ := vInt_ok q37
  exact ⟨y36, y39, ⟨e35, e38, hd⟩, q40⟩
noncomputable def n7_c1 : Code := cFst n6_c2
noncomputable def n7_c2 : Code := cSnd n6_c2
noncomputable def n8_c1 : Code := cFst n7_c2
noncomputable def n8_c2 : Code := cSnd n7_c2
noncomputable def n9_c1 : Code := cFst n8_c2
noncomputable def n9_c2 : Code := cSnd n8_c2
abbrev T5 := (List UInt8) → Int → Int → H → Prop
def E5 (g : Env) (x0 : List UInt8) (x7 : Int) (x8 : Int) : Prop := g.v 0 = (S x0) ∧ g.v 7 = (.int .i64 x7) ∧ g.v 8 = (.int .i64 x8) ∧ g.ds = []
def D5 (K : T5) (g : Env) (h : H) : Prop := nilDs g.ds (vStr (g.v 0) fun s41 => vInt .i64 (g.v 7) fun i42 => vInt .i64 (g.v 8) fun i43 => K s41 i42 i43 h)
theorem D5_ok {K : T5} {g : Env} {h : H} (hq : D5 K g h) : ∃ (x0 : List UInt8) (x7 : Int) (x8 : Int), E5 g x0 x7 x8 ∧ K x0 x7 x8 h := by
  obtain ⟨hd, hq⟩ := nilDs_ok hq
  obtain ⟨y45, e44, q46⟩ := vStr_ok hq
  obtain ⟨y48, e47, q49⟩ := vInt_ok q46
  obtain ⟨y51, e50, q52⟩ := vInt_ok q49
  exact ⟨y45, y48, y51, ⟨e44, e47, e50, hd⟩, q52⟩
noncomputable def n10_c1 : Code := cFst n9_c2
noncomputable def n10_c2 : Code := cSnd n9_c2
noncomputable def n11_c1 : Code := cFst n10_c2
noncomputable def n11_c2 : Code := cSnd n10_c2
abbrev T6 := (List UInt8) → Int → Int → Addr → H → Prop
def E6 (g : Env) (x0 : List UInt8) (x7 : Int) (x8 : Int) (x9 : Addr) : Prop := g.v 0 = (S x0) ∧ g.v 7 = (.int .i64 x7) ∧ g.v 8 = (.int .i64 x8) ∧ g.v 9 = (.pointer (some x9)) ∧ g.ds = []
def D6 (K : T6) (g : Env) (h : H) : Prop := nilDs g.ds (vStr (g.v 0) fun s53 => vInt .i64 (g.v 7) fun i54 => vInt .i64 (g.v 8) fun i55 => vAddr (g.v 9) fun a56 => K s53 i54 i55 a56 h)
theorem D6_ok {K : T6} {g : Env} {h : H} (hq : D6 K g h) : ∃ (x0 : List UInt8) (x7 : Int) (x8 : Int) (x9 : Addr), E6 g x0 x7 x8 x9 ∧ K x0 x7 x8 x9 h := by
  obtain ⟨hd, hq⟩ := nilDs_ok hq
  obtain ⟨y58, e57, q59⟩ := vStr_ok hq
  obtain ⟨y61, e60, q62⟩ := vInt_ok q59
  obtain ⟨y64, e63, q65⟩ := vInt_ok q62
  obtain ⟨y67, e66, q68⟩ := vAddr_ok q65
  exact ⟨y58, y61, y64, y67, ⟨e57, e60, e63, e66, hd⟩, q68⟩
noncomputable def n12_c1 : Code := cFst n11_c2
noncomputable def n12_c2 : Code := cSnd n11_c2
noncomputable def n13_c1 : Code := cFst n12_c2
noncomputable def n13_c2 : Code := cSnd n12_c2
abbrev T7 := Int → Int → Addr → H → Prop
def E7 (g : Env) (x7 : Int) (x8 : Int) (x9 : Addr) : Prop := g.v 7 = (.int .i64 x7) ∧ g.v 8 = (.int .i64 x8) ∧ g.v 9 = (.pointer (some x9)) ∧ g.ds = []
def D7 (K : T7) (g : Env) (h : H) : Prop := nilDs g.ds (vInt .i64 (g.v 7) fun i69 => vInt .i64 (g.v 8) fun i70 => vAddr (g.v 9) fun a71 => K i69 i70 a71 h)
theorem D7_ok {K : T7} {g : Env} {h : H} (hq : D7 K g h) : ∃ (x7 : Int) (x8 : Int) (x9 : Addr), E7 g x7 x8 x9 ∧ K x7 x8 x9 h := by
  obtain ⟨hd, hq⟩ := nilDs_ok hq
  obtain ⟨y73, e72, q74⟩ := vInt_ok hq
  obtain ⟨y76, e75, q77⟩ := vInt_ok q74
  obtain ⟨y79, e78, q80⟩ := vAddr_ok q77
  exact ⟨y73, y76, y79, ⟨e72, e75, e78, hd⟩, q80⟩
noncomputable def n14_c1 : Code := cFst n13_c2
noncomputable def n14_c2 : Code := cSnd n13_c2
abbrev T8 := Addr → H → Prop
def E8 (g : Env) (x9 : Addr) : Prop := g.v 9 = (.pointer (some x9)) ∧ g.ds = []
def D8 (K : T8) (g : Env) (h : H) : Prop := nilDs g.ds (vAddr (g.v 9) fun a81 => K a81 h)
theorem D8_ok {K : T8} {g : Env} {h : H} (hq : D8 K g h) : ∃ (x9 : Addr), E8 g x9 ∧ K x9 h := by
  obtain ⟨hd, hq⟩ := nilDs_ok hq
  obtain ⟨y83, e82, q84⟩ := vAddr_ok hq
  exact ⟨y83, ⟨e82, hd⟩, q84⟩
abbrev n15 (x9 : Addr) (Kn : T0) (Kr : T0) (h : H) : Prop :=
  HCalls Tryd.prog 29 ⟨[(.pointer (some x9))]⟩ h fun v85 h86 => vStr v85 fun s87 => Kr s87 h86
theorem n15_ok (x9 : Addr) (Kn : T0) (Kr : T0) (g : Env) (hg : E8 g x9) (h : H) (hS : n15 x9 Kn Kr h) : wpC none Tryd.prog 125 n14_c2 (Q0 Kn Kr) g h := by
  obtain ⟨hg9, hds⟩ := hg
  refine wpC_of_wpx (by kernel_rfl) (by kernel_rfl) (g' := (⟨g.v, []⟩ : Env).upd (some 9) (.pointer (some x9))) (by rw [env_ds hds, upd_self hg9]) ?_
  have e : (n15 x9 Kn Kr h) = wpx none Tryd.prog 125 n14_c2 (Q0 Kn Kr) ((⟨g.v, []⟩ : Env).upd (some 9) (.pointer (some x9))) h := by kernel_rfl
  exact e ▸ hS
def Q1 (Kn : T8) (Kr : T0) : XPost
  | .normal, g, h => D8 Kn g h
  | .ret, g, h => D0 Kr g h
  | _, _, _ => False
noncomputable def n16_c1 : Code := cFst n14_c1
def Q2 (Kn : T8) (Ke3 : T8) (Kr : T0) : XPost
  | .normal, g, h => D8 Kn g h
  | .ret, g, h => D0 Kr g h
  | .exit id, g, h => cond (Nat.beq id 3) (D8 Ke3 g h) (False)
  | _, _, _ => False
noncomputable def n17_c1 : Code := cFst n16_c1
def Q3 (Kn : T7) (Ke3 : T8) (Kr : T0) : XPost
  | .normal, g, h => D7 Kn g h
  | .ret, g, h => D0 Kr g h
  | .exit id, g, h => cond (Nat.beq id 3) (D8 Ke3 g h) (False)
  | _, _, _ => False
def n17_L (Kn : T8) (Ke3 : T8) (Kr : T0) : Nat → Int → Int → Addr → H → Prop
  | 0 => fun _ _ _ _ => False
  | N + 1 => fun x7 x8 x9 h => HCalls Tryd.prog 28 ⟨[(.pointer (some x9))]⟩ h fun v88 h89 => vInt .i64 v88 fun i90 => Spl (i90 < x7) (HCalls Tryd.prog 28 ⟨[(.pointer (some x9))]⟩ h89 fun v91 h92 => vInt .i64 v91 fun i93 => Rng .i64 (x7 - i93) ∧ (HCalls Tryd.prog 28 ⟨[(.pointer (some x9))]⟩ h92 fun v94 h95 => vInt .i64 v94 fun i96 => SemH Tryd.prog (Builtin.min_ #[3, 3, 3] 3 ⟨[(.int .i64 (x7 - i93)), (.int .i64 i96), (.int .i64 x8)]⟩) h95 fun v97 h98 => vInt .i64 v97 fun i99 => HCalls Tryd.prog 29 ⟨[(.pointer (some x9))]⟩ h98 fun v100 h101 => vStr v100 fun s102 => (0 ≤ (0 : Int) ∧ (0 : Int) ≤ i99 ∧ i99 ≤ (s102.length : Int)) ∧ (HCalls Tryd.prog 27 ⟨[(.pointer (some x9)), (S (sub s102 (0 : Int) i99))]⟩ h101 fun v103 h104 => vTup v103 fun l105 => uncons l105 fun e106 l107 => vInt .i64 e106 fun i108 => uncons l107 fun e109 l110 => unnil l110 (n17_L Kn Ke3 Kr N x7 x8 x9 h104)))) (Ke3 x9 h89)
abbrev n17 (x7 : Int) (x8 : Int) (x9 : Addr) (Kn : T8) (Ke3 : T8) (Kr : T0) (h : H) : Prop := ∃ N, n17_L Kn Ke3 Kr N x7 x8 x9 h
theorem n17_ok (x7 : Int) (x8 : Int) (x9 : Addr) (Kn : T8) (Ke3 : T8) (Kr : T0) (g : Env) (hg : E7 g x7 x8 x9) (h : H) (hS : n17 x7 x8 x9 Kn Ke3 Kr h) : wpC none Tryd.prog 125 n16_c1 (Q2 Kn Ke3 Kr) g h := by
  obtain ⟨N0, hS⟩ := hS
  refine wpC_loop' (x := n17_c1) (by kernel_rfl) (fun k g h => ∃ (x7 : Int) (x8 : Int) (x9 : Addr), E7 g x7 x8 x9 ∧ n17_L Kn Ke3 Kr k x7 x8 x9 h) (fun g h hr => ?_) (fun N g h hr => ?_) N0 ⟨x7, x8, x9, hg, hS⟩
  · obtain ⟨x7, x8, x9, hg, hS⟩ := hr
    exact hS.elim
  · obtain ⟨x7, x8, x9, hg, hS⟩ := hr
    have hw : wpC none Tryd.prog 125 n17_c1 (Q3 (fun z7 z8 z9 h => n17_L Kn Ke3 Kr N z7 z8 z9 h) Ke3 Kr) g h := by
      obtain ⟨hg7, hg8, hg9, hds⟩ := hg
      refine wpC_of_wpx (by kernel_rfl) (by kernel_rfl) (g' := (((⟨g.v, []⟩ : Env).upd (some 7) (.int .i64 x7)).upd (some 8) (.int .i64 x8)).upd (some 9) (.pointer (some x9))) (by rw [env_ds hds, upd_self hg7, upd_self hg8, upd_self hg9]) ?_
      have e : (n17_L Kn Ke3 Kr (N + 1) x7 x8 x9 h) = wpx none Tryd.prog 125 n17_c1 (Q3 (fun z7 z8 z9 h => n17_L Kn Ke3 Kr N z7 z8 z9 h) Ke3 Kr) ((((⟨g.v, []⟩ : Env).upd (some 7) (.int .i64 x7)).upd (some 8) (.int .i64 x8)).upd (some 9) (.pointer (some x9))) h := by kernel_rfl
      exact e ▸ hS
    refine hw.mono ?_
    intro e g' h' hq
    cases e with
    | normal => exact D7_ok (K := (fun z7 z8 z9 h => n17_L Kn Ke3 Kr N z7 z8 z9 h)) hq
    | _ => exact hq
abbrev n16 (x7 : Int) (x8 : Int) (x9 : Addr) (Kn : T8) (Kr : T0) (h : H) : Prop := n17 x7 x8 x9 Kn Kn Kr h
theorem n16_ok (x7 : Int) (x8 : Int) (x9 : Addr) (Kn : T8) (Kr : T0) (g : Env) (hg : E7 g x7 x8 x9) (h : H) (hS : n16 x7 x8 x9 Kn Kr h) : wpC none Tryd.prog 125 n14_c1 (Q1 Kn Kr) g h := by
  refine wpC_block' (id := 3) (x := n16_c1) (by kernel_rfl) (n17_ok x7 x8 x9 Kn Kn Kr g hg h hS) ?_
  intro e g' h' hq
  cases e <;> exact hq
abbrev n14 (x7 : Int) (x8 : Int) (x9 : Addr) (Kn : T0) (Kr : T0) (h : H) : Prop := n16 x7 x8 x9 (fun z9 h => n15 z9 Kn Kr h) Kr h
theorem n14_ok (x7 : Int) (x8 : Int) (x9 : Addr) (Kn : T0) (Kr : T0) (g : Env) (hg : E7 g x7 x8 x9) (h : H) (hS : n14 x7 x8 x9 Kn Kr h) : wpC none Tryd.prog 125 n13_c2 (Q0 Kn Kr) g h := by
  refine wpC_seq' (x := n14_c1) (y := n14_c2) (by kernel_rfl) (n16_ok x7 x8 x9 (fun z9 h => n15 z9 Kn Kr h) Kr g hg h hS) ?_
  intro e g' h' hq
  cases e with
  | normal =>
    have hq : D8 (fun z9 h => n15 z9 Kn Kr h) g' h' := hq
    obtain ⟨y9, hg', hq⟩ := D8_ok hq
    exact n15_ok y9 Kn Kr g' hg' h' hq
  | _ => exact hq
def Q4 (Kn : T7) (Kr : T0) : XPost
  | .normal, g, h => D7 Kn g h
  | .ret, g, h => D0 Kr g h
  | _, _, _ => False
abbrev n13 (x0 : List UInt8) (x7 : Int) (x8 : Int) (x9 : Addr) (Kn : T0) (Kr : T0) (h : H) : Prop :=
  HCalls Tryd.prog 27 ⟨[(.pointer (some x9)), (S x0)]⟩ h fun v111 h112 => vTup v111 fun l113 => uncons l113 fun e114 l115 => vInt .i64 e114 fun i116 => uncons l115 fun e117 l118 => unnil l118 (n14 x7 x8 x9 Kn Kr h112)
theorem n13_ok (x0 : List UInt8) (x7 : Int) (x8 : Int) (x9 : Addr) (Kn : T0) (Kr : T0) (g : Env) (hg : E6 g x0 x7 x8 x9) (h : H) (hS : n13 x0 x7 x8 x9 Kn Kr h) : wpC none Tryd.prog 125 n12_c2 (Q0 Kn Kr) g h := by
  obtain ⟨hg0, hg7, hg8, hg9, hds⟩ := hg
  refine wpC_seq' (x := n13_c1) (y := n13_c2) (Q' := (Q4 (fun z7 z8 z9 h => n14 z7 z8 z9 Kn Kr h) Kr)) (by kernel_rfl) ?_ ?_
  · refine wpC_of_wpx (by kernel_rfl) (by kernel_rfl) (g' := ((((⟨g.v, []⟩ : Env).upd (some 0) (S x0)).upd (some 7) (.int .i64 x7)).upd (some 8) (.int .i64 x8)).upd (some 9) (.pointer (some x9))) (by rw [env_ds hds, upd_self hg0, upd_self hg7, upd_self hg8, upd_self hg9]) ?_
    have e : (n13 x0 x7 x8 x9 Kn Kr h) = wpx none Tryd.prog 125 n13_c1 (Q4 (fun z7 z8 z9 h => n14 z7 z8 z9 Kn Kr h) Kr) (((((⟨g.v, []⟩ : Env).upd (some 0) (S x0)).upd (some 7) (.int .i64 x7)).upd (some 8) (.int .i64 x8)).upd (some 9) (.pointer (some x9))) h := by kernel_rfl
    exact e ▸ hS
  · intro e g' h' hq
    cases e with
    | normal =>
      have hq : D7 (fun z7 z8 z9 h => n14 z7 z8 z9 Kn Kr h) g' h' := hq
      obtain ⟨y7, y8, y9, hg', hq⟩ := D7_ok hq
      exact n14_ok y7 y8 y9 Kn Kr g' hg' h' hq
    | _ => exact hq
def Q5 (Kn : T6) (Kr : T0) : XPost
  | .normal, g, h => D6 Kn g h
  | .ret, g, h => D0 Kr g h
  | _, _, _ => False
abbrev n12 (x0 : List UInt8) (x7 : Int) (x8 : Int) (x9 : Addr) (Kn : T0) (Kr : T0) (h : H) : Prop :=
  HCalls Tryd.prog 26 ⟨[(.pointer (some x9)), (.int .i64 x7)]⟩ h fun v119 h120 => vTup v119 fun l121 => unnil l121 (n13 x0 x7 x8 x9 Kn Kr h120)
theorem n12_ok (x0 : List UInt8) (x7 : Int) (x8 : Int) (x9 : Addr) (Kn : T0) (Kr : T0) (g : Env) (hg : E6 g x0 x7 x8 x9) (h : H) (hS : n12 x0 x7 x8 x9 Kn Kr h) : wpC none Tryd.prog 125 n11_c2 (Q0 Kn Kr) g h := by
  obtain ⟨hg0, hg7, hg8, hg9, hds⟩ := hg
  refine wpC_seq' (x := n12_c1) (y := n12_c2) (Q' := (Q5 (fun z0 z7 z8 z9 h => n13 z0 z7 z8 z9 Kn Kr h) Kr)) (by kernel_rfl) ?_ ?_
  · refine wpC_of_wpx (by kernel_rfl) (by kernel_rfl) (g' := ((((⟨g.v, []⟩ : Env).upd (some 0) (S x0)).upd (some 7) (.int .i64 x7)).upd (some 8) (.int .i64 x8)).upd (some 9) (.pointer (some x9))) (by rw [env_ds hds, upd_self hg0, upd_self hg7, upd_self hg8, upd_self hg9]) ?_
    have e : (n12 x0 x7 x8 x9 Kn Kr h) = wpx none Tryd.prog 125 n12_c1 (Q5 (fun z0 z7 z8 z9 h => n13 z0 z7 z8 z9 Kn Kr h) Kr) (((((⟨g.v, []⟩ : Env).upd (some 0) (S x0)).upd (some 7) (.int .i64 x7)).upd (some 8) (.int .i64 x8)).upd (some 9) (.pointer (some x9))) h := by kernel_rfl
    exact e ▸ hS
  · intro e g' h' hq
    cases e with
    | normal =>
      have hq : D6 (fun z0 z7 z8 z9 h => n13 z0 z7 z8 z9 Kn Kr h) g' h' := hq
      obtain ⟨y0, y7, y8, y9, hg', hq⟩ := D6_ok hq
      exact n13_ok y0 y7 y8 y9 Kn Kr g' hg' h' hq
    | _ => exact hq
abbrev n11 (x0 : List UInt8) (x7 : Int) (x8 : Int) (Kn : T0) (Kr : T0) (h : H) : Prop :=
  newx h ⟨[(.pointer none), (.slice none 0 0)]⟩ 46 fun a122 h123 => n12 x0 x7 x8 a122 Kn Kr h123
theorem n11_ok (x0 : List UInt8) (x7 : Int) (x8 : Int) (Kn : T0) (Kr : T0) (g : Env) (hg : E5 g x0 x7 x8) (h : H) (hS : n11 x0 x7 x8 Kn Kr h) : wpC none Tryd.prog 125 n10_c2 (Q0 Kn Kr) g h := by
  obtain ⟨hg0, hg7, hg8, hds⟩ := hg
  refine wpC_seq' (x := n11_c1) (y := n11_c2) (Q' := (Q5 (fun z0 z7 z8 z9 h => n12 z0 z7 z8 z9 Kn Kr h) Kr)) (by kernel_rfl) ?_ ?_
  · refine wpC_of_wpx (by kernel_rfl) (by kernel_rfl) (g' := (((⟨g.v, []⟩ : Env).upd (some 0) (S x0)).upd (some 7) (.int .i64 x7)).upd (some 8) (.int .i64 x8)) (by rw [env_ds hds, upd_self hg0, upd_self hg7, upd_self hg8]) ?_
    have e : (n11 x0 x7 x8 Kn Kr h) = wpx none Tryd.prog 125 n11_c1 (Q5 (fun z0 z7 z8 z9 h => n12 z0 z7 z8 z9 Kn Kr h) Kr) ((((⟨g.v, []⟩ : Env).upd (some 0) (S x0)).upd (some 7) (.int .i64 x7)).upd (some 8) (.int .i64 x8)) h := by kernel_rfl
    exact e ▸ hS
  · intro e g' h' hq
    cases e with
    | normal =>
      have hq : D6 (fun z0 z7 z8 z9 h => n12 z0 z7 z8 z9 Kn Kr h) g' h' := hq
      obtain ⟨y0, y7, y8, y9, hg', hq⟩ := D6_ok hq
      exact n12_ok y0 y7 y8 y9 Kn Kr g' hg' h' hq
    | _ => exact hq
def Q6 (Kn : T5) (Kr : T0) : XPost
  | .normal, g, h => D5 Kn g h
  | .ret, g, h => D0 Kr g h
  | _, _, _ => False
noncomputable def n18_c1 : Code := cFst n10_c1
noncomputable def n18_c2 : Code := cSnd n10_c1
abbrev T9 := (List UInt8) → Int → Int → Bool → H → Prop
def E9 (g : Env) (x0 : List UInt8) (x7 : Int) (x8 : Int) (x96 : Bool) : Prop := g.v 0 = (S x0) ∧ g.v 7 = (.int .i64 x7) ∧ g.v 8 = (.int .i64 x8) ∧ g.v 96 = (.bool x96) ∧ g.ds = []
def D9 (K : T9) (g : Env) (h : H) : Prop := nilDs g.ds (vStr (g.v 0) fun s124 => vInt .i64 (g.v 7) fun i125 => vInt .i64 (g.v 8) fun i126 => vBool (g.v 96) fun b127 => K s124 i125 i126 b127 h)
theorem D9_ok {K : T9} {g : Env} {h : H} (hq : D9 K g h) : ∃ (x0 : List UInt8) (x7 : Int) (x8 : Int) (x96 : Bool), E9 g x0 x7 x8 x96 ∧ K x0 x7 x8 x96 h := by
  obtain ⟨hd, hq⟩ := nilDs_ok hq
  obtain ⟨y129, e128, q130⟩ := vStr_ok hq
  obtain ⟨y132, e131, q133⟩ := vInt_ok q130
  obtain ⟨y135, e134, q136⟩ := vInt_ok q133
  obtain ⟨y138, e137, q139⟩ := vBool_ok q136
  exact ⟨y129, y132, y135, y138, ⟨e128, e131, e134, e137, hd⟩, q139⟩
abbrev n19 (x0 : List UInt8) (x7 : Int) (x8 : Int) (x96 : Bool) (Kn : T5) (Kr : T0) (h : H) : Prop :=
  cond x96 ((x0.length : Int) ≠ 0 ∧ (Rng .i64 (Int.tdiv (8192 : Int) (x0.length : Int)) ∧ (Rng .i64 ((Int.tdiv (8192 : Int) (x0.length : Int)) * (x0.length : Int)) ∧ (Spl (((Int.tdiv (8192 : Int) (x0.length : Int)) * (x0.length : Int)) = (0 : Int)) (Kn x0 x7 (x0.length : Int) h) (Kn x0 x7 ((Int.tdiv (8192 : Int) (x0.length : Int)) * (x0.length : Int)) h))))) (Kn x0 x7 x8 h)
theorem n19_ok (x0 : List UInt8) (x7 : Int) (x8 : Int) (x96 : Bool) (Kn : T5) (Kr : T0) (g : Env) (hg : E9 g x0 x7 x8 x96) (h : H) (hS : n19 x0 x7 x8 x96 Kn Kr h) : wpC none Tryd.prog 125 n18_c2 (Q6 Kn Kr) g h := by
  obtain ⟨hg0, hg7, hg8, hg96, hds⟩ := hg
  refine wpC_of_wpx (by kernel_rfl) (by kernel_rfl) (g' := ((((⟨g.v, []⟩ : Env).upd (some 0) (S x0)).upd (some 7) (.int .i64 x7)).upd (some 8) (.int .i64 x8)).upd (some 96) (.bool x96)) (by rw [env_ds hds, upd_self hg0, upd_self hg7, upd_self hg8, upd_self hg96]) ?_
  have e : (n19 x0 x7 x8 x96 Kn Kr h) = wpx none Tryd.prog 125 n18_c2 (Q6 Kn Kr) (((((⟨g.v, []⟩ : Env).upd (some 0) (S x0)).upd (some 7) (.int .i64 x7)).upd (some 8) (.int .i64 x8)).upd (some 96) (.bool x96)) h := by kernel_rfl
  exact e ▸ hS
def Q7 (Kn : T9) (Kr : T0) : XPost
  | .normal, g, h => D9 Kn g h
  | .ret, g, h => D0 Kr g h
  | _, _, _ => False
abbrev n18 (x0 : List UInt8) (x7 : Int) (x8 : Int) (Kn : T5) (Kr : T0) (h : H) : Prop :=
  Spl (x7 > (8192 : Int)) (n19 x0 x7 x8 true Kn Kr h) (n19 x0 x7 x8 false Kn Kr h)
theorem n18_ok (x0 : List UInt8) (x7 : Int) (x8 : Int) (Kn : T5) (Kr : T0) (g : Env) (hg : E5 g x0 x7 x8) (h : H) (hS : n18 x0 x7 x8 Kn Kr h) : wpC none Tryd.prog 125 n10_c1 (Q6 Kn Kr) g h := by
  obtain ⟨hg0, hg7, hg8, hds⟩ := hg
  refine wpC_seq' (x := n18_c1) (y := n18_c2) (Q' := (Q7 (fun z0 z7 z8 z96 h => n19 z0 z7 z8 z96 Kn Kr h) Kr)) (by kernel_rfl) ?_ ?_
  · refine wpC_of_wpx (by kernel_rfl) (by kernel_rfl) (g' := (((⟨g.v, []⟩ : Env).upd (some 0) (S x0)).upd (some 7) (.int .i64 x7)).upd (some 8) (.int .i64 x8)) (by rw [env_ds hds, upd_self hg0, upd_self hg7, upd_self hg8]) ?_
    have e : (n18 x0 x7 x8 Kn Kr h) = wpx none Tryd.prog 125 n18_c1 (Q7 (fun z0 z7 z8 z96 h => n19 z0 z7 z8 z96 Kn Kr h) Kr) ((((⟨g.v, []⟩ : Env).upd (some 0) (S x0)).upd (some 7) (.int .i64 x7)).upd (some 8) (.int .i64 x8)) h := by kernel_rfl
    exact e ▸ hS
  · intro e g' h' hq
    cases e with
    | normal =>
      have hq : D9 (fun z0 z7 z8 z96 h => n19 z0 z7 z8 z96 Kn Kr h) g' h' := hq
      obtain ⟨y0, y7, y8, y96, hg', hq⟩ := D9_ok hq
      exact n19_ok y0 y7 y8 y96 Kn Kr g' hg' h' hq
    | _ => exact hq
abbrev n10 (x0 : List UInt8) (x7 : Int) (x8 : Int) (Kn : T0) (Kr : T0) (h : H) : Prop := n18 x0 x7 x8 (fun z0 z7 z8 h => n11 z0 z7 z8 Kn Kr h) Kr h
theorem n10_ok (x0 : List UInt8) (x7 : Int) (x8 : Int) (Kn : T0) (Kr : T0) (g : Env) (hg : E5 g x0 x7 x8) (h : H) (hS : n10 x0 x7 x8 Kn Kr h) : wpC none Tryd.prog 125 n9_c2 (Q0 Kn Kr) g h := by
  refine wpC_seq' (x := n10_c1) (y := n10_c2) (by kernel_rfl) (n18_ok x0 x7 x8 (fun z0 z7 z8 h => n11 z0 z7 z8 Kn Kr h) Kr g hg h hS) ?_
  intro e g' h' hq
  cases e with
  | normal =>
    have hq : D5 (fun z0 z7 z8 h => n11 z0 z7 z8 Kn Kr h) g' h' := hq
    obtain ⟨y0, y7, y8, hg', hq⟩ := D5_ok hq
    exact n11_ok y0 y7 y8 Kn Kr g' hg' h' hq
  | _ => exact hq
abbrev n9 (x0 : List UInt8) (x7 : Int) (Kn : T0) (Kr : T0) (h : H) : Prop :=
  n10 x0 x7 x7 Kn Kr h
theorem n9_ok (x0 : List UInt8) (x7 : Int) (Kn : T0) (Kr : T0) (g : Env) (hg : E4 g x0 x7) (h : H) (hS : n9 x0 x7 Kn Kr h) : wpC none Tryd.prog 125 n8_c2 (Q0 Kn Kr) g h := by
  obtain ⟨hg0, hg7, hds⟩ := hg
  refine wpC_seq' (x := n9_c1) (y := n9_c2) (Q' := (Q6 (fun z0 z7 z8 h => n10 z0 z7 z8 Kn Kr h) Kr)) (by kernel_rfl) ?_ ?_
  · refine wpC_of_wpx (by kernel_rfl) (by kernel_rfl) (g' := ((⟨g.v, []⟩ : Env).upd (some 0) (S x0)).upd (some 7) (.int .i64 x7)) (by rw [env_ds hds, upd_self hg0, upd_self hg7]) ?_
    have e : (n9 x0 x7 Kn Kr h) = wpx none Tryd.prog 125 n9_c1 (Q6 (fun z0 z7 z8 h => n10 z0 z7 z8 Kn Kr h) Kr) (((⟨g.v, []⟩ : Env).upd (some 0) (S x0)).upd (some 7) (.int .i64 x7)) h := by kernel_rfl
    exact e ▸ hS
  · intro e g' h' hq
    cases e with
    | normal =>
      have hq : D5 (fun z0 z7 z8 h => n10 z0 z7 z8 Kn Kr h) g' h' := hq
      obtain ⟨y0, y7, y8, hg', hq⟩ := D5_ok hq
      exact n10_ok y0 y7 y8 Kn Kr g' hg' h' hq
    | _ => exact hq
def Q8 (Kn : T4) (Kr : T0) : XPost
  | .normal, g, h => D4 Kn g h
  | .ret, g, h => D0 Kr g h
  | _, _, _ => False
noncomputable def n20_c1 : Code := cFst n8_c1
noncomputable def n20_c2 : Code := cSnd n8_c1
abbrev T10 := (List UInt8) → Int → Int → H → Prop
def E10 (g : Env) (x0 : List UInt8) (x7 : Int) (x42 : Int) : Prop := g.v 0 = (S x0) ∧ g.v 7 = (.int .i64 x7) ∧ g.v 42 = (.int .u8 x42) ∧ g.ds = []
def D10 (K : T10) (g : Env) (h : H) : Prop := nilDs g.ds (vStr (g.v 0) fun s140 => vInt .i64 (g.v 7) fun i141 => vInt .u8 (g.v 42) fun i142 => K s140 i141 i142 h)
theorem D10_ok {K : T10} {g : Env} {h : H} (hq : D10 K g h) : ∃ (x0 : List UInt8) (x7 : Int) (x42 : Int), E10 g x0 x7 x42 ∧ K x0 x7 x42 h := by
  obtain ⟨hd, hq⟩ := nilDs_ok hq
  obtain ⟨y144, e143, q145⟩ := vStr_ok hq
  obtain ⟨y147, e146, q148⟩ := vInt_ok q145
  obtain ⟨y150, e149, q151⟩ := vInt_ok q148
  exact ⟨y144, y147, y150, ⟨e143, e146, e149, hd⟩, q151⟩
noncomputable def n21_c1 : Code := cFst n20_c2
def Q9 (Kn : T4) (Ke1 : T4) (Kr : T0) : XPost
  | .normal, g, h => D4 Kn g h
  | .ret, g, h => D0 Kr g h
  | .exit id, g, h => cond (Nat.beq id 1) (D4 Ke1 g h) (False)
  | _, _, _ => False
noncomputable def n22_c1 : Code := cFst n21_c1
noncomputable def n22_c2 : Code := cSnd n21_c1
abbrev T11 := (List UInt8) → Int → Bool → H → Prop
def E11 (g : Env) (x0 : List UInt8) (x7 : Int) (x43 : Bool) : Prop := g.v 0 = (S x0) ∧ g.v 7 = (.int .i64 x7) ∧ g.v 43 = (.bool x43) ∧ g.ds = []
def D11 (K : T11) (g : Env) (h : H) : Prop := nilDs g.ds (vStr (g.v 0) fun s152 => vInt .i64 (g.v 7) fun i153 => vBool (g.v 43) fun b154 => K s152 i153 b154 h)
theorem D11_ok {K : T11} {g : Env} {h : H} (hq : D11 K g h) : ∃ (x0 : List UInt8) (x7 : Int) (x43 : Bool), E11 g x0 x7 x43 ∧ K x0 x7 x43 h := by
  obtain ⟨hd, hq⟩ := nilDs_ok hq
  obtain ⟨y156, e155, q157⟩ := vStr_ok hq
  obtain ⟨y159, e158, q160⟩ := vInt_ok q157
  obtain ⟨y162, e161, q163⟩ := vBool_ok q160
  exact ⟨y156, y159, y162, ⟨e155, e158, e161, hd⟩, q163⟩
noncomputable def n23_c1 : Code := cFst n22_c2
noncomputable def n23_c2 : Code := cSnd n22_c2
noncomputable def n24_c1 : Code := cFst n23_c1
def Q10 (Kn : T4) (Ke2 : T4) (Ke1 : T4) (Kr : T0) : XPost
  | .normal, g, h => D4 Kn g h
  | .ret, g, h => D0 Kr g h
  | .exit id, g, h => cond (Nat.beq id 2) (D4 Ke2 g h) (cond (Nat.beq id 1) (D4 Ke1 g h) (False))
  | _, _, _ => False
noncomputable def n25_c1 : Code := cFst n24_c1
noncomputable def n25_c2 : Code := cSnd n24_c1
abbrev T12 := (List UInt8) → Int → Bool → H → Prop
def E12 (g : Env) (x0 : List UInt8) (x7 : Int) (x49 : Bool) : Prop := g.v 0 = (S x0) ∧ g.v 7 = (.int .i64 x7) ∧ g.v 49 = (.bool x49) ∧ g.ds = []
def D12 (K : T12) (g : Env) (h : H) : Prop := nilDs g.ds (vStr (g.v 0) fun s164 => vInt .i64 (g.v 7) fun i165 => vBool (g.v 49) fun b166 => K s164 i165 b166 h)
theorem D12_ok {K : T12} {g : Env} {h : H} (hq : D12 K g h) : ∃ (x0 : List UInt8) (x7 : Int) (x49 : Bool), E12 g x0 x7 x49 ∧ K x0 x7 x49 h := by
  obtain ⟨hd, hq⟩ := nilDs_ok hq
  obtain ⟨y168, e167, q169⟩ := vStr_ok hq
  obtain ⟨y171, e170, q172⟩ := vInt_ok q169
  obtain ⟨y174, e173, q175⟩ := vBool_ok q172
  exact ⟨y168, y171, y174, ⟨e167, e170, e173, hd⟩, q175⟩
noncomputable def n26_c1 : Code := cFst n25_c2
noncomputable def n26_c2 : Code := cSnd n25_c2
abbrev T13 := Int → H → Prop
def E13 (g : Env) (x7 : Int) : Prop := g.v 7 = (.int .i64 x7) ∧ g.ds = []
def D13 (K : T13) (g : Env) (h : H) : Prop := nilDs g.ds (vInt .i64 (g.v 7) fun i176 => K i176 h)
theorem D13_ok {K : T13} {g : Env} {h : H} (hq : D13 K g h) : ∃ (x7 : Int), E13 g x7 ∧ K x7 h := by
  obtain ⟨hd, hq⟩ := nilDs_ok hq
  obtain ⟨y178, e177, q179⟩ := vInt_ok hq
  exact ⟨y178, ⟨e177, hd⟩, q179⟩
abbrev n27 (x7 : Int) (Kn : T4) (Ke2 : T4) (Ke1 : T4) (Kr : T0) (h : H) : Prop :=
  (0 ≤ (0 : Int) ∧ (0 : Int) ≤ x7 ∧ x7 ≤ (([32, 32, 32, 32, 32, 32, 32, 32, 32, 32, 32, 32, 32, 32, 32, 32, 32, 32, 32, 32, 32, 32, 32, 32, 32, 32, 32, 32, 32, 32, 32, 32, 32, 32, 32, 32, 32, 32, 32, 32, 32, 32, 32, 32, 32, 32, 32, 32, 32, 32, 32, 32, 32, 32, 32, 32, 32, 32, 32, 32, 32, 32, 32, 32, 32, 32, 32, 32, 32, 32, 32, 32, 32, 32, 32, 32, 32, 32, 32, 32, 32, 32, 32, 32, 32, 32, 32, 32, 32, 32, 32, 32, 32, 32, 32, 32, 32, 32, 32, 32, 32, 32, 32, 32, 32, 32, 32, 32, 32, 32, 32, 32, 32, 32, 32, 32, 32, 32, 32, 32, 32, 32, 32, 32, 32, 32, 32, 32] : List UInt8).length : Int)) ∧ (Kr (sub ([32, 32, 32, 32, 32, 32, 32, 32, 32, 32, 32, 32, 32, 32, 32, 32, 32, 32, 32, 32, 32, 32, 32, 32, 32, 32, 32, 32, 32, 32, 32, 32, 32, 32, 32, 32, 32, 32, 32, 32, 32, 32, 32, 32, 32, 32, 32, 32, 32, 32, 32, 32, 32, 32, 32, 32, 32, 32, 32, 32, 32, 32, 32, 32, 32, 32, 32, 32, 32, 32, 32, 32, 32, 32, 32, 32, 32, 32, 32, 32, 32, 32, 32, 32, 32, 32, 32, 32, 32, 32, 32, 32, 32, 32, 32, 32, 32, 32, 32, 32, 32, 32, 32, 32, 32, 32, 32, 32, 32, 32, 32, 32, 32, 32, 32, 32, 32, 32, 32, 32, 32, 32, 32, 32, 32, 32, 32, 32] : List UInt8) (0 : Int) x7) h)
theorem n27_ok (x7 : Int) (Kn : T4) (Ke2 : T4) (Ke1 : T4) (Kr : T0) (g : Env) (hg : E13 g x7) (h : H) (hS : n27 x7 Kn Ke2 Ke1 Kr h) : wpC none Tryd.prog 125 n26_c1 (Q10 Kn Ke2 Ke1 Kr) g h := by
  obtain ⟨hg7, hds⟩ := hg
  refine wpC_of_wpx (by kernel_rfl) (by kernel_rfl) (g' := (⟨g.v, []⟩ : Env).upd (some 7) (.int .i64 x7)) (by rw [env_ds hds, upd_self hg7]) ?_
  have e : (n27 x7 Kn Ke2 Ke1 Kr h) = wpx none Tryd.prog 125 n26_c1 (Q10 Kn Ke2 Ke1 Kr) ((⟨g.v, []⟩ : Env).upd (some 7) (.int .i64 x7)) h := by kernel_rfl
  exact e ▸ hS
noncomputable def n28_c1 : Code := cFst n26_c2
noncomputable def n28_c2 : Code := cSnd n26_c2
abbrev T14 := (List UInt8) → Int → Bool → H → Prop
def E14 (g : Env) (x0 : List UInt8) (x7 : Int) (x58 : Bool) : Prop := g.v 0 = (S x0) ∧ g.v 7 = (.int .i64 x7) ∧ g.v 58 = (.bool x58) ∧ g.ds = []
def D14 (K : T14) (g : Env) (h : H) : Prop := nilDs g.ds (vStr (g.v 0) fun s180 => vInt .i64 (g.v 7) fun i181 => vBool (g.v 58) fun b182 => K s180 i181 b182 h)
theorem D14_ok {K : T14} {g : Env} {h : H} (hq : D14 K g h) : ∃ (x0 : List UInt8) (x7 : Int) (x58 : Bool), E14 g x0 x7 x58 ∧ K x0 x7 x58 h := by
  obtain ⟨hd, hq⟩ := nilDs_ok hq
  obtain ⟨y184, e183, q185⟩ := vStr_ok hq
  obtain ⟨y187, e186, q188⟩ := vInt_ok q185
  obtain ⟨y190, e189, q191⟩ := vBool_ok q188
  exact ⟨y184, y187, y190, ⟨e183, e186, e189, hd⟩, q191⟩
noncomputable def n29_c1 : Code := cFst n28_c2
noncomputable def n29_c2 : Code := cSnd n28_c2
abbrev n30 (x7 : Int) (Kn : T4) (Ke2 : T4) (Ke1 : T4) (Kr : T0) (h : H) : Prop :=
  (0 ≤ (0 : Int) ∧ (0 : Int) ≤ x7 ∧ x7 ≤ (([45, 45, 45, 45, 45, 45, 45, 45, 45, 45, 45, 45, 45, 45, 45, 45, 45, 45, 45, 45, 45, 45, 45, 45, 45, 45, 45, 45, 45, 45, 45, 45, 45, 45, 45, 45, 45, 45, 45, 45, 45, 45, 45, 45, 45, 45, 45, 45, 45, 45, 45, 45, 45, 45, 45, 45, 45, 45, 45, 45, 45, 45, 45, 45, 45, 45, 45, 45, 45, 45, 45, 45, 45, 45, 45, 45, 45, 45, 45, 45, 45, 45, 45, 45, 45, 45, 45, 45, 45, 45, 45, 45, 45, 45, 45, 45, 45, 45, 45, 45, 45, 45, 45, 45, 45, 45, 45, 45, 45, 45, 45, 45, 45, 45, 45, 45, 45, 45, 45, 45, 45, 45, 45, 45, 45, 45, 45, 45] : List UInt8).length : Int)) ∧ (Kr (sub ([45, 45, 45, 45, 45, 45, 45, 45, 45, 45, 45, 45, 45, 45, 45, 45, 45, 45, 45, 45, 45, 45, 45, 45, 45, 45, 45, 45, 45, 45, 45, 45, 45, 45, 45, 45, 45, 45, 45, 45, 45, 45, 45, 45, 45, 45, 45, 45, 45, 45, 45, 45, 45, 45, 45, 45, 45, 45, 45, 45, 45, 45, 45, 45, 45, 45, 45, 45, 45, 45, 45, 45, 45, 45, 45, 45, 45, 45, 45, 45, 45, 45, 45, 45, 45, 45, 45, 45, 45, 45, 45, 45, 45, 45, 45, 45, 45, 45, 45, 45, 45, 45, 45, 45, 45, 45, 45, 45, 45, 45, 45, 45, 45, 45, 45, 45, 45, 45, 45, 45, 45, 45, 45, 45, 45, 45, 45, 45] : List UInt8) (0 : Int) x7) h)
theorem n30_ok (x7 : Int) (Kn : T4) (Ke2 : T4) (Ke1 : T4) (Kr : T0) (g : Env) (hg : E13 g x7) (h : H) (hS : n30 x7 Kn Ke2 Ke1 Kr h) : wpC none Tryd.prog 125 n29_c1 (Q10 Kn Ke2 Ke1 Kr) g h := by
  obtain ⟨hg7, hds⟩ := hg
  refine wpC_of_wpx (by kernel_rfl) (by kernel_rfl) (g' := (⟨g.v, []⟩ : Env).upd (some 7) (.int .i64 x7)) (by rw [env_ds hds, upd_self hg7]) ?_
  have e : (n30 x7 Kn Ke2 Ke1 Kr h) = wpx none Tryd.prog 125 n29_c1 (Q10 Kn Ke2 Ke1 Kr) ((⟨g.v, []⟩ : Env).upd (some 7) (.int .i64 x7)) h := by kernel_rfl
  exact e ▸ hS
noncomputable def n31_c1 : Code := cFst n29_c2
noncomputable def n31_c2 : Code := cSnd n29_c2
abbrev T15 := (List UInt8) → Int → Bool → H → Prop
def E15 (g : Env) (x0 : List UInt8) (x7 : Int) (x67 : Bool) : Prop := g.v 0 = (S x0) ∧ g.v 7 = (.int .i64 x7) ∧ g.v 67 = (.bool x67) ∧ g.ds = []
def D15 (K : T15) (g : Env) (h : H) : Prop := nilDs g.ds (vStr (g.v 0) fun s192 => vInt .i64 (g.v 7) fun i193 => vBool (g.v 67) fun b194 => K s192 i193 b194 h)
theorem D15_ok {K : T15} {g : Env} {h : H} (hq : D15 K g h) : ∃ (x0 : List UInt8) (x7 : Int) (x67 : Bool), E15 g x0 x7 x67 ∧ K x0 x7 x67 h := by
  obtain ⟨hd, hq⟩ := nilDs_ok hq
  obtain ⟨y196, e195, q197⟩ := vStr_ok hq
  obtain ⟨y199, e198, q200⟩ := vInt_ok q197
  obtain ⟨y202, e201, q203⟩ := vBool_ok q200
  exact ⟨y196, y199, y202, ⟨e195, e198, e201, hd⟩, q203⟩
noncomputable def n32_c1 : Code := cFst n31_c2
noncomputable def n32_c2 : Code := cSnd n31_c2
abbrev n33 (x7 : Int) (Kn : T4) (Ke2 : T4) (Ke1 : T4) (Kr : T0) (h : H) : Prop :=
  (0 ≤ (0 : Int) ∧ (0 : Int) ≤ x7 ∧ x7 ≤ (([48, 48, 48, 48, 48, 48, 48, 48, 48, 48, 48, 48, 48, 48, 48, 48, 48, 48, 48, 48, 48, 48, 48, 48, 48, 48, 48, 48, 48, 48, 48, 48, 48, 48, 48, 48, 48, 48, 48, 48, 48, 48, 48, 48, 48, 48, 48, 48, 48, 48, 48, 48, 48, 48, 48, 48, 48, 48, 48, 48, 48, 48, 48, 48] : List UInt8).length : Int)) ∧ (Kr (sub ([48, 48, 48, 48, 48, 48, 48, 48, 48, 48, 48, 48, 48, 48, 48, 48, 48, 48, 48, 48, 48, 48, 48, 48, 48, 48, 48, 48, 48, 48, 48, 48, 48, 48, 48, 48, 48, 48, 48, 48, 48, 48, 48, 48, 48, 48, 48, 48, 48, 48, 48, 48, 48, 48, 48, 48, 48, 48, 48, 48, 48, 48, 48, 48] : List UInt8) (0 : Int) x7) h)
theorem n33_ok (x7 : Int) (Kn : T4) (Ke2 : T4) (Ke1 : T4) (Kr : T0) (g : Env) (hg : E13 g x7) (h : H) (hS : n33 x7 Kn Ke2 Ke1 Kr h) : wpC none Tryd.prog 125 n32_c1 (Q10 Kn Ke2 Ke1 Kr) g h := by
  obtain ⟨hg7, hds⟩ := hg
  refine wpC_of_wpx (by kernel_rfl) (by kernel_rfl) (g' := (⟨g.v, []⟩ : Env).upd (some 7) (.int .i64 x7)) (by rw [env_ds hds, upd_self hg7]) ?_
  have e : (n33 x7 Kn Ke2 Ke1 Kr h) = wpx none Tryd.prog 125 n32_c1 (Q10 Kn Ke2 Ke1 Kr) ((⟨g.v, []⟩ : Env).upd (some 7) (.int .i64 x7)) h := by kernel_rfl
  exact e ▸ hS
noncomputable def n34_c1 : Code := cFst n32_c2
noncomputable def n34_c2 : Code := cSnd n32_c2
abbrev T16 := (List UInt8) → Int → Bool → H → Prop
def E16 (g : Env) (x0 : List UInt8) (x7 : Int) (x76 : Bool) : Prop := g.v 0 = (S x0) ∧ g.v 7 = (.int .i64 x7) ∧ g.v 76 = (.bool x76) ∧ g.ds = []
def D16 (K : T16) (g : Env) (h : H) : Prop := nilDs g.ds (vStr (g.v 0) fun s204 => vInt .i64 (g.v 7) fun i205 => vBool (g.v 76) fun b206 => K s204 i205 b206 h)
theorem D16_ok {K : T16} {g : Env} {h : H} (hq : D16 K g h) : ∃ (x0 : List UInt8) (x7 : Int) (x76 : Bool), E16 g x0 x7 x76 ∧ K x0 x7 x76 h := by
  obtain ⟨hd, hq⟩ := nilDs_ok hq
  obtain ⟨y208, e207, q209⟩ := vStr_ok hq
  obtain ⟨y211, e210, q212⟩ := vInt_ok q209
  obtain ⟨y214, e213, q215⟩ := vBool_ok q212
  exact ⟨y208, y211, y214, ⟨e207, e210, e213, hd⟩, q215⟩
abbrev n35 (x0 : List UInt8) (x7 : Int) (x76 : Bool) (Kn : T4) (Ke2 : T4) (Ke1 : T4) (Kr : T0) (h : H) : Prop :=
  cond x76 ((0 ≤ (0 : Int) ∧ (0 : Int) ≤ x7 ∧ x7 ≤ (([61, 61, 61, 61, 61, 61, 61, 61, 61, 61, 61, 61, 61, 61, 61, 61, 61, 61, 61, 61, 61, 61, 61, 61, 61, 61, 61, 61, 61, 61, 61, 61, 61, 61, 61, 61, 61, 61, 61, 61, 61, 61, 61, 61, 61, 61, 61, 61, 61, 61, 61, 61, 61, 61, 61, 61, 61, 61, 61, 61, 61, 61, 61, 61, 61, 61, 61, 61, 61, 61, 61, 61, 61, 61, 61, 61, 61, 61, 61, 61, 61, 61, 61, 61, 61, 61, 61, 61, 61, 61, 61, 61, 61, 61, 61, 61, 61, 61, 61, 61, 61, 61, 61, 61, 61, 61, 61, 61, 61, 61, 61, 61, 61, 61, 61, 61, 61, 61, 61, 61, 61, 61, 61, 61, 61, 61, 61, 61] : List UInt8).length : Int)) ∧ (Kr (sub ([61, 61, 61, 61, 61, 61, 61, 61, 61, 61, 61, 61, 61, 61, 61, 61, 61, 61, 61, 61, 61, 61, 61, 61, 61, 61, 61, 61, 61, 61, 61, 61, 61, 61, 61, 61, 61, 61, 61, 61, 61, 61, 61, 61, 61, 61, 61, 61, 61, 61, 61, 61, 61, 61, 61, 61, 61, 61, 61, 61, 61, 61, 61, 61, 61, 61, 61, 61, 61, 61, 61, 61, 61, 61, 61, 61, 61, 61, 61, 61, 61, 61, 61, 61, 61, 61, 61, 61, 61, 61, 61, 61, 61, 61, 61, 61, 61, 61, 61, 61, 61, 61, 61, 61, 61, 61, 61, 61, 61, 61, 61, 61, 61, 61, 61, 61, 61, 61, 61, 61, 61, 61, 61, 61, 61, 61, 61, 61] : List UInt8) (0 : Int) x7) h)) (Spl (x7 ≤ (64 : Int)) (HCalls Tryd.prog 25 ⟨[(S ([9, 9, 9, 9, 9, 9, 9, 9, 9, 9, 9, 9, 9, 9, 9, 9, 9, 9, 9, 9, 9, 9, 9, 9, 9, 9, 9, 9, 9, 9, 9, 9, 9, 9, 9, 9, 9, 9, 9, 9, 9, 9, 9, 9, 9, 9, 9, 9, 9, 9, 9, 9, 9, 9, 9, 9, 9, 9, 9, 9, 9, 9, 9, 9] : List UInt8)), (S x0)]⟩ h fun v216 h217 => vBool v216 fun b218 => cond b218 ((0 ≤ (0 : Int) ∧ (0 : Int) ≤ x7 ∧ x7 ≤ (([9, 9, 9, 9, 9, 9, 9, 9, 9, 9, 9, 9, 9, 9, 9, 9, 9, 9, 9, 9, 9, 9, 9, 9, 9, 9, 9, 9, 9, 9, 9, 9, 9, 9, 9, 9, 9, 9, 9, 9, 9, 9, 9, 9, 9, 9, 9, 9, 9, 9, 9, 9, 9, 9, 9, 9, 9, 9, 9, 9, 9, 9, 9, 9] : List UInt8).length : Int)) ∧ (Kr (sub ([9, 9, 9, 9, 9, 9, 9, 9, 9, 9, 9, 9, 9, 9, 9, 9, 9, 9, 9, 9, 9, 9, 9, 9, 9, 9, 9, 9, 9, 9, 9, 9, 9, 9, 9, 9, 9, 9, 9, 9, 9, 9, 9, 9, 9, 9, 9, 9, 9, 9, 9, 9, 9, 9, 9, 9, 9, 9, 9, 9, 9, 9, 9, 9] : List UInt8) (0 : Int) x7) h217)) (Kn x0 x7 h217)) (Kn x0 x7 h))
theorem n35_ok (x0 : List UInt8) (x7 : Int) (x76 : Bool) (Kn : T4) (Ke2 : T4) (Ke1 : T4) (Kr : T0) (g : Env) (hg : E16 g x0 x7 x76) (h : H) (hS : n35 x0 x7 x76 Kn Ke2 Ke1 Kr h) : wpC none Tryd.prog 125 n34_c2 (Q10 Kn Ke2 Ke1 Kr) g h := by
  obtain ⟨hg0, hg7, hg76, hds⟩ := hg
  refine wpC_of_wpx (by kernel_rfl) (by kernel_rfl) (g' := (((⟨g.v, []⟩ : Env).upd (some 0) (S x0)).upd (some 7) (.int .i64 x7)).upd (some 76) (.bool x76)) (by rw [env_ds hds, upd_self hg0, upd_self hg7, upd_self hg76]) ?_
  have e : (n35 x0 x7 x76 Kn Ke2 Ke1 Kr h) = wpx none Tryd.prog 125 n34_c2 (Q10 Kn Ke2 Ke1 Kr) ((((⟨g.v, []⟩ : Env).upd (some 0) (S x0)).upd (some 7) (.int .i64 x7)).upd (some 76) (.bool x76)) h := by kernel_rfl
  exact e ▸ hS
def Q11 (Kn : T16) (Ke2 : T4) (Ke1 : T4) (Kr : T0) : XPost
  | .normal, g, h => D16 Kn g h
  | .ret, g, h => D0 Kr g h
  | .exit id, g, h => cond (Nat.beq id 2) (D4 Ke2 g h) (cond (Nat.beq id 1) (D4 Ke1 g h) (False))
  | _, _, _ => False
abbrev n34 (x0 : List UInt8) (x7 : Int) (Kn : T4) (Ke2 : T4) (Ke1 : T4) (Kr : T0) (h : H) : Prop :=
  Spl (x7 ≤ (128 : Int)) (HCalls Tryd.prog 25 ⟨[(S ([61, 61, 61, 61, 61, 61, 61, 61, 61, 61, 61, 61, 61, 61, 61, 61, 61, 61, 61, 61, 61, 61, 61, 61, 61, 61, 61, 61, 61, 61, 61, 61, 61, 61, 61, 61, 61, 61, 61, 61, 61, 61, 61, 61, 61, 61, 61, 61, 61, 61, 61, 61, 61, 61, 61, 61, 61, 61, 61, 61, 61, 61, 61, 61, 61, 61, 61, 61, 61, 61, 61, 61, 61, 61, 61, 61, 61, 61, 61, 61, 61, 61, 61, 61, 61, 61, 61, 61, 61, 61, 61, 61, 61, 61, 61, 61, 61, 61, 61, 61, 61, 61, 61, 61, 61, 61, 61, 61, 61, 61, 61, 61, 61, 61, 61, 61, 61, 61, 61, 61, 61, 61, 61, 61, 61, 61, 61, 61] : List UInt8)), (S x0)]⟩ h fun v219 h220 => vBool v219 fun b221 => cond b221 (n35 x0 x7 true Kn Ke2 Ke1 Kr h220) (n35 x0 x7 false Kn Ke2 Ke1 Kr h220)) (n35 x0 x7 false Kn Ke2 Ke1 Kr h)
theorem n34_ok (x0 : List UInt8) (x7 : Int) (Kn : T4) (Ke2 : T4) (Ke1 : T4) (Kr : T0) (g : Env) (hg : E4 g x0 x7) (h : H) (hS : n34 x0 x7 Kn Ke2 Ke1 Kr h) : wpC none Tryd.prog 125 n32_c2 (Q10 Kn Ke2 Ke1 Kr) g h := by
  obtain ⟨hg0, hg7, hds⟩ := hg
  refine wpC_seq' (x := n34_c1) (y := n34_c2) (Q' := (Q11 (fun z0 z7 z76 h => n35 z0 z7 z76 Kn Ke2 Ke1 Kr h) Ke2 Ke1 Kr)) (by kernel_rfl) ?_ ?_
  · refine wpC_of_wpx (by kernel_rfl) (by kernel_rfl) (g' := ((⟨g.v, []⟩ : Env).upd (some 0) (S x0)).upd (some 7) (.int .i64 x7)) (by rw [env_ds hds, upd_self hg0, upd_self hg7]) ?_
    have e : (n34 x0 x7 Kn Ke2 Ke1 Kr h) = wpx none Tryd.prog 125 n34_c1 (Q11 (fun z0 z7 z76 h => n35 z0 z7 z76 Kn Ke2 Ke1 Kr h) Ke2 Ke1 Kr) (((⟨g.v, []⟩ : Env).upd (some 0) (S x0)).upd (some 7) (.int .i64 x7)) h := by kernel_rfl
    exact e ▸ hS
  · intro e g' h' hq
    cases e with
    | normal =>
      have hq : D16 (fun z0 z7 z76 h => n35 z0 z7 z76 Kn Ke2 Ke1 Kr h) g' h' := hq
      obtain ⟨y0, y7, y76, hg', hq⟩ := D16_ok hq
      exact n35_ok y0 y7 y76 Kn Ke2 Ke1 Kr g' hg' h' hq
    | _ => exact hq
abbrev n32 (x0 : List UInt8) (x7 : Int) (x67 : Bool) (Kn : T4) (Ke2 : T4) (Ke1 : T4) (Kr : T0) (h : H) : Prop := cond x67 (n33 x7 Kn Ke2 Ke1 Kr h) (n34 x0 x7 Kn Ke2 Ke1 Kr h)
theorem n32_ok (x0 : List UInt8) (x7 : Int) (x67 : Bool) (Kn : T4) (Ke2 : T4) (Ke1 : T4) (Kr : T0) (g : Env) (hg : E15 g x0 x7 x67) (h : H) (hS : n32 x0 x7 x67 Kn Ke2 Ke1 Kr h) : wpC none Tryd.prog 125 n31_c2 (Q10 Kn Ke2 Ke1 Kr) g h := by
  obtain ⟨hg0, hg7, hg67, hds⟩ := hg
  have hx : evalE 125 g (.tmp 67) = .bool x67 := by
    show cond (Nat.blt 67 125) (g.v 67) undef = _
    rw [hg67]; rfl
  unfold n32 at hS
  refine wpC_cond' (o := .tmp 67) (x := n32_c1) (y := n32_c2) (by kernel_rfl) hx (fun hb => ?_) (fun hb => ?_)
  · subst hb
    exact n33_ok x7 Kn Ke2 Ke1 Kr g ⟨hg7, hds⟩ h hS
  · subst hb
    exact n34_ok x0 x7 Kn Ke2 Ke1 Kr g ⟨hg0, hg7, hds⟩ h hS
def Q12 (Kn : T15) (Ke2 : T4) (Ke1 : T4) (Kr : T0) : XPost
  | .normal, g, h => D15 Kn g h
  | .ret, g, h => D0 Kr g h
  | .exit id, g, h => cond (Nat.beq id 2) (D4 Ke2 g h) (cond (Nat.beq id 1) (D4 Ke1 g h) (False))
  | _, _, _ => False
abbrev n31 (x0 : List UInt8) (x7 : Int) (Kn : T4) (Ke2 : T4) (Ke1 : T4) (Kr : T0) (h : H) : Prop :=
  Spl (x7 ≤ (64 : Int)) (HCalls Tryd.prog 25 ⟨[(S ([48, 48, 48, 48, 48, 48, 48, 48, 48, 48, 48, 48, 48, 48, 48, 48, 48, 48, 48, 48, 48, 48, 48, 48, 48, 48, 48, 48, 48, 48, 48, 48, 48, 48, 48, 48, 48, 48, 48, 48, 48, 48, 48, 48, 48, 48, 48, 48, 48, 48, 48, 48, 48, 48, 48, 48, 48, 48, 48, 48, 48, 48, 48, 48] : List UInt8)), (S x0)]⟩ h fun v222 h223 => vBool v222 fun b224 => cond b224 (n32 x0 x7 true Kn Ke2 Ke1 Kr h223) (n32 x0 x7 false Kn Ke2 Ke1 Kr h223)) (n32 x0 x7 false Kn Ke2 Ke1 Kr h)
theorem n31_ok (x0 : List UInt8) (x7 : Int) (Kn : T4) (Ke2 : T4) (Ke1 : T4) (Kr : T0) (g : Env) (hg : E4 g x0 x7) (h : H) (hS : n31 x0 x7 Kn Ke2 Ke1 Kr h) : wpC none Tryd.prog 125 n29_c2 (Q10 Kn Ke2 Ke1 Kr) g h := by
  obtain ⟨hg0, hg7, hds⟩ := hg
  refine wpC_seq' (x := n31_c1) (y := n31_c2) (Q' := (Q12 (fun z0 z7 z67 h => n32 z0 z7 z67 Kn Ke2 Ke1 Kr h) Ke2 Ke1 Kr)) (by kernel_rfl) ?_ ?_
  · refine wpC_of_wpx (by kernel_rfl) (by kernel_rfl) (g' := ((⟨g.v, []⟩ : Env).upd (some 0) (S x0)).upd (some 7) (.int .i64 x7)) (by rw [env_ds hds, upd_self hg0, upd_self hg7]) ?_
    have e : (n31 x0 x7 Kn Ke2 Ke1 Kr h) = wpx none Tryd.prog 125 n31_c1 (Q12 (fun z0 z7 z67 h => n32 z0 z7 z67 Kn Ke2 Ke1 Kr h) Ke2 Ke1 Kr) (((⟨g.v, []⟩ : Env).upd (some 0) (S x0)).upd (some 7) (.int .i64 x7)) h := by kernel_rfl
    exact e ▸ hS
  · intro e g' h' hq
    cases e with
    | normal =>
      have hq : D15 (fun z0 z7 z67 h => n32 z0 z7 z67 Kn Ke2 Ke1 Kr h) g' h' := hq
      obtain ⟨y0, y7, y67, hg', hq⟩ := D15_ok hq
      exact n32_ok y0 y7 y67 Kn Ke2 Ke1 Kr g' hg' h' hq
    | _ => exact hq
abbrev n29 (x0 : List UInt8) (x7 : Int) (x58 : Bool) (Kn : T4) (Ke2 : T4) (Ke1 : T4) (Kr : T0) (h : H) : Prop := cond x58 (n30 x7 Kn Ke2 Ke1 Kr h) (n31 x0 x7 Kn Ke2 Ke1 Kr h)
theorem n29_ok (x0 : List UInt8) (x7 : Int) (x58 : Bool) (Kn : T4) (Ke2 : T4) (Ke1 : T4) (Kr : T0) (g : Env) (hg : E14 g x0 x7 x58) (h : H) (hS : n29 x0 x7 x58 Kn Ke2 Ke1 Kr h) : wpC none Tryd.prog 125 n28_c2 (Q10 Kn Ke2 Ke1 Kr) g h := by
  obtain ⟨hg0, hg7, hg58, hds⟩ := hg
  have hx : evalE 125 g (.tmp 58) = .bool x58 := by
    show cond (Nat.blt 58 125) (g.v 58) undef = _
    rw [hg58]; rfl
  unfold n29 at hS
  refine wpC_cond' (o := .tmp 58) (x := n29_c1) (y := n29_c2) (by kernel_rfl) hx (fun hb => ?_) (fun hb => ?_)
  · subst hb
    exact n30_ok x7 Kn Ke2 Ke1 Kr g ⟨hg7, hds⟩ h hS
  · subst hb
    exact n31_ok x0 x7 Kn Ke2 Ke1 Kr g ⟨hg0, hg7, hds⟩ h hS
def Q13 (Kn : T14) (Ke2 : T4) (Ke1 : T4) (Kr : T0) : XPost
  | .normal, g, h => D14 Kn g h
  | .ret, g, h => D0 Kr g h
  | .exit id, g, h => cond (Nat.beq id 2) (D4 Ke2 g h) (cond (Nat.beq id 1) (D4 Ke1 g h) (False))
  | _, _, _ => False
abbrev n28 (x0 : List UInt8) (x7 : Int) (Kn : T4) (Ke2 : T4) (Ke1 : T4) (Kr : T0) (h : H) : Prop :=
  Spl (x7 ≤ (128 : Int)) (HCalls Tryd.prog 25 ⟨[(S ([45, 45, 45, 45, 45, 45, 45, 45, 45, 45, 45, 45, 45, 45, 45, 45, 45, 45, 45, 45, 45, 45, 45, 45, 45, 45, 45, 45, 45, 45, 45, 45, 45, 45, 45, 45, 45, 45, 45, 45, 45, 45, 45, 45, 45, 45, 45, 45, 45, 45, 45, 45, 45, 45, 45, 45, 45, 45, 45, 45, 45, 45, 45, 45, 45, 45, 45, 45, 45, 45, 45, 45, 45, 45, 45, 45, 45, 45, 45, 45, 45, 45, 45, 45, 45, 45, 45, 45, 45, 45, 45, 45, 45, 45, 45, 45, 45, 45, 45, 45, 45, 45, 45, 45, 45, 45, 45, 45, 45, 45, 45, 45, 45, 45, 45, 45, 45, 45, 45, 45, 45, 45, 45, 45, 45, 45, 45, 45] : List UInt8)), (S x0)]⟩ h fun v225 h226 => vBool v225 fun b227 => cond b227 (n29 x0 x7 true Kn Ke2 Ke1 Kr h226) (n29 x0 x7 false Kn Ke2 Ke1 Kr h226)) (n29 x0 x7 false Kn Ke2 Ke1 Kr h)
theorem n28_ok (x0 : List UInt8) (x7 : Int) (Kn : T4) (Ke2 : T4) (Ke1 : T4) (Kr : T0) (g : Env) (hg : E4 g x0 x7) (h : H) (hS : n28 x0 x7 Kn Ke2 Ke1 Kr h) : wpC none Tryd.prog 125 n26_c2 (Q10 Kn Ke2 Ke1 Kr) g h := by
  obtain ⟨hg0, hg7, hds⟩ := hg
  refine wpC_seq' (x := n28_c1) (y := n28_c2) (Q' := (Q13 (fun z0 z7 z58 h => n29 z0 z7 z58 Kn Ke2 Ke1 Kr h) Ke2 Ke1 Kr)) (by kernel_rfl) ?_ ?_
  · refine wpC_of_wpx (by kernel_rfl) (by kernel_rfl) (g' := ((⟨g.v, []⟩ : Env).upd (some 0) (S x0)).upd (some 7) (.int .i64 x7)) (by rw [env_ds hds, upd_self hg0, upd_self hg7]) ?_
    have e : (n28 x0 x7 Kn Ke2 Ke1 Kr h) = wpx none Tryd.prog 125 n28_c1 (Q13 (fun z0 z7 z58 h => n29 z0 z7 z58 Kn Ke2 Ke1 Kr h) Ke2 Ke1 Kr) (((⟨g.v, []⟩ : Env).upd (some 0) (S x0)).upd (some 7) (.int .i64 x7)) h := by kernel_rfl
    exact e ▸ hS
  · intro e g' h' hq
    cases e with
    | normal =>
      have hq : D14 (fun z0 z7 z58 h => n29 z0 z7 z58 Kn Ke2 Ke1 Kr h) g' h' := hq
      obtain ⟨y0, y7, y58, hg', hq⟩ := D14_ok hq
      exact n29_ok y0 y7 y58 Kn Ke2 Ke1 Kr g' hg' h' hq
    | _ => exact hq
abbrev n26 (x0 : List UInt8) (x7 : Int) (x49 : Bool) (Kn : T4) (Ke2 : T4) (Ke1 : T4) (Kr : T0) (h : H) : Prop := cond x49 (n27 x7 Kn Ke2 Ke1 Kr h) (n28 x0 x7 Kn Ke2 Ke1 Kr h)
theorem n26_ok (x0 : List UInt8) (x7 : Int) (x49 : Bool) (Kn : T4) (Ke2 : T4) (Ke1 : T4) (Kr : T0) (g : Env) (hg : E12 g x0 x7 x49) (h : H) (hS : n26 x0 x7 x49 Kn Ke2 Ke1 Kr h) : wpC none Tryd.prog 125 n25_c2 (Q10 Kn Ke2 Ke1 Kr) g h := by
  obtain ⟨hg0, hg7, hg49, hds⟩ := hg
  have hx : evalE 125 g (.tmp 49) = .bool x49 := by
    show cond (Nat.blt 49 125) (g.v 49) undef = _
    rw [hg49]; rfl
  unfold n26 at hS
  refine wpC_cond' (o := .tmp 49) (x := n26_c1) (y := n26_c2) (by kernel_rfl) hx (fun hb => ?_) (fun hb => ?_)
  · subst hb
    exact n27_ok x7 Kn Ke2 Ke1 Kr g ⟨hg7, hds⟩ h hS
  · subst hb
    exact n28_ok x0 x7 Kn Ke2 Ke1 Kr g ⟨hg0, hg7, hds⟩ h hS
def Q14 (Kn : T12) (Ke2 : T4) (Ke1 : T4) (Kr : T0) : XPost
  | .normal, g, h => D12 Kn g h
  | .ret, g, h => D0 Kr g h
  | .exit id, g, h => cond (Nat.beq id 2) (D4 Ke2 g h) (cond (Nat.beq id 1) (D4 Ke1 g h) (False))
  | _, _, _ => False
abbrev n25 (x0 : List UInt8) (x7 : Int) (Kn : T4) (Ke2 : T4) (Ke1 : T4) (Kr : T0) (h : H) : Prop :=
  Spl (x7 ≤ (128 : Int)) (HCalls Tryd.prog 25 ⟨[(S ([32, 32, 32, 32, 32, 32, 32, 32, 32, 32, 32, 32, 32, 32, 32, 32, 32, 32, 32, 32, 32, 32, 32, 32, 32, 32, 32, 32, 32, 32, 32, 32, 32, 32, 32, 32, 32, 32, 32, 32, 32, 32, 32, 32, 32, 32, 32, 32, 32, 32, 32, 32, 32, 32, 32, 32, 32, 32, 32, 32, 32, 32, 32, 32, 32, 32, 32, 32, 32, 32, 32, 32, 32, 32, 32, 32, 32, 32, 32, 32, 32, 32, 32, 32, 32, 32, 32, 32, 32, 32, 32, 32, 32, 32, 32, 32, 32, 32, 32, 32, 32, 32, 32, 32, 32, 32, 32, 32, 32, 32, 32, 32, 32, 32, 32, 32, 32, 32, 32, 32, 32, 32, 32, 32, 32, 32, 32, 32] : List UInt8)), (S x0)]⟩ h fun v228 h229 => vBool v228 fun b230 => cond b230 (n26 x0 x7 true Kn Ke2 Ke1 Kr h229) (n26 x0 x7 false Kn Ke2 Ke1 Kr h229)) (n26 x0 x7 false Kn Ke2 Ke1 Kr h)
theorem n25_ok (x0 : List UInt8) (x7 : Int) (Kn : T4) (Ke2 : T4) (Ke1 : T4) (Kr : T0) (g : Env) (hg : E4 g x0 x7) (h : H) (hS : n25 x0 x7 Kn Ke2 Ke1 Kr h) : wpC none Tryd.prog 125 n24_c1 (Q10 Kn Ke2 Ke1 Kr) g h := by
  obtain ⟨hg0, hg7, hds⟩ := hg
  refine wpC_seq' (x := n25_c1) (y := n25_c2) (Q' := (Q14 (fun z0 z7 z49 h => n26 z0 z7 z49 Kn Ke2 Ke1 Kr h) Ke2 Ke1 Kr)) (by kernel_rfl) ?_ ?_
  · refine wpC_of_wpx (by kernel_rfl) (by kernel_rfl) (g' := ((⟨g.v, []⟩ : Env).upd (some 0) (S x0)).upd (some 7) (.int .i64 x7)) (by rw [env_ds hds, upd_self hg0, upd_self hg7]) ?_
    have e : (n25 x0 x7 Kn Ke2 Ke1 Kr h) = wpx none Tryd.prog 125 n25_c1 (Q14 (fun z0 z7 z49 h => n26 z0 z7 z49 Kn Ke2 Ke1 Kr h) Ke2 Ke1 Kr) (((⟨g.v, []⟩ : Env).upd (some 0) (S x0)).upd (some 7) (.int .i64 x7)) h := by kernel_rfl
    exact e ▸ hS
  · intro e g' h' hq
    cases e with
    | normal =>
      have hq : D12 (fun z0 z7 z49 h => n26 z0 z7 z49 Kn Ke2 Ke1 Kr h) g' h' := hq
      obtain ⟨y0, y7, y49, hg', hq⟩ := D12_ok hq
      exact n26_ok y0 y7 y49 Kn Ke2 Ke1 Kr g' hg' h' hq
    | _ => exact hq
abbrev n24 (x0 : List UInt8) (x7 : Int) (Kn : T4) (Ke1 : T4) (Kr : T0) (h : H) : Prop := n25 x0 x7 Kn Kn Ke1 Kr h
theorem n24_ok (x0 : List UInt8) (x7 : Int) (Kn : T4) (Ke1 : T4) (Kr : T0) (g : Env) (hg : E4 g x0 x7) (h : H) (hS : n24 x0 x7 Kn Ke1 Kr h) : wpC none Tryd.prog 125 n23_c1 (Q9 Kn Ke1 Kr) g h := by
  refine wpC_block' (id := 2) (x := n24_c1) (by kernel_rfl) (n25_ok x0 x7 Kn Kn Ke1 Kr g hg h hS) ?_
  intro e g' h' hq
  cases e <;> exact hq
abbrev n36 (x0 : List UInt8) (x7 : Int) (Kn : T4) (Ke1 : T4) (Kr : T0) (h : H) : Prop :=
  Kn x0 x7 h
theorem n36_ok (x0 : List UInt8) (x7 : Int) (Kn : T4) (Ke1 : T4) (Kr : T0) (g : Env) (hg : E4 g x0 x7) (h : H) (hS : n36 x0 x7 Kn Ke1 Kr h) : wpC none Tryd.prog 125 n23_c2 (Q9 Kn Ke1 Kr) g h := by
  obtain ⟨hg0, hg7, hds⟩ := hg
  refine wpC_of_wpx (by kernel_rfl) (by kernel_rfl) (g' := ((⟨g.v, []⟩ : Env).upd (some 0) (S x0)).upd (some 7) (.int .i64 x7)) (by rw [env_ds hds, upd_self hg0, upd_self hg7]) ?_
  have e : (n36 x0 x7 Kn Ke1 Kr h) = wpx none Tryd.prog 125 n23_c2 (Q9 Kn Ke1 Kr) (((⟨g.v, []⟩ : Env).upd (some 0) (S x0)).upd (some 7) (.int .i64 x7)) h := by kernel_rfl
  exact e ▸ hS
abbrev n23 (x0 : List UInt8) (x7 : Int) (x43 : Bool) (Kn : T4) (Ke1 : T4) (Kr : T0) (h : H) : Prop := cond x43 (n24 x0 x7 Kn Ke1 Kr h) (n36 x0 x7 Kn Ke1 Kr h)
theorem n23_ok (x0 : List UInt8) (x7 : Int) (x43 : Bool) (Kn : T4) (Ke1 : T4) (Kr : T0) (g : Env) (hg : E11 g x0 x7 x43) (h : H) (hS : n23 x0 x7 x43 Kn Ke1 Kr h) : wpC none Tryd.prog 125 n22_c2 (Q9 Kn Ke1 Kr) g h := by
  obtain ⟨hg0, hg7, hg43, hds⟩ := hg
  have hx : evalE 125 g (.tmp 43) = .bool x43 := by
    show cond (Nat.blt 43 125) (g.v 43) undef = _
    rw [hg43]; rfl
  unfold n23 at hS
  refine wpC_cond' (o := .tmp 43) (x := n23_c1) (y := n23_c2) (by kernel_rfl) hx (fun hb => ?_) (fun hb => ?_)
  · subst hb
    exact n24_ok x0 x7 Kn Ke1 Kr g ⟨hg0, hg7, hds⟩ h hS
  · subst hb
    exact n36_ok x0 x7 Kn Ke1 Kr g ⟨hg0, hg7, hds⟩ h hS
def Q15 (Kn : T11) (Ke1 : T4) (Kr : T0) : XPost
  | .normal, g, h => D11 Kn g h
  | .ret, g, h => D0 Kr g h
  | .exit id, g, h => cond (Nat.beq id 1) (D4 Ke1 g h) (False)
  | _, _, _ => False
noncomputable def n37_c1 : Code := cFst n22_c1
noncomputable def n37_c2 : Code := cSnd n22_c1
abbrev T17 := (List UInt8) → Int → Int → Bool → H → Prop
def E17 (g : Env) (x0 : List UInt8) (x7 : Int) (x42 : Int) (x43 : Bool) : Prop := g.v 0 = (S x0) ∧ g.v 7 = (.int .i64 x7) ∧ g.v 42 = (.int .u8 x42) ∧ g.v 43 = (.bool x43) ∧ g.ds = []
def D17 (K : T17) (g : Env) (h : H) : Prop := nilDs g.ds (vStr (g.v 0) fun s231 => vInt .i64 (g.v 7) fun i232 => vInt .u8 (g.v 42) fun i233 => vBool (g.v 43) fun b234 => K s231 i232 i233 b234 h)
theorem D17_ok {K : T17} {g : Env} {h : H} (hq : D17 K g h) : ∃ (x0 : List UInt8) (x7 : Int) (x42 : Int) (x43 : Bool), E17 g x0 x7 x42 x43 ∧ K x0 x7 x42 x43 h := by
  obtain ⟨hd, hq⟩ := nilDs_ok hq
  obtain ⟨y236, e235, q237⟩ := vStr_ok hq
  obtain ⟨y239, e238, q240⟩ := vInt_ok q237
  obtain ⟨y242, e241, q243⟩ := vInt_ok q240
  obtain ⟨y245, e244, q246⟩ := vBool_ok q243
  exact ⟨y236, y239, y242, y245, ⟨e235, e238, e241, e244, hd⟩, q246⟩
abbrev n38 (x0 : List UInt8) (x7 : Int) (x42 : Int) (x43 : Bool) (Kn : T11) (Ke1 : T4) (Kr : T0) (h : H) : Prop :=
  cond x43 (Kn x0 x7 x43 h) (Spl (x42 = (45 : Int)) (Kn x0 x7 true h) (Spl (x42 = (48 : Int)) (Kn x0 x7 true h) (Spl (x42 = (61 : Int)) (Kn x0 x7 true h) (Spl (x42 = (9 : Int)) (Kn x0 x7 true h) (Kn x0 x7 false h)))))
theorem n38_ok (x0 : List UInt8) (x7 : Int) (x42 : Int) (x43 : Bool) (Kn : T11) (Ke1 : T4) (Kr : T0) (g : Env) (hg : E17 g x0 x7 x42 x43) (h : H) (hS : n38 x0 x7 x42 x43 Kn Ke1 Kr h) : wpC none Tryd.prog 125 n37_c2 (Q15 Kn Ke1 Kr) g h := by
  obtain ⟨hg0, hg7, hg42, hg43, hds⟩ := hg
  refine wpC_of_wpx (by kernel_rfl) (by kernel_rfl) (g' := ((((⟨g.v, []⟩ : Env).upd (some 0) (S x0)).upd (some 7) (.int .i64 x7)).upd (some 42) (.int .u8 x42)).upd (some 43) (.bool x43)) (by rw [env_ds hds, upd_self hg0, upd_self hg7, upd_self hg42, upd_self hg43]) ?_
  have e : (n38 x0 x7 x42 x43 Kn Ke1 Kr h) = wpx none Tryd.prog 125 n37_c2 (Q15 Kn Ke1 Kr) (((((⟨g.v, []⟩ : Env).upd (some 0) (S x0)).upd (some 7) (.int .i64 x7)).upd (some 42) (.int .u8 x42)).upd (some 43) (.bool x43)) h := by kernel_rfl
  exact e ▸ hS
def Q16 (Kn : T17) (Ke1 : T4) (Kr : T0) : XPost
  | .normal, g, h => D17 Kn g h
  | .ret, g, h => D0 Kr g h
  | .exit id, g, h => cond (Nat.beq id 1) (D4 Ke1 g h) (False)
  | _, _, _ => False
abbrev n37 (x0 : List UInt8) (x7 : Int) (x42 : Int) (Kn : T11) (Ke1 : T4) (Kr : T0) (h : H) : Prop :=
  Spl (x42 = (32 : Int)) (n38 x0 x7 x42 true Kn Ke1 Kr h) (n38 x0 x7 x42 false Kn Ke1 Kr h)
theorem n37_ok (x0 : List UInt8) (x7 : Int) (x42 : Int) (Kn : T11) (Ke1 : T4) (Kr : T0) (g : Env) (hg : E10 g x0 x7 x42) (h : H) (hS : n37 x0 x7 x42 Kn Ke1 Kr h) : wpC none Tryd.prog 125 n22_c1 (Q15 Kn Ke1 Kr) g h := by
  obtain ⟨hg0, hg7, hg42, hds⟩ := hg
  refine wpC_seq' (x := n37_c1) (y := n37_c2) (Q' := (Q16 (fun z0 z7 z42 z43 h => n38 z0 z7 z42 z43 Kn Ke1 Kr h) Ke1 Kr)) (by kernel_rfl) ?_ ?_
  · refine wpC_of_wpx (by kernel_rfl) (by kernel_rfl) (g' := (((⟨g.v, []⟩ : Env).upd (some 0) (S x0)).upd (some 7) (.int .i64 x7)).upd (some 42) (.int .u8 x42)) (by rw [env_ds hds, upd_self hg0, upd_self hg7, upd_self hg42]) ?_
    have e : (n37 x0 x7 x42 Kn Ke1 Kr h) = wpx none Tryd.prog 125 n37_c1 (Q16 (fun z0 z7 z42 z43 h => n38 z0 z7 z42 z43 Kn Ke1 Kr h) Ke1 Kr) ((((⟨g.v, []⟩ : Env).upd (some 0) (S x0)).upd (some 7) (.int .i64 x7)).upd (some 42) (.int .u8 x42)) h := by kernel_rfl
    exact e ▸ hS
  · intro e g' h' hq
    cases e with
    | normal =>
      have hq : D17 (fun z0 z7 z42 z43 h => n38 z0 z7 z42 z43 Kn Ke1 Kr h) g' h' := hq
      obtain ⟨y0, y7, y42, y43, hg', hq⟩ := D17_ok hq
      exact n38_ok y0 y7 y42 y43 Kn Ke1 Kr g' hg' h' hq
    | _ => exact hq
abbrev n22 (x0 : List UInt8) (x7 : Int) (x42 : Int) (Kn : T4) (Ke1 : T4) (Kr : T0) (h : H) : Prop := n37 x0 x7 x42 (fun z0 z7 z43 h => n23 z0 z7 z43 Kn Ke1 Kr h) Ke1 Kr h
theorem n22_ok (x0 : List UInt8) (x7 : Int) (x42 : Int) (Kn : T4) (Ke1 : T4) (Kr : T0) (g : Env) (hg : E10 g x0 x7 x42) (h : H) (hS : n22 x0 x7 x42 Kn Ke1 Kr h) : wpC none Tryd.prog 125 n21_c1 (Q9 Kn Ke1 Kr) g h := by
  refine wpC_seq' (x := n22_c1) (y := n22_c2) (by kernel_rfl) (n37_ok x0 x7 x42 (fun z0 z7 z43 h => n23 z0 z7 z43 Kn Ke1 Kr h) Ke1 Kr g hg h hS) ?_
  intro e g' h' hq
  cases e with
  | normal =>
    have hq : D11 (fun z0 z7 z43 h => n23 z0 z7 z43 Kn Ke1 Kr h) g' h' := hq
    obtain ⟨y0, y7, y43, hg', hq⟩ := D11_ok hq
    exact n23_ok y0 y7 y43 Kn Ke1 Kr g' hg' h' hq
  | _ => exact hq
abbrev n21 (x0 : List UInt8) (x7 : Int) (x42 : Int) (Kn : T4) (Kr : T0) (h : H) : Prop := n22 x0 x7 x42 Kn Kn Kr h
theorem n21_ok (x0 : List UInt8) (x7 : Int) (x42 : Int) (Kn : T4) (Kr : T0) (g : Env) (hg : E10 g x0 x7 x42) (h : H) (hS : n21 x0 x7 x42 Kn Kr h) : wpC none Tryd.prog 125 n20_c2 (Q8 Kn Kr) g h := by
  refine wpC_block' (id := 1) (x := n21_c1) (by kernel_rfl) (n22_ok x0 x7 x42 Kn Kn Kr g hg h hS) ?_
  intro e g' h' hq
  cases e <;> exact hq
def Q17 (Kn : T10) (Kr : T0) : XPost
  | .normal, g, h => D10 Kn g h
  | .ret, g, h => D0 Kr g h
  | _, _, _ => False
abbrev n20 (x0 : List UInt8) (x7 : Int) (Kn : T4) (Kr : T0) (h : H) : Prop :=
  (0 ≤ (0 : Int) ∧ (0 : Int) < (x0.length : Int)) ∧ (n21 x0 x7 ((List.getD x0 (Int.toNat (0 : Int)) 0).toNat : Int) Kn Kr h)
theorem n20_ok (x0 : List UInt8) (x7 : Int) (Kn : T4) (Kr : T0) (g : Env) (hg : E4 g x0 x7) (h : H) (hS : n20 x0 x7 Kn Kr h) : wpC none Tryd.prog 125 n8_c1 (Q8 Kn Kr) g h := by
  obtain ⟨hg0, hg7, hds⟩ := hg
  refine wpC_seq' (x := n20_c1) (y := n20_c2) (Q' := (Q17 (fun z0 z7 z42 h => n21 z0 z7 z42 Kn Kr h) Kr)) (by kernel_rfl) ?_ ?_
  · refine wpC_of_wpx (by kernel_rfl) (by kernel_rfl) (g' := ((⟨g.v, []⟩ : Env).upd (some 0) (S x0)).upd (some 7) (.int .i64 x7)) (by rw [env_ds hds, upd_self hg0, upd_self hg7]) ?_
    have e : (n20 x0 x7 Kn Kr h) = wpx none Tryd.prog 125 n20_c1 (Q17 (fun z0 z7 z42 h => n21 z0 z7 z42 Kn Kr h) Kr) (((⟨g.v, []⟩ : Env).upd (some 0) (S x0)).upd (some 7) (.int .i64 x7)) h := by kernel_rfl
    exact e ▸ hS
  · intro e g' h' hq
    cases e with
    | normal =>
      have hq : D10 (fun z0 z7 z42 h => n21 z0 z7 z42 Kn Kr h) g' h' := hq
      obtain ⟨y0, y7, y42, hg', hq⟩ := D10_ok hq
      exact n21_ok y0 y7 y42 Kn Kr g' hg' h' hq
    | _ => exact hq
abbrev n8 (x0 : List UInt8) (x7 : Int) (Kn : T0) (Kr : T0) (h : H) : Prop := n20 x0 x7 (fun z0 z7 h => n9 z0 z7 Kn Kr h) Kr h
theorem n8_ok (x0 : List UInt8) (x7 : Int) (Kn : T0) (Kr : T0) (g : Env) (hg : E4 g x0 x7) (h : H) (hS : n8 x0 x7 Kn Kr h) : wpC none Tryd.prog 125 n7_c2 (Q0 Kn Kr) g h := by
  refine wpC_seq' (x := n8_c1) (y := n8_c2) (by kernel_rfl) (n20_ok x0 x7 (fun z0 z7 h => n9 z0 z7 Kn Kr h) Kr g hg h hS) ?_
  intro e g' h' hq
  cases e with
  | normal =>
    have hq : D4 (fun z0 z7 h => n9 z0 z7 Kn Kr h) g' h' := hq
    obtain ⟨y0, y7, hg', hq⟩ := D4_ok hq
    exact n9_ok y0 y7 Kn Kr g' hg' h' hq
  | _ => exact hq
abbrev n7 (x0 : List UInt8) (x7 : Int) (Kn : T0) (Kr : T0) (h : H) : Prop :=
  Spl ((x0.length : Int) = (0 : Int)) (Kr ([] : List UInt8) h) (n8 x0 x7 Kn Kr h)
theorem n7_ok (x0 : List UInt8) (x7 : Int) (Kn : T0) (Kr : T0) (g : Env) (hg : E4 g x0 x7) (h : H) (hS : n7 x0 x7 Kn Kr h) : wpC none Tryd.prog 125 n6_c2 (Q0 Kn Kr) g h := by
  obtain ⟨hg0, hg7, hds⟩ := hg
  refine wpC_seq' (x := n7_c1) (y := n7_c2) (Q' := (Q8 (fun z0 z7 h => n8 z0 z7 Kn Kr h) Kr)) (by kernel_rfl) ?_ ?_
  · refine wpC_of_wpx (by kernel_rfl) (by kernel_rfl) (g' := ((⟨g.v, []⟩ : Env).upd (some 0) (S x0)).upd (some 7) (.int .i64 x7)) (by rw [env_ds hds, upd_self hg0, upd_self hg7]) ?_
    have e : (n7 x0 x7 Kn Kr h) = wpx none Tryd.prog 125 n7_c1 (Q8 (fun z0 z7 h => n8 z0 z7 Kn Kr h) Kr) (((⟨g.v, []⟩ : Env).upd (some 0) (S x0)).upd (some 7) (.int .i64 x7)) h := by kernel_rfl
    exact e ▸ hS
  · intro e g' h' hq
    cases e with
    | normal =>
      have hq : D4 (fun z0 z7 h => n8 z0 z7 Kn Kr h) g' h' := hq
      obtain ⟨y0, y7, hg', hq⟩ := D4_ok hq
      exact n8_ok y0 y7 Kn Kr g' hg' h' hq
    | _ => exact hq
abbrev n6 (x0 : List UInt8) (x6 : Int) (Kn : T0) (Kr : T0) (h : H) : Prop :=
  n7 x0 (IntKind.wrap .i64 x6) Kn Kr h
theorem n6_ok (x0 : List UInt8) (x6 : Int) (Kn : T0) (Kr : T0) (g : Env) (hg : E3 g x0 x6) (h : H) (hS : n6 x0 x6 Kn Kr h) : wpC none Tryd.prog 125 n5_c2 (Q0 Kn Kr) g h := by
  obtain ⟨hg0, hg6, hds⟩ := hg
  refine wpC_seq' (x := n6_c1) (y := n6_c2) (Q' := (Q8 (fun z0 z7 h => n7 z0 z7 Kn Kr h) Kr)) (by kernel_rfl) ?_ ?_
  · refine wpC_of_wpx (by kernel_rfl) (by kernel_rfl) (g' := ((⟨g.v, []⟩ : Env).upd (some 0) (S x0)).upd (some 6) (.int .u64 x6)) (by rw [env_ds hds, upd_self hg0, upd_self hg6]) ?_
    have e : (n6 x0 x6 Kn Kr h) = wpx none Tryd.prog 125 n6_c1 (Q8 (fun z0 z7 h => n7 z0 z7 Kn Kr h) Kr) (((⟨g.v, []⟩ : Env).upd (some 0) (S x0)).upd (some 6) (.int .u64 x6)) h := by kernel_rfl
    exact e ▸ hS
  · intro e g' h' hq
    cases e with
    | normal =>
      have hq : D4 (fun z0 z7 h => n7 z0 z7 Kn Kr h) g' h' := hq
      obtain ⟨y0, y7, hg', hq⟩ := D4_ok hq
      exact n7_ok y0 y7 Kn Kr g' hg' h' hq
    | _ => exact hq
def Q18 (Kn : T3) (Kr : T0) : XPost
  | .normal, g, h => D3 Kn g h
  | .ret, g, h => D0 Kr g h
  | _, _, _ => False
abbrev n5 (x0 : List UInt8) (x5 : Int) (x6 : Int) (Kn : T0) (Kr : T0) (h : H) : Prop :=
  Spl (x5 > (0 : Int)) (False) (Spl (x6 > (9223372036854775807 : Int)) (False) (n6 x0 x6 Kn Kr h))
theorem n5_ok (x0 : List UInt8) (x5 : Int) (x6 : Int) (Kn : T0) (Kr : T0) (g : Env) (hg : E2 g x0 x5 x6) (h : H) (hS : n5 x0 x5 x6 Kn Kr h) : wpC none Tryd.prog 125 n4_c2 (Q0 Kn Kr) g h := by
  obtain ⟨hg0, hg5, hg6, hds⟩ := hg
  refine wpC_seq' (x := n5_c1) (y := n5_c2) (Q' := (Q18 (fun z0 z6 h => n6 z0 z6 Kn Kr h) Kr)) (by kernel_rfl) ?_ ?_
  · refine wpC_of_wpx (by kernel_rfl) (by kernel_rfl) (g' := (((⟨g.v, []⟩ : Env).upd (some 0) (S x0)).upd (some 5) (.int .u64 x5)).upd (some 6) (.int .u64 x6)) (by rw [env_ds hds, upd_self hg0, upd_self hg5, upd_self hg6]) ?_
    have e : (n5 x0 x5 x6 Kn Kr h) = wpx none Tryd.prog 125 n5_c1 (Q18 (fun z0 z6 h => n6 z0 z6 Kn Kr h) Kr) ((((⟨g.v, []⟩ : Env).upd (some 0) (S x0)).upd (some 5) (.int .u64 x5)).upd (some 6) (.int .u64 x6)) h := by kernel_rfl
    exact e ▸ hS
  · intro e g' h' hq
    cases e with
    | normal =>
      have hq : D3 (fun z0 z6 h => n6 z0 z6 Kn Kr h) g' h' := hq
      obtain ⟨y0, y6, hg', hq⟩ := D3_ok hq
      exact n6_ok y0 y6 Kn Kr g' hg' h' hq
    | _ => exact hq
def Q19 (Kn : T2) (Kr : T0) : XPost
  | .normal, g, h => D2 Kn g h
  | .ret, g, h => D0 Kr g h
  | _, _, _ => False
abbrev n4 (x0 : List UInt8) (x1 : Int) (Kn : T0) (Kr : T0) (h : H) : Prop :=
  HCalls Tryd.prog 24 ⟨[(.int .u64 (IntKind.wrap .u64 (x0.length : Int))), (.int .u64 (IntKind.wrap .u64 x1))]⟩ h fun v247 h248 => vTup v247 fun l249 => uncons l249 fun e250 l251 => vInt .u64 e250 fun i252 => uncons l251 fun e253 l254 => vInt .u64 e253 fun i255 => unnil l254 (n5 x0 i252 i255 Kn Kr h248)
theorem n4_ok (x0 : List UInt8) (x1 : Int) (Kn : T0) (Kr : T0) (g : Env) (hg : E1 g x0 x1) (h : H) (hS : n4 x0 x1 Kn Kr h) : wpC none Tryd.prog 125 n3_c2 (Q0 Kn Kr) g h := by
  obtain ⟨hg0, hg1, hds⟩ := hg
  refine wpC_seq' (x := n4_c1) (y := n4_c2) (Q' := (Q19 (fun z0 z5 z6 h => n5 z0 z5 z6 Kn Kr h) Kr)) (by kernel_rfl) ?_ ?_
  · refine wpC_of_wpx (by kernel_rfl) (by kernel_rfl) (g' := ((⟨g.v, []⟩ : Env).upd (some 0) (S x0)).upd (some 1) (.int .i64 x1)) (by rw [env_ds hds, upd_self hg0, upd_self hg1]) ?_
    have e : (n4 x0 x1 Kn Kr h) = wpx none Tryd.prog 125 n4_c1 (Q19 (fun z0 z5 z6 h => n5 z0 z5 z6 Kn Kr h) Kr) (((⟨g.v, []⟩ : Env).upd (some 0) (S x0)).upd (some 1) (.int .i64 x1)) h := by kernel_rfl
    exact e ▸ hS
  · intro e g' h' hq
    cases e with
    | normal =>
      have hq : D2 (fun z0 z5 z6 h => n5 z0 z5 z6 Kn Kr h) g' h' := hq
      obtain ⟨y0, y5, y6, hg', hq⟩ := D2_ok hq
      exact n5_ok y0 y5 y6 Kn Kr g' hg' h' hq
    | _ => exact hq
def Q20 (Kn : T1) (Kr : T0) : XPost
  | .normal, g, h => D1 Kn g h
  | .ret, g, h => D0 Kr g h
  | _, _, _ => False
abbrev n3 (x0 : List UInt8) (x1 : Int) (Kn : T0) (Kr : T0) (h : H) : Prop :=
  Spl (x1 < (0 : Int)) (False) (n4 x0 x1 Kn Kr h)
theorem n3_ok (x0 : List UInt8) (x1 : Int) (Kn : T0) (Kr : T0) (g : Env) (hg : E1 g x0 x1) (h : H) (hS : n3 x0 x1 Kn Kr h) : wpC none Tryd.prog 125 n2_c2 (Q0 Kn Kr) g h := by
  obtain ⟨hg0, hg1, hds⟩ := hg
  refine wpC_seq' (x := n3_c1) (y := n3_c2) (Q' := (Q20 (fun z0 z1 h => n4 z0 z1 Kn Kr h) Kr)) (by kernel_rfl) ?_ ?_
  · refine wpC_of_wpx (by kernel_rfl) (by kernel_rfl) (g' := ((⟨g.v, []⟩ : Env).upd (some 0) (S x0)).upd (some 1) (.int .i64 x1)) (by rw [env_ds hds, upd_self hg0, upd_self hg1]) ?_
    have e : (n3 x0 x1 Kn Kr h) = wpx none Tryd.prog 125 n3_c1 (Q20 (fun z0 z1 h => n4 z0 z1 Kn Kr h) Kr) (((⟨g.v, []⟩ : Env).upd (some 0) (S x0)).upd (some 1) (.int .i64 x1)) h := by kernel_rfl
    exact e ▸ hS
  · intro e g' h' hq
    cases e with
    | normal =>
      have hq : D1 (fun z0 z1 h => n4 z0 z1 Kn Kr h) g' h' := hq
      obtain ⟨y0, y1, hg', hq⟩ := D1_ok hq
      exact n4_ok y0 y1 Kn Kr g' hg' h' hq
    | _ => exact hq
abbrev n2 (x0 : List UInt8) (x1 : Int) (Kn : T0) (Kr : T0) (h : H) : Prop :=
  Spl (x1 = (0 : Int)) (Kr ([] : List UInt8) h) (Spl (x1 = (1 : Int)) (Kr x0 h) (n3 x0 x1 Kn Kr h))
theorem n2_ok (x0 : List UInt8) (x1 : Int) (Kn : T0) (Kr : T0) (g : Env) (hg : E1 g x0 x1) (h : H) (hS : n2 x0 x1 Kn Kr h) : wpC none Tryd.prog 125 n1_c2 (Q0 Kn Kr) g h := by
  obtain ⟨hg0, hg1, hds⟩ := hg
  refine wpC_seq' (x := n2_c1) (y := n2_c2) (Q' := (Q20 (fun z0 z1 h => n3 z0 z1 Kn Kr h) Kr)) (by kernel_rfl) ?_ ?_
  · refine wpC_of_wpx (by kernel_rfl) (by kernel_rfl) (g' := ((⟨g.v, []⟩ : Env).upd (some 0) (S x0)).upd (some 1) (.int .i64 x1)) (by rw [env_ds hds, upd_self hg0, upd_self hg1]) ?_
    have e : (n2 x0 x1 Kn Kr h) = wpx none Tryd.prog 125 n2_c1 (Q20 (fun z0 z1 h => n3 z0 z1 Kn Kr h) Kr) (((⟨g.v, []⟩ : Env).upd (some 0) (S x0)).upd (some 1) (.int .i64 x1)) h := by kernel_rfl
    exact e ▸ hS
  · intro e g' h' hq
    cases e with
    | normal =>
      have hq : D1 (fun z0 z1 h => n3 z0 z1 Kn Kr h) g' h' := hq
      obtain ⟨y0, y1, hg', hq⟩ := D1_ok hq
      exact n3_ok y0 y1 Kn Kr g' hg' h' hq
    | _ => exact hq
abbrev n1 (x0 : List UInt8) (x1 : Int) (Kn : T0) (Kr : T0) (h : H) : Prop :=
  n2 x0 x1 Kn Kr h
theorem n1_ok (x0 : List UInt8) (x1 : Int) (Kn : T0) (Kr : T0) (g : Env) (hg : E1 g x0 x1) (h : H) (hS : n1 x0 x1 Kn Kr h) : wpC none Tryd.prog 125 code (Q0 Kn Kr) g h := by
  obtain ⟨hg0, hg1, hds⟩ := hg
  refine wpC_seq' (x := n1_c1) (y := n1_c2) (Q' := (Q20 (fun z0 z1 h => n2 z0 z1 Kn Kr h) Kr)) (by kernel_rfl) ?_ ?_
  · refine wpC_of_wpx (by kernel_rfl) (by kernel_rfl) (g' := ((⟨g.v, []⟩ : Env).upd (some 0) (S x0)).upd (some 1) (.int .i64 x1)) (by rw [env_ds hds, upd_self hg0, upd_self hg1]) ?_
    have e : (n1 x0 x1 Kn Kr h) = wpx none Tryd.prog 125 n1_c1 (Q20 (fun z0 z1 h => n2 z0 z1 Kn Kr h) Kr) (((⟨g.v, []⟩ : Env).upd (some 0) (S x0)).upd (some 1) (.int .i64 x1)) h := by kernel_rfl
    exact e ▸ hS
  · intro e g' h' hq
    cases e with
    | normal =>
      have hq : D1 (fun z0 z1 h => n2 z0 z1 Kn Kr h) g' h' := hq
      obtain ⟨y0, y1, hg', hq⟩ := D1_ok hq
      exact n2_ok y0 y1 Kn Kr g' hg' h' hq
    | _ => exact hq
/-- WHAT strings.Repeat ASKS -/
abbrev asks (x0 : List UInt8) (x1 : Int) (K : Value → H → Prop) (h : H) : Prop := n1 x0 x1 (fun y4 h => K (S y4) h) (fun y4 h => K (S y4) h) h
theorem ok (x0 : List UInt8) (x1 : Int) (K : Value → H → Prop) (h : H) (hS : asks x0 x1 K h) : HCalls Tryd.prog 19 ⟨[(S x0), (.int .i64 x1)]⟩ h K := by
  refine calls_of_wpC (c := code) Tryd.func19 (by kernel_rfl) (Nat.le_of_ble_eq_true (by kernel_rfl)) ?_
  refine (n1_ok x0 x1 (fun y4 h => K (S y4) h) (fun y4 h => K (S y4) h) (env0 [(S x0), (.int .i64 x1)]) ⟨rfl, rfl, rfl⟩ h hS).mono ?_
  intro e g' h' hq
  cases e with
  | normal =>
    have hq : D0 (fun y4 h => K (S y4) h) g' h' := hq
    obtain ⟨y4, ⟨hg4, hd⟩, hq⟩ := D0_ok hq
    show leaveX g'.ds h' _
    rw [hd]
    show K (g'.v 4) h'
    rw [hg4]
    exact hq
  | ret =>
    have hq : D0 (fun y4 h => K (S y4) h) g' h' := hq
    obtain ⟨y4, ⟨hg4, hd⟩, hq⟩ := D0_ok hq
    show leaveX g'.ds h' _
    rw [hd]
    show K (g'.v 4) h'
    rw [hg4]
    exact hq
  | _ => exact hq
end Sx.strings_Repeat

/-! ### tympan/tympanref21.blank -/
namespace Sx.r21_blank
noncomputable def code : Code := bodyOf Tryd.f20
abbrev T0 := Bool → H → Prop
def E0 (g : Env) (x2 : Bool) : Prop := g.v 2 = (.bool x2) ∧ g.ds = []
def D0 (K : T0) (g : Env) (h : H) : Prop := nilDs g.ds (vBool (g.v 2) fun b1 => K b1 h)
theorem D0_ok {K : T0} {g : Env} {h : H} (hq : D0 K g h) : ∃ (x2 : Bool), E0 g x2 ∧ K x2 h := by
  obtain ⟨hd, hq⟩ := nilDs_ok hq
  obtain ⟨y3, e2, q4⟩ := vBool_ok hq
  exact ⟨y3, ⟨e2, hd⟩, q4⟩
def Q0 (Kn : T0) (Kr : T0) : XPost
  | .normal, g, h => D0 Kn g h
  | .ret, g, h => D0 Kr g h
  | _, _, _ => False
abbrev T1 := Int → H → Prop
def E1 (g : Env) (x0 : Int) : Prop := g.v 0 = (.int .u8 x0) ∧ g.ds = []
def D1 (K : T1) (g : Env) (h : H) : Prop := nilDs g.ds (vInt .u8 (g.v 0) fun i5 => K i5 h)
theorem D1_ok {K : T1} {g : Env} {h : H} (hq : D1 K g h) : ∃ (x0 : Int), E1 g x0 ∧ K x0 h := by
  obtain ⟨hd, hq⟩ := nilDs_ok hq
  obtain ⟨y7, e6, q8⟩ := vInt_ok hq
  exact ⟨y7, ⟨e6, hd⟩, q8⟩
abbrev n1 (x0 : Int) (Kn : T0) (Kr : T0) (h : H) : Prop :=
  Spl (x0 = (32 : Int)) (Kr true h) (Spl (x0 = (9 : Int)) (Kr true h) (Kr false h))
theorem n1_ok (x0 : Int) (Kn : T0) (Kr : T0) (g : Env) (hg : E1 g x0) (h : H) (hS : n1 x0 Kn Kr h) : wpC none Tryd.prog 9 code (Q0 Kn Kr) g h := by
  obtain ⟨hg0, hds⟩ := hg
  refine wpC_of_wpx (by kernel_rfl) (by kernel_rfl) (g' := (⟨g.v, []⟩ : Env).upd (some 0) (.int .u8 x0)) (by rw [env_ds hds, upd_self hg0]) ?_
  have e : (n1 x0 Kn Kr h) = wpx none Tryd.prog 9 code (Q0 Kn Kr) ((⟨g.v, []⟩ : Env).upd (some 0) (.int .u8 x0)) h := by kernel_rfl
  exact e ▸ hS
/-- WHAT tympan/tympanref21.blank ASKS -/
abbrev asks (x0 : Int) (K : Value → H → Prop) (h : H) : Prop := n1 x0 (fun y2 h => K (.bool y2) h) (fun y2 h => K (.bool y2) h) h
theorem ok (x0 : Int) (K : Value → H → Prop) (h : H) (hS : asks x0 K h) : HCalls Tryd.prog 20 ⟨[(.int .u8 x0)]⟩ h K := by
  refine calls_of_wpC (c := code) Tryd.func20 (by kernel_rfl) (Nat.le_of_ble_eq_true (by kernel_rfl)) ?_
  refine (n1_ok x0 (fun y2 h => K (.bool y2) h) (fun y2 h => K (.bool y2) h) (env0 [(.int .u8 x0)]) ⟨rfl, rfl⟩ h hS).mono ?_
  intro e g' h' hq
  cases e with
  | normal =>
    have hq : D0 (fun y2 h => K (.bool y2) h) g' h' := hq
    obtain ⟨y2, ⟨hg2, hd⟩, hq⟩ := D0_ok hq
    show leaveX g'.ds h' _
    rw [hd]
    show K (g'.v 2) h'
    rw [hg2]
    exact hq
  | ret =>
    have hq : D0 (fun y2 h => K (.bool y2) h) g' h' := hq
    obtain ⟨y2, ⟨hg2, hd⟩, hq⟩ := D0_ok hq
    show leaveX g'.ds h' _
    rw [hd]
    show K (g'.v 2) h'
    rw [hg2]
    exact hq
  | _ => exact hq
end Sx.r21_blank

/-! ### tympan/tympanref21.ends -/
namespace Sx.r21_ends
noncomputable def code : Code := bodyOf Tryd.f21
abbrev T0 := Int → H → Prop
def E0 (g : Env) (x4 : Int) : Prop := g.v 4 = (.int .i64 x4) ∧ g.ds = []
def D0 (K : T0) (g : Env) (h : H) : Prop := nilDs g.ds (vInt .i64 (g.v 4) fun i1 => K i1 h)
theorem D0_ok {K : T0} {g : Env} {h : H} (hq : D0 K g h) : ∃ (x4 : Int), E0 g x4 ∧ K x4 h := by
  obtain ⟨hd, hq⟩ := nilDs_ok hq
  obtain ⟨y3, e2, q4⟩ := vInt_ok hq
  exact ⟨y3, ⟨e2, hd⟩, q4⟩
def Q0 (Kn : T0) (Kr : T0) : XPost
  | .normal, g, h => D0 Kn g h
  | .ret, g, h => D0 Kr g h
  | _, _, _ => False
abbrev T1 := Int → Int → H → Prop
def E1 (g : Env) (x0 : Int) (x1 : Int) : Prop := g.v 0 = (.int .u8 x0) ∧ g.v 1 = (.int .i64 x1) ∧ g.ds = []
def D1 (K : T1) (g : Env) (h : H) : Prop := nilDs g.ds (vInt .u8 (g.v 0) fun i5 => vInt .i64 (g.v 1) fun i6 => K i5 i6 h)
theorem D1_ok {K : T1} {g : Env} {h : H} (hq : D1 K g h) : ∃ (x0 : Int) (x1 : Int), E1 g x0 x1 ∧ K x0 x1 h := by
  obtain ⟨hd, hq⟩ := nilDs_ok hq
  obtain ⟨y8, e7, q9⟩ := vInt_ok hq
  obtain ⟨y11, e10, q12⟩ := vInt_ok q9
  exact ⟨y8, y11, ⟨e7, e10, hd⟩, q12⟩
abbrev n1 (x0 : Int) (x1 : Int) (Kn : T0) (Kr : T0) (h : H) : Prop :=
  Spl (x0 = (9 : Int)) ((4 : Int) ≠ 0 ∧ (Rng .i64 (x1 - (Int.tmod x1 (4 : Int))) ∧ (Rng .i64 ((x1 - (Int.tmod x1 (4 : Int))) + (4 : Int)) ∧ (Kr ((x1 - (Int.tmod x1 (4 : Int))) + (4 : Int)) h)))) (Rng .i64 (x1 + (1 : Int)) ∧ (Kr (x1 + (1 : Int)) h))
theorem n1_ok (x0 : Int) (x1 : Int) (Kn : T0) (Kr : T0) (g : Env) (hg : E1 g x0 x1) (h : H) (hS : n1 x0 x1 Kn Kr h) : wpC none Tryd.prog 14 code (Q0 Kn Kr) g h := by
  obtain ⟨hg0, hg1, hds⟩ := hg
  refine wpC_of_wpx (by kernel_rfl) (by kernel_rfl) (g' := ((⟨g.v, []⟩ : Env).upd (some 0) (.int .u8 x0)).upd (some 1) (.int .i64 x1)) (by rw [env_ds hds, upd_self hg0, upd_self hg1]) ?_
  have e : (n1 x0 x1 Kn Kr h) = wpx none Tryd.prog 14 code (Q0 Kn Kr) (((⟨g.v, []⟩ : Env).upd (some 0) (.int .u8 x0)).upd (some 1) (.int .i64 x1)) h := by kernel_rfl
  exact e ▸ hS
/-- WHAT tympan/tympanref21.ends ASKS -/
abbrev asks (x0 : Int) (x1 : Int) (K : Value → H → Prop) (h : H) : Prop := n1 x0 x1 (fun y4 h => K (.int .i64 y4) h) (fun y4 h => K (.int .i64 y4) h) h
theorem ok (x0 : Int) (x1 : Int) (K : Value → H → Prop) (h : H) (hS : asks x0 x1 K h) : HCalls Tryd.prog 21 ⟨[(.int .u8 x0), (.int .i64 x1)]⟩ h K := by
  refine calls_of_wpC (c := code) Tryd.func21 (by kernel_rfl) (Nat.le_of_ble_eq_true (by kernel_rfl)) ?_
  refine (n1_ok x0 x1 (fun y4 h => K (.int .i64 y4) h) (fun y4 h => K (.int .i64 y4) h) (env0 [(.int .u8 x0), (.int .i64 x1)]) ⟨rfl, rfl, rfl⟩ h hS).mono ?_
  intro e g' h' hq
  cases e with
  | normal =>
    have hq : D0 (fun y4 h => K (.int .i64 y4) h) g' h' := hq
    obtain ⟨y4, ⟨hg4, hd⟩, hq⟩ := D0_ok hq
    show leaveX g'.ds h' _
    rw [hd]
    show K (g'.v 4) h'
    rw [hg4]
    exact hq
  | ret =>
    have hq : D0 (fun y4 h => K (.int .i64 y4) h) g' h' := hq
    obtain ⟨y4, ⟨hg4, hd⟩, hq⟩ := D0_ok hq
    show leaveX g'.ds h' _
    rw [hd]
    show K (g'.v 4) h'
    rw [hg4]
    exact hq
  | _ => exact hq
end Sx.r21_ends

/-! ### tympan/tympanref21.front -/
namespace Sx.r21_front
noncomputable def code : Code := bodyOf Tryd.f22
abbrev T0 := Int → H → Prop
def E0 (g : Env) (x2 : Int) : Prop := g.v 2 = (.int .i64 x2) ∧ g.ds = []
def D0 (K : T0) (g : Env) (h : H) : Prop := nilDs g.ds (vInt .i64 (g.v 2) fun i1 => K i1 h)
theorem D0_ok {K : T0} {g : Env} {h : H} (hq : D0 K g h) : ∃ (x2 : Int), E0 g x2 ∧ K x2 h := by
  obtain ⟨hd, hq⟩ := nilDs_ok hq
  obtain ⟨y3, e2, q4⟩ := vInt_ok hq
  exact ⟨y3, ⟨e2, hd⟩, q4⟩
def Q0 (Kn : T0) (Kr : T0) : XPost
  | .normal, g, h => D0 Kn g h
  | .ret, g, h => D0 Kr g h
  | _, _, _ => False
abbrev T1 := (List UInt8) → H → Prop
def E1 (g : Env) (x0 : List UInt8) : Prop := g.v 0 = (S x0) ∧ g.ds = []
def D1 (K : T1) (g : Env) (h : H) : Prop := nilDs g.ds (vStr (g.v 0) fun s5 => K s5 h)
theorem D1_ok {K : T1} {g : Env} {h : H} (hq : D1 K g h) : ∃ (x0 : List UInt8), E1 g x0 ∧ K x0 h := by
  obtain ⟨hd, hq⟩ := nilDs_ok hq
  obtain ⟨y7, e6, q8⟩ := vStr_ok hq
  exact ⟨y7, ⟨e6, hd⟩, q8⟩
noncomputable def n1_c1 : Code := cFst code
noncomputable def n1_c2 : Code := cSnd code
noncomputable def n2_c1 : Code := cFst n1_c2
noncomputable def n2_c2 : Code := cSnd n1_c2
abbrev T2 := (List UInt8) → Int → H → Prop
def E2 (g : Env) (x0 : List UInt8) (x3 : Int) : Prop := g.v 0 = (S x0) ∧ g.v 3 = (.int .i64 x3) ∧ g.ds = []
def D2 (K : T2) (g : Env) (h : H) : Prop := nilDs g.ds (vStr (g.v 0) fun s9 => vInt .i64 (g.v 3) fun i10 => K s9 i10 h)
theorem D2_ok {K : T2} {g : Env} {h : H} (hq : D2 K g h) : ∃ (x0 : List UInt8) (x3 : Int), E2 g x0 x3 ∧ K x0 x3 h := by
  obtain ⟨hd, hq⟩ := nilDs_ok hq
  obtain ⟨y12, e11, q13⟩ := vStr_ok hq
  obtain ⟨y15, e14, q16⟩ := vInt_ok q13
  exact ⟨y12, y15, ⟨e11, e14, hd⟩, q16⟩
noncomputable def n3_c1 : Code := cFst n2_c2
noncomputable def n3_c2 : Code := cSnd n2_c2
abbrev T3 := Int → H → Prop
def E3 (g : Env) (x3 : Int) : Prop := g.v 3 = (.int .i64 x3) ∧ g.ds = []
def D3 (K : T3) (g : Env) (h : H) : Prop := nilDs g.ds (vInt .i64 (g.v 3) fun i17 => K i17 h)
theorem D3_ok {K : T3} {g : Env} {h : H} (hq : D3 K g h) : ∃ (x3 : Int), E3 g x3 ∧ K x3 h := by
  obtain ⟨hd, hq⟩ := nilDs_ok hq
  obtain ⟨y19, e18, q20⟩ := vInt_ok hq
  exact ⟨y19, ⟨e18, hd⟩, q20⟩
abbrev n4 (x3 : Int) (Kn : T0) (Kr : T0) (h : H) : Prop :=
  Kr x3 h
theorem n4_ok (x3 : Int) (Kn : T0) (Kr : T0) (g : Env) (hg : E3 g x3) (h : H) (hS : n4 x3 Kn Kr h) : wpC none Tryd.prog 17 n3_c2 (Q0 Kn Kr) g h := by
  obtain ⟨hg3, hds⟩ := hg
  refine wpC_of_wpx (by kernel_rfl) (by kernel_rfl) (g' := (⟨g.v, []⟩ : Env).upd (some 3) (.int .i64 x3)) (by rw [env_ds hds, upd_self hg3]) ?_
  have e : (n4 x3 Kn Kr h) = wpx none Tryd.prog 17 n3_c2 (Q0 Kn Kr) ((⟨g.v, []⟩ : Env).upd (some 3) (.int .i64 x3)) h := by kernel_rfl
  exact e ▸ hS
def Q1 (Kn : T3) (Kr : T0) : XPost
  | .normal, g, h => D3 Kn g h
  | .ret, g, h => D0 Kr g h
  | _, _, _ => False
noncomputable def n5_c1 : Code := cFst n3_c1
def Q2 (Kn : T3) (Ke0 : T3) (Kr : T0) : XPost
  | .normal, g, h => D3 Kn g h
  | .ret, g, h => D0 Kr g h
  | .exit id, g, h => cond (Nat.beq id 0) (D3 Ke0 g h) (False)
  | _, _, _ => False
noncomputable def n6_c1 : Code := cFst n5_c1
def Q3 (Kn : T2) (Ke0 : T3) (Kr : T0) : XPost
  | .normal, g, h => D2 Kn g h
  | .ret, g, h => D0 Kr g h
  | .exit id, g, h => cond (Nat.beq id 0) (D3 Ke0 g h) (False)
  | _, _, _ => False
def n6_L (Kn : T3) (Ke0 : T3) (Kr : T0) : Nat → (List UInt8) → Int → H → Prop
  | 0 => fun _ _ _ => False
  | N + 1 => fun x0 x3 h => Spl (x3 < (x0.length : Int)) ((0 ≤ x3 ∧ x3 < (x0.length : Int)) ∧ (HCalls Tryd.prog 20 ⟨[(.int .u8 ((List.getD x0 (Int.toNat x3) 0).toNat : Int))]⟩ h fun v21 h22 => vBool v21 fun b23 => cond b23 (Rng .i64 (x3 + (1 : Int)) ∧ (n6_L Kn Ke0 Kr N x0 (x3 + (1 : Int)) h22)) (Ke0 x3 h22))) (Ke0 x3 h)
abbrev n6 (x0 : List UInt8) (x3 : Int) (Kn : T3) (Ke0 : T3) (Kr : T0) (h : H) : Prop := ∃ N, n6_L Kn Ke0 Kr N x0 x3 h
theorem n6_ok (x0 : List UInt8) (x3 : Int) (Kn : T3) (Ke0 : T3) (Kr : T0) (g : Env) (hg : E2 g x0 x3) (h : H) (hS : n6 x0 x3 Kn Ke0 Kr h) : wpC none Tryd.prog 17 n5_c1 (Q2 Kn Ke0 Kr) g h := by
  obtain ⟨N0, hS⟩ := hS
  refine wpC_loop' (x := n6_c1) (by kernel_rfl) (fun k g h => ∃ (x0 : List UInt8) (x3 : Int), E2 g x0 x3 ∧ n6_L Kn Ke0 Kr k x0 x3 h) (fun g h hr => ?_) (fun N g h hr => ?_) N0 ⟨x0, x3, hg, hS⟩
  · obtain ⟨x0, x3, hg, hS⟩ := hr
    exact hS.elim
  · obtain ⟨x0, x3, hg, hS⟩ := hr
    have hw : wpC none Tryd.prog 17 n6_c1 (Q3 (fun z0 z3 h => n6_L Kn Ke0 Kr N z0 z3 h) Ke0 Kr) g h := by
      obtain ⟨hg0, hg3, hds⟩ := hg
      refine wpC_of_wpx (by kernel_rfl) (by kernel_rfl) (g' := ((⟨g.v, []⟩ : Env).upd (some 0) (S x0)).upd (some 3) (.int .i64 x3)) (by rw [env_ds hds, upd_self hg0, upd_self hg3]) ?_
      have e : (n6_L Kn Ke0 Kr (N + 1) x0 x3 h) = wpx none Tryd.prog 17 n6_c1 (Q3 (fun z0 z3 h => n6_L Kn Ke0 Kr N z0 z3 h) Ke0 Kr) (((⟨g.v, []⟩ : Env).upd (some 0) (S x0)).upd (some 3) (.int .i64 x3)) h := by kernel_rfl
      exact e ▸ hS
    refine hw.mono ?_
    intro e g' h' hq
    cases e with
    | normal => exact D2_ok (K := (fun z0 z3 h => n6_L Kn Ke0 Kr N z0 z3 h)) hq
    | _ => exact hq
abbrev n5 (x0 : List UInt8) (x3 : Int) (Kn : T3) (Kr : T0) (h : H) : Prop := n6 x0 x3 Kn Kn Kr h
theorem n5_ok (x0 : List UInt8) (x3 : Int) (Kn : T3) (Kr : T0) (g : Env) (hg : E2 g x0 x3) (h : H) (hS : n5 x0 x3 Kn Kr h) : wpC none Tryd.prog 17 n3_c1 (Q1 Kn Kr) g h := by
  refine wpC_block' (id := 0) (x := n5_c1) (by kernel_rfl) (n6_ok x0 x3 Kn Kn Kr g hg h hS) ?_
  intro e g' h' hq
  cases e <;> exact hq
abbrev n3 (x0 : List UInt8) (x3 : Int) (Kn : T0) (Kr : T0) (h : H) : Prop := n5 x0 x3 (fun z3 h => n4 z3 Kn Kr h) Kr h
theorem n3_ok (x0 : List UInt8) (x3 : Int) (Kn : T0) (Kr : T0) (g : Env) (hg : E2 g x0 x3) (h : H) (hS : n3 x0 x3 Kn Kr h) : wpC none Tryd.prog 17 n2_c2 (Q0 Kn Kr) g h := by
  refine wpC_seq' (x := n3_c1) (y := n3_c2) (by kernel_rfl) (n5_ok x0 x3 (fun z3 h => n4 z3 Kn Kr h) Kr g hg h hS) ?_
  intro e g' h' hq
  cases e with
  | normal =>
    have hq : D3 (fun z3 h => n4 z3 Kn Kr h) g' h' := hq
    obtain ⟨y3, hg', hq⟩ := D3_ok hq
    exact n4_ok y3 Kn Kr g' hg' h' hq
  | _ => exact hq
def Q4 (Kn : T2) (Kr : T0) : XPost
  | .normal, g, h => D2 Kn g h
  | .ret, g, h => D0 Kr g h
  | _, _, _ => False
abbrev n2 (x0 : List UInt8) (Kn : T0) (Kr : T0) (h : H) : Prop :=
  n3 x0 (0 : Int) Kn Kr h
theorem n2_ok (x0 : List UInt8) (Kn : T0) (Kr : T0) (g : Env) (hg : E1 g x0) (h : H) (hS : n2 x0 Kn Kr h) : wpC none Tryd.prog 17 n1_c2 (Q0 Kn Kr) g h := by
  obtain ⟨hg0, hds⟩ := hg
  refine wpC_seq' (x := n2_c1) (y := n2_c2) (Q' := (Q4 (fun z0 z3 h => n3 z0 z3 Kn Kr h) Kr)) (by kernel_rfl) ?_ ?_
  · refine wpC_of_wpx (by kernel_rfl) (by kernel_rfl) (g' := (⟨g.v, []⟩ : Env).upd (some 0) (S x0)) (by rw [env_ds hds, upd_self hg0]) ?_
    have e : (n2 x0 Kn Kr h) = wpx none Tryd.prog 17 n2_c1 (Q4 (fun z0 z3 h => n3 z0 z3 Kn Kr h) Kr) ((⟨g.v, []⟩ : Env).upd (some 0) (S x0)) h := by kernel_rfl
    exact e ▸ hS
  · intro e g' h' hq
    cases e with
    | normal =>
      have hq : D2 (fun z0 z3 h => n3 z0 z3 Kn Kr h) g' h' := hq
      obtain ⟨y0, y3, hg', hq⟩ := D2_ok hq
      exact n3_ok y0 y3 Kn Kr g' hg' h' hq
    | _ => exact hq
def Q5 (Kn : T1) (Kr : T0) : XPost
  | .normal, g, h => D1 Kn g h
  | .ret, g, h => D0 Kr g h
  | _, _, _ => False
abbrev n1 (x0 : List UInt8) (Kn : T0) (Kr : T0) (h : H) : Prop :=
  n2 x0 Kn Kr h
theorem n1_ok (x0 : List UInt8) (Kn : T0) (Kr : T0) (g : Env) (hg : E1 g x0) (h : H) (hS : n1 x0 Kn Kr h) : wpC none Tryd.prog 17 code (Q0 Kn Kr) g h := by
  obtain ⟨hg0, hds⟩ := hg
  refine wpC_seq' (x := n1_c1) (y := n1_c2) (Q' := (Q5 (fun z0 h => n2 z0 Kn Kr h) Kr)) (by kernel_rfl) ?_ ?_
  · refine wpC_of_wpx (by kernel_rfl) (by kernel_rfl) (g' := (⟨g.v, []⟩ : Env).upd (some 0) (S x0)) (by rw [env_ds hds, upd_self hg0]) ?_
    have e : (n1 x0 Kn Kr h) = wpx none Tryd.prog 17 n1_c1 (Q5 (fun z0 h => n2 z0 Kn Kr h) Kr) ((⟨g.v, []⟩ : Env).upd (some 0) (S x0)) h := by kernel_rfl
    exact e ▸ hS
  · intro e g' h' hq
    cases e with
    | normal =>
      have hq : D1 (fun z0 h => n2 z0 Kn Kr h) g' h' := hq
      obtain ⟨y0, hg', hq⟩ := D1_ok hq
      exact n2_ok y0 Kn Kr g' hg' h' hq
    | _ => exact hq
/-- WHAT tympan/tympanref21.front ASKS -/
abbrev asks (x0 : List UInt8) (K : Value → H → Prop) (h : H) : Prop := n1 x0 (fun y2 h => K (.int .i64 y2) h) (fun y2 h => K (.int .i64 y2) h) h
theorem ok (x0 : List UInt8) (K : Value → H → Prop) (h : H) (hS : asks x0 K h) : HCalls Tryd.prog 22 ⟨[(S x0)]⟩ h K := by
  refine calls_of_wpC (c := code) Tryd.func22 (by kernel_rfl) (Nat.le_of_ble_eq_true (by kernel_rfl)) ?_
  refine (n1_ok x0 (fun y2 h => K (.int .i64 y2) h) (fun y2 h => K (.int .i64 y2) h) (env0 [(S x0)]) ⟨rfl, rfl⟩ h hS).mono ?_
  intro e g' h' hq
  cases e with
  | normal =>
    have hq : D0 (fun y2 h => K (.int .i64 y2) h) g' h' := hq
    obtain ⟨y2, ⟨hg2, hd⟩, hq⟩ := D0_ok hq
    show leaveX g'.ds h' _
    rw [hd]
    show K (g'.v 2) h'
    rw [hg2]
    exact hq
  | ret =>
    have hq : D0 (fun y2 h => K (.int .i64 y2) h) g' h' := hq
    obtain ⟨y2, ⟨hg2, hd⟩, hq⟩ := D0_ok hq
    show leaveX g'.ds h' _
    rw [hd]
    show K (g'.v 2) h'
    rw [hg2]
    exact hq
  | _ => exact hq
end Sx.r21_front

/-! ### math/bits.Mul -/
namespace Sx.math_bits_Mul
noncomputable def code : Code := bodyOf Tryd.f24
abbrev T0 := Int → Int → H → Prop
def E0 (g : Env) (x4 : Int) (x5 : Int) : Prop := g.v 4 = (.int .u64 x4) ∧ g.v 5 = (.int .u64 x5) ∧ g.ds = []
def D0 (K : T0) (g : Env) (h : H) : Prop := nilDs g.ds (vInt .u64 (g.v 4) fun i1 => vInt .u64 (g.v 5) fun i2 => K i1 i2 h)
theorem D0_ok {K : T0} {g : Env} {h : H} (hq : D0 K g h) : ∃ (x4 : Int) (x5 : Int), E0 g x4 x5 ∧ K x4 x5 h := by
  obtain ⟨hd, hq⟩ := nilDs_ok hq
  obtain ⟨y4, e3, q5⟩ := vInt_ok hq
  obtain ⟨y7, e6, q8⟩ := vInt_ok q5
  exact ⟨y4, y7, ⟨e3, e6, hd⟩, q8⟩
def Q0 (Kn : T0) (Kr : T0) : XPost
  | .normal, g, h => D0 Kn g h
  | .ret, g, h => D0 Kr g h
  | _, _, _ => False
abbrev T1 := Int → Int → H → Prop
def E1 (g : Env) (x0 : Int) (x1 : Int) : Prop := g.v 0 = (.int .u64 x0) ∧ g.v 1 = (.int .u64 x1) ∧ g.ds = []
def D1 (K : T1) (g : Env) (h : H) : Prop := nilDs g.ds (vInt .u64 (g.v 0) fun i9 => vInt .u64 (g.v 1) fun i10 => K i9 i10 h)
theorem D1_ok {K : T1} {g : Env} {h : H} (hq : D1 K g h) : ∃ (x0 : Int) (x1 : Int), E1 g x0 x1 ∧ K x0 x1 h := by
  obtain ⟨hd, hq⟩ := nilDs_ok hq
  obtain ⟨y12, e11, q13⟩ := vInt_ok hq
  obtain ⟨y15, e14, q16⟩ := vInt_ok q13
  exact ⟨y12, y15, ⟨e11, e14, hd⟩, q16⟩
abbrev n1 (x0 : Int) (x1 : Int) (Kn : T0) (Kr : T0) (h : H) : Prop :=
  HCalls Tryd.prog 38 ⟨[(.int .u64 x0), (.int .u64 x1)]⟩ h fun v17 h18 => vTup v17 fun l19 => uncons l19 fun e20 l21 => vInt .u64 e20 fun i22 => uncons l21 fun e23 l24 => vInt .u64 e23 fun i25 => unnil l24 (Kr i22 i25 h18)
theorem n1_ok (x0 : Int) (x1 : Int) (Kn : T0) (Kr : T0) (g : Env) (hg : E1 g x0 x1) (h : H) (hS : n1 x0 x1 Kn Kr h) : wpC none Tryd.prog 30 code (Q0 Kn Kr) g h := by
  obtain ⟨hg0, hg1, hds⟩ := hg
  refine wpC_of_wpx (by kernel_rfl) (by kernel_rfl) (g' := ((⟨g.v, []⟩ : Env).upd (some 0) (.int .u64 x0)).upd (some 1) (.int .u64 x1)) (by rw [env_ds hds, upd_self hg0, upd_self hg1]) ?_
  have e : (n1 x0 x1 Kn Kr h) = wpx none Tryd.prog 30 code (Q0 Kn Kr) (((⟨g.v, []⟩ : Env).upd (some 0) (.int .u64 x0)).upd (some 1) (.int .u64 x1)) h := by kernel_rfl
  exact e ▸ hS
/-- WHAT math/bits.Mul ASKS -/
abbrev asks (x0 : Int) (x1 : Int) (K : Value → H → Prop) (h : H) : Prop := n1 x0 x1 (fun y4 y5 h => K (.tuple ⟨[(.int .u64 y4), (.int .u64 y5)]⟩) h) (fun y4 y5 h => K (.tuple ⟨[(.int .u64 y4), (.int .u64 y5)]⟩) h) h
theorem ok (x0 : Int) (x1 : Int) (K : Value → H → Prop) (h : H) (hS : asks x0 x1 K h) : HCalls Tryd.prog 24 ⟨[(.int .u64 x0), (.int .u64 x1)]⟩ h K := by
  refine calls_of_wpC (c := code) Tryd.func24 (by kernel_rfl) (Nat.le_of_ble_eq_true (by kernel_rfl)) ?_
  refine (n1_ok x0 x1 (fun y4 y5 h => K (.tuple ⟨[(.int .u64 y4), (.int .u64 y5)]⟩) h) (fun y4 y5 h => K (.tuple ⟨[(.int .u64 y4), (.int .u64 y5)]⟩) h) (env0 [(.int .u64 x0), (.int .u64 x1)]) ⟨rfl, rfl, rfl⟩ h hS).mono ?_
  intro e g' h' hq
  cases e with
  | normal =>
    have hq : D0 (fun y4 y5 h => K (.tuple ⟨[(.int .u64 y4), (.int .u64 y5)]⟩) h) g' h' := hq
    obtain ⟨y4, y5, ⟨hg4, hg5, hd⟩, hq⟩ := D0_ok hq
    show leaveX g'.ds h' _
    rw [hd]
    show K (.tuple ⟨[(g'.v 4), (g'.v 5)]⟩) h'
    rw [hg4, hg5]
    exact hq
  | ret =>
    have hq : D0 (fun y4 y5 h => K (.tuple ⟨[(.int .u64 y4), (.int .u64 y5)]⟩) h) g' h' := hq
    obtain ⟨y4, y5, ⟨hg4, hg5, hd⟩, hq⟩ := D0_ok hq
    show leaveX g'.ds h' _
    rw [hd]
    show K (.tuple ⟨[(g'.v 4), (g'.v 5)]⟩) h'
    rw [hg4, hg5]
    exact hq
  | _ => exact hq
end Sx.math_bits_Mul

/-! ### math/bits.Mul64 -/
namespace Sx.math_bits_Mul64
noncomputable def code : Code := bodyOf Tryd.f38
abbrev T0 := Int → Int → H → Prop
def E0 (g : Env) (x4 : Int) (x5 : Int) : Prop := g.v 4 = (.int .u64 x4) ∧ g.v 5 = (.int .u64 x5) ∧ g.ds = []
def D0 (K : T0) (g : Env) (h : H) : Prop := nilDs g.ds (vInt .u64 (g.v 4) fun i1 => vInt .u64 (g.v 5) fun i2 => K i1 i2 h)
theorem D0_ok {K : T0} {g : Env} {h : H} (hq : D0 K g h) : ∃ (x4 : Int) (x5 : Int), E0 g x4 x5 ∧ K x4 x5 h := by
  obtain ⟨hd, hq⟩ := nilDs_ok hq
  obtain ⟨y4, e3, q5⟩ := vInt_ok hq
  obtain ⟨y7, e6, q8⟩ := vInt_ok q5
  exact ⟨y4, y7, ⟨e3, e6, hd⟩, q8⟩
def Q0 (Kn : T0) (Kr : T0) : XPost
  | .normal, g, h => D0 Kn g h
  | .ret, g, h => D0 Kr g h
  | _, _, _ => False
abbrev T1 := Int → Int → H → Prop
def E1 (g : Env) (x0 : Int) (x1 : Int) : Prop := g.v 0 = (.int .u64 x0) ∧ g.v 1 = (.int .u64 x1) ∧ g.ds = []
def D1 (K : T1) (g : Env) (h : H) : Prop := nilDs g.ds (vInt .u64 (g.v 0) fun i9 => vInt .u64 (g.v 1) fun i10 => K i9 i10 h)
theorem D1_ok {K : T1} {g : Env} {h : H} (hq : D1 K g h) : ∃ (x0 : Int) (x1 : Int), E1 g x0 x1 ∧ K x0 x1 h := by
  obtain ⟨hd, hq⟩ := nilDs_ok hq
  obtain ⟨y12, e11, q13⟩ := vInt_ok hq
  obtain ⟨y15, e14, q16⟩ := vInt_ok q13
  exact ⟨y12, y15, ⟨e11, e14, hd⟩, q16⟩
abbrev n1 (x0 : Int) (x1 : Int) (Kn : T0) (Kr : T0) (h : H) : Prop :=
  SemH Tryd.prog (binS .shr 64 (.tmp 16) (.const (.int .u64 (32 : Int))) (.int .u64 x0) (.int .u64 (32 : Int))) h fun v17 h18 => vInt .u64 v17 fun i19 => SemH Tryd.prog (binS .shr 64 (.tmp 20) (.const (.int .u64 (32 : Int))) (.int .u64 x1) (.int .u64 (32 : Int))) h18 fun v20 h21 => vInt .u64 v20 fun i22 => SemH Tryd.prog (binS .shr 64 (.tmp 28) (.const (.int .u64 (32 : Int))) (.int .u64 (IntKind.wrap .u64 ((bits .and .u64 x0 (4294967295 : Int)) * (bits .and .u64 x1 (4294967295 : Int))))) (.int .u64 (32 : Int))) h21 fun v23 h24 => vInt .u64 v23 fun i25 => SemH Tryd.prog (binS .shr 64 (.tmp 33) (.const (.int .u64 (32 : Int))) (.int .u64 (IntKind.wrap .u64 ((IntKind.wrap .u64 (i19 * (bits .and .u64 x1 (4294967295 : Int)))) + i25))) (.int .u64 (32 : Int))) h24 fun v26 h27 => vInt .u64 v26 fun i28 => SemH Tryd.prog (binS .shr 64 (.tmp 45) (.const (.int .u64 (32 : Int))) (.int .u64 (IntKind.wrap .u64 ((bits .and .u64 (IntKind.wrap .u64 ((IntKind.wrap .u64 (i19 * (bits .and .u64 x1 (4294967295 : Int)))) + i25)) (4294967295 : Int)) + (IntKind.wrap .u64 ((bits .and .u64 x0 (4294967295 : Int)) * i22))))) (.int .u64 (32 : Int))) h27 fun v29 h30 => vInt .u64 v29 fun i31 => Kr (IntKind.wrap .u64 ((IntKind.wrap .u64 ((IntKind.wrap .u64 (i19 * i22)) + i28)) + i31)) (IntKind.wrap .u64 (x0 * x1)) h30
theorem n1_ok (x0 : Int) (x1 : Int) (Kn : T0) (Kr : T0) (g : Env) (hg : E1 g x0 x1) (h : H) (hS : n1 x0 x1 Kn Kr h) : wpC none Tryd.prog 51 code (Q0 Kn Kr) g h := by
  obtain ⟨hg0, hg1, hds⟩ := hg
  refine wpC_of_wpx (by kernel_rfl) (by kernel_rfl) (g' := ((⟨g.v, []⟩ : Env).upd (some 0) (.int .u64 x0)).upd (some 1) (.int .u64 x1)) (by rw [env_ds hds, upd_self hg0, upd_self hg1]) ?_
  have e : (n1 x0 x1 Kn Kr h) = wpx none Tryd.prog 51 code (Q0 Kn Kr) (((⟨g.v, []⟩ : Env).upd (some 0) (.int .u64 x0)).upd (some 1) (.int .u64 x1)) h := by kernel_rfl
  exact e ▸ hS
/-- WHAT math/bits.Mul64 ASKS -/
abbrev asks (x0 : Int) (x1 : Int) (K : Value → H → Prop) (h : H) : Prop := n1 x0 x1 (fun y4 y5 h => K (.tuple ⟨[(.int .u64 y4), (.int .u64 y5)]⟩) h) (fun y4 y5 h => K (.tuple ⟨[(.int .u64 y4), (.int .u64 y5)]⟩) h) h
theorem ok (x0 : Int) (x1 : Int) (K : Value → H → Prop) (h : H) (hS : asks x0 x1 K h) : HCalls Tryd.prog 38 ⟨[(.int .u64 x0), (.int .u64 x1)]⟩ h K := by
  refine calls_of_wpC (c := code) Tryd.func38 (by kernel_rfl) (Nat.le_of_ble_eq_true (by kernel_rfl)) ?_
  refine (n1_ok x0 x1 (fun y4 y5 h => K (.tuple ⟨[(.int .u64 y4), (.int .u64 y5)]⟩) h) (fun y4 y5 h => K (.tuple ⟨[(.int .u64 y4), (.int .u64 y5)]⟩) h) (env0 [(.int .u64 x0), (.int .u64 x1)]) ⟨rfl, rfl, rfl⟩ h hS).mono ?_
  intro e g' h' hq
  cases e with
  | normal =>
    have hq : D0 (fun y4 y5 h => K (.tuple ⟨[(.int .u64 y4), (.int .u64 y5)]⟩) h) g' h' := hq
    obtain ⟨y4, y5, ⟨hg4, hg5, hd⟩, hq⟩ := D0_ok hq
    show leaveX g'.ds h' _
    rw [hd]
    show K (.tuple ⟨[(g'.v 4), (g'.v 5)]⟩) h'
    rw [hg4, hg5]
    exact hq
  | ret =>
    have hq : D0 (fun y4 y5 h => K (.tuple ⟨[(.int .u64 y4), (.int .u64 y5)]⟩) h) g' h' := hq
    obtain ⟨y4, y5, ⟨hg4, hg5, hd⟩, hq⟩ := D0_ok hq
    show leaveX g'.ds h' _
    rw [hd]
    show K (.tuple ⟨[(g'.v 4), (g'.v 5)]⟩) h'
    rw [hg4, hg5]
    exact hq
  | _ => exact hq
end Sx.math_bits_Mul64

/-! ### strings.HasPrefix -/
namespace Sx.strings_HasPrefix
noncomputable def code : Code := bodyOf Tryd.f25
abbrev T0 := Bool → H → Prop
def E0 (g : Env) (x4 : Bool) : Prop := g.v 4 = (.bool x4) ∧ g.ds = []
def D0 (K : T0) (g : Env) (h : H) : Prop := nilDs g.ds (vBool (g.v 4) fun b1 => K b1 h)
theorem D0_ok {K : T0} {g : Env} {h : H} (hq : D0 K g h) : ∃ (x4 : Bool), E0 g x4 ∧ K x4 h := by
  obtain ⟨hd, hq⟩ := nilDs_ok hq
  obtain ⟨y3, e2, q4⟩ := vBool_ok hq
  exact ⟨y3, ⟨e2, hd⟩, q4⟩
def Q0 (Kn : T0) (Kr : T0) : XPost
  | .normal, g, h => D0 Kn g h
  | .ret, g, h => D0 Kr g h
  | _, _, _ => False
abbrev T1 := (List UInt8) → (List UInt8) → H → Prop
def E1 (g : Env) (x0 : List UInt8) (x1 : List UInt8) : Prop := g.v 0 = (S x0) ∧ g.v 1 = (S x1) ∧ g.ds = []
def D1 (K : T1) (g : Env) (h : H) : Prop := nilDs g.ds (vStr (g.v 0) fun s5 => vStr (g.v 1) fun s6 => K s5 s6 h)
theorem D1_ok {K : T1} {g : Env} {h : H} (hq : D1 K g h) : ∃ (x0 : List UInt8) (x1 : List UInt8), E1 g x0 x1 ∧ K x0 x1 h := by
  obtain ⟨hd, hq⟩ := nilDs_ok hq
  obtain ⟨y8, e7, q9⟩ := vStr_ok hq
  obtain ⟨y11, e10, q12⟩ := vStr_ok q9
  exact ⟨y8, y11, ⟨e7, e10, hd⟩, q12⟩
abbrev n1 (x0 : List UInt8) (x1 : List UInt8) (Kn : T0) (Kr : T0) (h : H) : Prop :=
  HCalls Tryd.prog 39 ⟨[(S x0), (S x1)]⟩ h fun v13 h14 => vBool v13 fun b15 => cond b15 (Kr true h14) (Kr false h14)
theorem n1_ok (x0 : List UInt8) (x1 : List UInt8) (Kn : T0) (Kr : T0) (g : Env) (hg : E1 g x0 x1) (h : H) (hS : n1 x0 x1 Kn Kr h) : wpC none Tryd.prog 8 code (Q0 Kn Kr) g h := by
  obtain ⟨hg0, hg1, hds⟩ := hg
  refine wpC_of_wpx (by kernel_rfl) (by kernel_rfl) (g' := ((⟨g.v, []⟩ : Env).upd (some 0) (S x0)).upd (some 1) (S x1)) (by rw [env_ds hds, upd_self hg0, upd_self hg1]) ?_
  have e : (n1 x0 x1 Kn Kr h) = wpx none Tryd.prog 8 code (Q0 Kn Kr) (((⟨g.v, []⟩ : Env).upd (some 0) (S x0)).upd (some 1) (S x1)) h := by kernel_rfl
  exact e ▸ hS
/-- WHAT strings.HasPrefix ASKS -/
abbrev asks (x0 : List UInt8) (x1 : List UInt8) (K : Value → H → Prop) (h : H) : Prop := n1 x0 x1 (fun y4 h => K (.bool y4) h) (fun y4 h => K (.bool y4) h) h
theorem ok (x0 : List UInt8) (x1 : List UInt8) (K : Value → H → Prop) (h : H) (hS : asks x0 x1 K h) : HCalls Tryd.prog 25 ⟨[(S x0), (S x1)]⟩ h K := by
  refine calls_of_wpC (c := code) Tryd.func25 (by kernel_rfl) (Nat.le_of_ble_eq_true (by kernel_rfl)) ?_
  refine (n1_ok x0 x1 (fun y4 h => K (.bool y4) h) (fun y4 h => K (.bool y4) h) (env0 [(S x0), (S x1)]) ⟨rfl, rfl, rfl⟩ h hS).mono ?_
  intro e g' h' hq
  cases e with
  | normal =>
    have hq : D0 (fun y4 h => K (.bool y4) h) g' h' := hq
    obtain ⟨y4, ⟨hg4, hd⟩, hq⟩ := D0_ok hq
    show leaveX g'.ds h' _
    rw [hd]
    show K (g'.v 4) h'
    rw [hg4]
    exact hq
  | ret =>
    have hq : D0 (fun y4 h => K (.bool y4) h) g' h' := hq
    obtain ⟨y4, ⟨hg4, hd⟩, hq⟩ := D0_ok hq
    show leaveX g'.ds h' _
    rw [hd]
    show K (g'.v 4) h'
    rw [hg4]
    exact hq
  | _ => exact hq
end Sx.strings_HasPrefix

/-! ### internal/stringslite.HasPrefix -/
namespace Sx.internal_stringslite_HasPrefix
noncomputable def code : Code := bodyOf Tryd.f39
abbrev T0 := Bool → H → Prop
def E0 (g : Env) (x4 : Bool) : Prop := g.v 4 = (.bool x4) ∧ g.ds = []
def D0 (K : T0) (g : Env) (h : H) : Prop := nilDs g.ds (vBool (g.v 4) fun b1 => K b1 h)
theorem D0_ok {K : T0} {g : Env} {h : H} (hq : D0 K g h) : ∃ (x4 : Bool), E0 g x4 ∧ K x4 h := by
  obtain ⟨hd, hq⟩ := nilDs_ok hq
  obtain ⟨y3, e2, q4⟩ := vBool_ok hq
  exact ⟨y3, ⟨e2, hd⟩, q4⟩
def Q0 (Kn : T0) (Kr : T0) : XPost
  | .normal, g, h => D0 Kn g h
  | .ret, g, h => D0 Kr g h
  | _, _, _ => False
abbrev T1 := (List UInt8) → (List UInt8) → H → Prop
def E1 (g : Env) (x0 : List UInt8) (x1 : List UInt8) : Prop := g.v 0 = (S x0) ∧ g.v 1 = (S x1) ∧ g.ds = []
def D1 (K : T1) (g : Env) (h : H) : Prop := nilDs g.ds (vStr (g.v 0) fun s5 => vStr (g.v 1) fun s6 => K s5 s6 h)
theorem D1_ok {K : T1} {g : Env} {h : H} (hq : D1 K g h) : ∃ (x0 : List UInt8) (x1 : List UInt8), E1 g x0 x1 ∧ K x0 x1 h := by
  obtain ⟨hd, hq⟩ := nilDs_ok hq
  obtain ⟨y8, e7, q9⟩ := vStr_ok hq
  obtain ⟨y11, e10, q12⟩ := vStr_ok q9
  exact ⟨y8, y11, ⟨e7, e10, hd⟩, q12⟩
abbrev n1 (x0 : List UInt8) (x1 : List UInt8) (Kn : T0) (Kr : T0) (h : H) : Prop :=
  Spl ((x0.length : Int) ≥ (x1.length : Int)) ((0 ≤ (0 : Int) ∧ (0 : Int) ≤ (x1.length : Int) ∧ (x1.length : Int) ≤ (x0.length : Int)) ∧ (Spl ((sub x0 (0 : Int) (x1.length : Int)) = x1) (Kr true h) (Kr false h))) (Kr false h)
theorem n1_ok (x0 : List UInt8) (x1 : List UInt8) (Kn : T0) (Kr : T0) (g : Env) (hg : E1 g x0 x1) (h : H) (hS : n1 x0 x1 Kn Kr h) : wpC none Tryd.prog 18 code (Q0 Kn Kr) g h := by
  obtain ⟨hg0, hg1, hds⟩ := hg
  refine wpC_of_wpx (by kernel_rfl) (by kernel_rfl) (g' := ((⟨g.v, []⟩ : Env).upd (some 0) (S x0)).upd (some 1) (S x1)) (by rw [env_ds hds, upd_self hg0, upd_self hg1]) ?_
  have e : (n1 x0 x1 Kn Kr h) = wpx none Tryd.prog 18 code (Q0 Kn Kr) (((⟨g.v, []⟩ : Env).upd (some 0) (S x0)).upd (some 1) (S x1)) h := by kernel_rfl
  exact e ▸ hS
/-- WHAT internal/stringslite.HasPrefix ASKS -/
abbrev asks (x0 : List UInt8) (x1 : List UInt8) (K : Value → H → Prop) (h : H) : Prop := n1 x0 x1 (fun y4 h => K (.bool y4) h) (fun y4 h => K (.bool y4) h) h
theorem ok (x0 : List UInt8) (x1 : List UInt8) (K : Value → H → Prop) (h : H) (hS : asks x0 x1 K h) : HCalls Tryd.prog 39 ⟨[(S x0), (S x1)]⟩ h K := by
  refine calls_of_wpC (c := code) Tryd.func39 (by kernel_rfl) (Nat.le_of_ble_eq_true (by kernel_rfl)) ?_
  refine (n1_ok x0 x1 (fun y4 h => K (.bool y4) h) (fun y4 h => K (.bool y4) h) (env0 [(S x0), (S x1)]) ⟨rfl, rfl, rfl⟩ h hS).mono ?_
  intro e g' h' hq
  cases e with
  | normal =>
    have hq : D0 (fun y4 h => K (.bool y4) h) g' h' := hq
    obtain ⟨y4, ⟨hg4, hd⟩, hq⟩ := D0_ok hq
    show leaveX g'.ds h' _
    rw [hd]
    show K (g'.v 4) h'
    rw [hg4]
    exact hq
  | ret =>
    have hq : D0 (fun y4 h => K (.bool y4) h) g' h' := hq
    obtain ⟨y4, ⟨hg4, hd⟩, hq⟩ := D0_ok hq
    show leaveX g'.ds h' _
    rw [hd]
    show K (g'.v 4) h'
    rw [hg4]
    exact hq
  | _ => exact hq
end Sx.internal_stringslite_HasPrefix
end Go.Proofs
