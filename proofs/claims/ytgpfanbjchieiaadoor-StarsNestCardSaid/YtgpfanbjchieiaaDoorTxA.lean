/- The shallow forms of functions, printed by sh.py out of the translation; each with its proof. No condition. -/
import Derived.Test.YtgpfanbjchieiaaDoorShJ
import Derived.Test.YtgpfanbjchieiaaDoorProg
namespace Go.Proofs
open Go Go.Sh
set_option linter.unusedVariables false
set_option maxRecDepth 100000

/-! ### tympan/tympanlaw27.StarsReads -/
namespace Sx.l27_StarsReads
noncomputable def code : Code := bodyOf Tryd.f3
abbrev T0 := Bool → H → Prop
def E0 (g : Env) (x4 : Bool) : Prop := g.v 4 = (.bool x4) ∧ g.ds = []
def D0 (K : T0) (g : Env) (h : H) : Prop := nilDs g.ds (vBool (g.v 4) fun b1 => K b1 h)
theorem D0_ok {K : T0} {g : Env} {h : H} (hq : D0 K g h) : ∃ (x4 : Bool), E0 g x4 ∧ K x4 h := by
  obtain ⟨hd, hq⟩ := nilDs_ok hq
  obtain ⟨y3, e2, q4⟩ := vBool_ok hq
  exact ⟨y3, ⟨e2, hd⟩, q4⟩
def Q0 (Kn : T0) (Kr : T0) : XPost
  | .normal, g, h => D0 Kn g h
  | .ret, g, h => D0 Kr g h
  | _, _, _ => False
abbrev T1 := (Option Addr) → Nat → Nat → Int → H → Prop
def E1 (g : Env) (x0b : Option Addr) (x0n : Nat) (x0c : Nat) (x1 : Int) : Prop := g.v 0 = (.slice x0b x0n x0c) ∧ g.v 1 = (.int .i64 x1) ∧ g.ds = []
def D1 (K : T1) (g : Env) (h : H) : Prop := nilDs g.ds (vSlice (g.v 0) fun s5b s5n s5c => vInt .i64 (g.v 1) fun i6 => K s5b s5n s5c i6 h)
theorem D1_ok {K : T1} {g : Env} {h : H} (hq : D1 K g h) : ∃ (x0b : Option Addr) (x0n : Nat) (x0c : Nat) (x1 : Int), E1 g x0b x0n x0c x1 ∧ K x0b x0n x0c x1 h := by
  obtain ⟨hd, hq⟩ := nilDs_ok hq
  obtain ⟨y8b, y8n, y8c, e7, q9⟩ := vSlice_ok hq
  obtain ⟨y11, e10, q12⟩ := vInt_ok q9
  exact ⟨y8b, y8n, y8c, y11, ⟨e7, e10, hd⟩, q12⟩
noncomputable def n1_c1 : Code := cFst code
noncomputable def n1_c2 : Code := cSnd code
noncomputable def n2_c1 : Code := cFst n1_c2
noncomputable def n2_c2 : Code := cSnd n1_c2
noncomputable def n3_c1 : Code := cFst n2_c2
noncomputable def n3_c2 : Code := cSnd n2_c2
abbrev T2 := Int → (List UInt8) → H → Prop
def E2 (g : Env) (x1 : Int) (x5 : List UInt8) : Prop := g.v 1 = (.int .i64 x1) ∧ g.v 5 = (S x5) ∧ g.ds = []
def D2 (K : T2) (g : Env) (h : H) : Prop := nilDs g.ds (vInt .i64 (g.v 1) fun i13 => vStr (g.v 5) fun s14 => K i13 s14 h)
theorem D2_ok {K : T2} {g : Env} {h : H} (hq : D2 K g h) : ∃ (x1 : Int) (x5 : List UInt8), E2 g x1 x5 ∧ K x1 x5 h := by
  obtain ⟨hd, hq⟩ := nilDs_ok hq
  obtain ⟨y16, e15, q17⟩ := vInt_ok hq
  obtain ⟨y19, e18, q20⟩ := vStr_ok q17
  exact ⟨y16, y19, ⟨e15, e18, hd⟩, q20⟩
noncomputable def n4_c1 : Code := cFst n3_c2
noncomputable def n4_c2 : Code := cSnd n3_c2
abbrev T3 := Int → (List UInt8) → Addr → Bool → H → Prop
def E3 (g : Env) (x1 : Int) (x5 : List UInt8) (x6 : Addr) (x7 : Bool) : Prop := g.v 1 = (.int .i64 x1) ∧ g.v 5 = (S x5) ∧ g.v 6 = (.pointer (some x6)) ∧ g.v 7 = (.bool x7) ∧ g.ds = []
def D3 (K : T3) (g : Env) (h : H) : Prop := nilDs g.ds (vInt .i64 (g.v 1) fun i21 => vStr (g.v 5) fun s22 => vAddr (g.v 6) fun a23 => vBool (g.v 7) fun b24 => K i21 s22 a23 b24 h)
theorem D3_ok {K : T3} {g : Env} {h : H} (hq : D3 K g h) : ∃ (x1 : Int) (x5 : List UInt8) (x6 : Addr) (x7 : Bool), E3 g x1 x5 x6 x7 ∧ K x1 x5 x6 x7 h := by
  obtain ⟨hd, hq⟩ := nilDs_ok hq
  obtain ⟨y26, e25, q27⟩ := vInt_ok hq
  obtain ⟨y29, e28, q30⟩ := vStr_ok q27
  obtain ⟨y32, e31, q33⟩ := vAddr_ok q30
  obtain ⟨y35, e34, q36⟩ := vBool_ok q33
  exact ⟨y26, y29, y32, y35, ⟨e25, e28, e31, e34, hd⟩, q36⟩
abbrev n5 (x1 : Int) (x5 : List UInt8) (x6 : Addr) (x7 : Bool) (Kn : T0) (Kr : T0) (h : H) : Prop :=
  HCalls Tryd.prog 8 ⟨[(S x5), (.int .i64 x1)]⟩ h fun v37 h38 => vTup v37 fun l39 => uncons l39 fun e40 l41 => vAgg e40 fun l42 => uncons l42 fun e43 l44 => vInt .u8 e43 fun i45 => uncons l44 fun e46 l47 => vInt .i64 e46 fun i48 => uncons l47 fun e49 l50 => vInt .i64 e49 fun i51 => uncons l50 fun e52 l53 => vBool e52 fun b54 => uncons l53 fun e55 l56 => vBool e55 fun b57 => unnil l56 (uncons l41 fun e58 l59 => vBool e58 fun b60 => unnil l59 (cond b60 (newx h38 ⟨[(.int .u8 (0 : Int)), (.int .i64 (0 : Int)), (.int .i64 (0 : Int)), (.bool false), (.bool false)]⟩ 25 fun a61 h62 => stL a61 [(.int .u8 i45), (.int .i64 i48), (.int .i64 i51), (.bool b54), (.bool b57)] 0 h62 fun h63 => HCalls Tryd.prog 9 ⟨[]⟩ h63 fun v64 h65 => vBool v64 fun b66 => cond b66 (∃ i67, cell h65 ((x6).add 0) = some (.int .u8 i67) ∧ (∃ i68, cell h65 ((x6).add 1) = some (.int .i64 i68) ∧ (∃ i69, cell h65 ((x6).add 2) = some (.int .i64 i69) ∧ (∃ b70, cell h65 ((x6).add 3) = some (.bool b70) ∧ (∃ b71, cell h65 ((x6).add 4) = some (.bool b71) ∧ (∃ i72, cell h65 ((a61).add 0) = some (.int .u8 i72) ∧ (∃ i73, cell h65 ((a61).add 1) = some (.int .i64 i73) ∧ (∃ i74, cell h65 ((a61).add 2) = some (.int .i64 i74) ∧ (∃ b75, cell h65 ((a61).add 3) = some (.bool b75) ∧ (∃ b76, cell h65 ((a61).add 4) = some (.bool b76) ∧ (SemH Tryd.prog (binS .eql 25 (.tmp 29) (.tmp 30) (.agg ⟨[(.int .u8 i67), (.int .i64 i68), (.int .i64 i69), (.bool b70), (.bool b71)]⟩) (.agg ⟨[(.int .u8 i72), (.int .i64 i73), (.int .i64 i74), (.bool b75), (.bool b76)]⟩)) h65 fun v77 h78 => vBool v77 fun b79 => cond b79 (cond x7 (Kr true h78) (Kr false h78)) (Kr false h78)))))))))))) (Kr false h65)) (newx h38 ⟨[(.int .u8 (0 : Int)), (.int .i64 (0 : Int)), (.int .i64 (0 : Int)), (.bool false), (.bool false)]⟩ 25 fun a80 h81 => stL a80 [(.int .u8 i45), (.int .i64 i48), (.int .i64 i51), (.bool b54), (.bool b57)] 0 h81 fun h82 => HCalls Tryd.prog 9 ⟨[]⟩ h82 fun v83 h84 => vBool v83 fun b85 => cond b85 (∃ i86, cell h84 ((x6).add 0) = some (.int .u8 i86) ∧ (∃ i87, cell h84 ((x6).add 1) = some (.int .i64 i87) ∧ (∃ i88, cell h84 ((x6).add 2) = some (.int .i64 i88) ∧ (∃ b89, cell h84 ((x6).add 3) = some (.bool b89) ∧ (∃ b90, cell h84 ((x6).add 4) = some (.bool b90) ∧ (∃ i91, cell h84 ((a80).add 0) = some (.int .u8 i91) ∧ (∃ i92, cell h84 ((a80).add 1) = some (.int .i64 i92) ∧ (∃ i93, cell h84 ((a80).add 2) = some (.int .i64 i93) ∧ (∃ b94, cell h84 ((a80).add 3) = some (.bool b94) ∧ (∃ b95, cell h84 ((a80).add 4) = some (.bool b95) ∧ (SemH Tryd.prog (binS .eql 25 (.tmp 29) (.tmp 30) (.agg ⟨[(.int .u8 i86), (.int .i64 i87), (.int .i64 i88), (.bool b89), (.bool b90)]⟩) (.agg ⟨[(.int .u8 i91), (.int .i64 i92), (.int .i64 i93), (.bool b94), (.bool b95)]⟩)) h84 fun v96 h97 => vBool v96 fun b98 => cond b98 (cond x7 (Kr false h97) (Kr true h97)) (Kr false h97)))))))))))) (Kr false h84))))
theorem n5_ok (x1 : Int) (x5 : List UInt8) (x6 : Addr) (x7 : Bool) (Kn : T0) (Kr : T0) (g : Env) (hg : E3 g x1 x5 x6 x7) (h : H) (hS : n5 x1 x5 x6 x7 Kn Kr h) : wpC none Tryd.prog 38 n4_c2 (Q0 Kn Kr) g h := by
  obtain ⟨hg1, hg5, hg6, hg7, hds⟩ := hg
  refine wpC_of_wpx (by kernel_rfl) (by kernel_rfl) (g' := ((((⟨g.v, []⟩ : Env).upd (some 1) (.int .i64 x1)).upd (some 5) (S x5)).upd (some 6) (.pointer (some x6))).upd (some 7) (.bool x7)) (by rw [env_ds hds, upd_self hg1, upd_self hg5, upd_self hg6, upd_self hg7]) ?_
  have e : (n5 x1 x5 x6 x7 Kn Kr h) = wpx none Tryd.prog 38 n4_c2 (Q0 Kn Kr) (((((⟨g.v, []⟩ : Env).upd (some 1) (.int .i64 x1)).upd (some 5) (S x5)).upd (some 6) (.pointer (some x6))).upd (some 7) (.bool x7)) h := by kernel_rfl
  exact e ▸ hS
def Q1 (Kn : T3) (Kr : T0) : XPost
  | .normal, g, h => D3 Kn g h
  | .ret, g, h => D0 Kr g h
  | _, _, _ => False
abbrev n4 (x1 : Int) (x5 : List UInt8) (Kn : T0) (Kr : T0) (h : H) : Prop :=
  HCalls Tryd.prog 7 ⟨[(S x5), (.int .i64 x1)]⟩ h fun v99 h100 => vTup v99 fun l101 => uncons l101 fun e102 l103 => vAgg e102 fun l104 => uncons l104 fun e105 l106 => vInt .u8 e105 fun i107 => uncons l106 fun e108 l109 => vInt .i64 e108 fun i110 => uncons l109 fun e111 l112 => vInt .i64 e111 fun i113 => uncons l112 fun e114 l115 => vBool e114 fun b116 => uncons l115 fun e117 l118 => vBool e117 fun b119 => unnil l118 (uncons l103 fun e120 l121 => vBool e120 fun b122 => unnil l121 (cond b122 (newx h100 ⟨[(.int .u8 (0 : Int)), (.int .i64 (0 : Int)), (.int .i64 (0 : Int)), (.bool false), (.bool false)]⟩ 25 fun a123 h124 => stL a123 [(.int .u8 i107), (.int .i64 i110), (.int .i64 i113), (.bool b116), (.bool b119)] 0 h124 fun h125 => n5 x1 x5 a123 true Kn Kr h125) (newx h100 ⟨[(.int .u8 (0 : Int)), (.int .i64 (0 : Int)), (.int .i64 (0 : Int)), (.bool false), (.bool false)]⟩ 25 fun a126 h127 => stL a126 [(.int .u8 i107), (.int .i64 i110), (.int .i64 i113), (.bool b116), (.bool b119)] 0 h127 fun h128 => n5 x1 x5 a126 false Kn Kr h128)))
theorem n4_ok (x1 : Int) (x5 : List UInt8) (Kn : T0) (Kr : T0) (g : Env) (hg : E2 g x1 x5) (h : H) (hS : n4 x1 x5 Kn Kr h) : wpC none Tryd.prog 38 n3_c2 (Q0 Kn Kr) g h := by
  obtain ⟨hg1, hg5, hds⟩ := hg
  refine wpC_seq' (x := n4_c1) (y := n4_c2) (Q' := (Q1 (fun z1 z5 z6 z7 h => n5 z1 z5 z6 z7 Kn Kr h) Kr)) (by kernel_rfl) ?_ ?_
  · refine wpC_of_wpx (by kernel_rfl) (by kernel_rfl) (g' := ((⟨g.v, []⟩ : Env).upd (some 1) (.int .i64 x1)).upd (some 5) (S x5)) (by rw [env_ds hds, upd_self hg1, upd_self hg5]) ?_
    have e : (n4 x1 x5 Kn Kr h) = wpx none Tryd.prog 38 n4_c1 (Q1 (fun z1 z5 z6 z7 h => n5 z1 z5 z6 z7 Kn Kr h) Kr) (((⟨g.v, []⟩ : Env).upd (some 1) (.int .i64 x1)).upd (some 5) (S x5)) h := by kernel_rfl
    exact e ▸ hS
  · intro e g' h' hq
    cases e with
    | normal =>
      have hq : D3 (fun z1 z5 z6 z7 h => n5 z1 z5 z6 z7 Kn Kr h) g' h' := hq
      obtain ⟨y1, y5, y6, y7, hg', hq⟩ := D3_ok hq
      exact n5_ok y1 y5 y6 y7 Kn Kr g' hg' h' hq
    | _ => exact hq
def Q2 (Kn : T2) (Kr : T0) : XPost
  | .normal, g, h => D2 Kn g h
  | .ret, g, h => D0 Kr g h
  | _, _, _ => False
abbrev n3 (x0b : Option Addr) (x0n : Nat) (x0c : Nat) (x1 : Int) (Kn : T0) (Kr : T0) (h : H) : Prop :=
  HCalls Tryd.prog 6 ⟨[(.slice x0b x0n x0c)]⟩ h fun v129 h130 => vStr v129 fun s131 => n4 x1 s131 Kn Kr h130
theorem n3_ok (x0b : Option Addr) (x0n : Nat) (x0c : Nat) (x1 : Int) (Kn : T0) (Kr : T0) (g : Env) (hg : E1 g x0b x0n x0c x1) (h : H) (hS : n3 x0b x0n x0c x1 Kn Kr h) : wpC none Tryd.prog 38 n2_c2 (Q0 Kn Kr) g h := by
  obtain ⟨hg0, hg1, hds⟩ := hg
  refine wpC_seq' (x := n3_c1) (y := n3_c2) (Q' := (Q2 (fun z1 z5 h => n4 z1 z5 Kn Kr h) Kr)) (by kernel_rfl) ?_ ?_
  · refine wpC_of_wpx (by kernel_rfl) (by kernel_rfl) (g' := ((⟨g.v, []⟩ : Env).upd (some 0) (.slice x0b x0n x0c)).upd (some 1) (.int .i64 x1)) (by rw [env_ds hds, upd_self hg0, upd_self hg1]) ?_
    have e : (n3 x0b x0n x0c x1 Kn Kr h) = wpx none Tryd.prog 38 n3_c1 (Q2 (fun z1 z5 h => n4 z1 z5 Kn Kr h) Kr) (((⟨g.v, []⟩ : Env).upd (some 0) (.slice x0b x0n x0c)).upd (some 1) (.int .i64 x1)) h := by kernel_rfl
    exact e ▸ hS
  · intro e g' h' hq
    cases e with
    | normal =>
      have hq : D2 (fun z1 z5 h => n4 z1 z5 Kn Kr h) g' h' := hq
      obtain ⟨y1, y5, hg', hq⟩ := D2_ok hq
      exact n4_ok y1 y5 Kn Kr g' hg' h' hq
    | _ => exact hq
def Q3 (Kn : T1) (Kr : T0) : XPost
  | .normal, g, h => D1 Kn g h
  | .ret, g, h => D0 Kr g h
  | _, _, _ => False
abbrev n2 (x0b : Option Addr) (x0n : Nat) (x0c : Nat) (x1 : Int) (Kn : T0) (Kr : T0) (h : H) : Prop :=
  Spl ((x0n : Int) > (3000 : Int)) (Kr true h) (n3 x0b x0n x0c x1 Kn Kr h)
theorem n2_ok (x0b : Option Addr) (x0n : Nat) (x0c : Nat) (x1 : Int) (Kn : T0) (Kr : T0) (g : Env) (hg : E1 g x0b x0n x0c x1) (h : H) (hS : n2 x0b x0n x0c x1 Kn Kr h) : wpC none Tryd.prog 38 n1_c2 (Q0 Kn Kr) g h := by
  obtain ⟨hg0, hg1, hds⟩ := hg
  refine wpC_seq' (x := n2_c1) (y := n2_c2) (Q' := (Q3 (fun z0b z0n z0c z1 h => n3 z0b z0n z0c z1 Kn Kr h) Kr)) (by kernel_rfl) ?_ ?_
  · refine wpC_of_wpx (by kernel_rfl) (by kernel_rfl) (g' := ((⟨g.v, []⟩ : Env).upd (some 0) (.slice x0b x0n x0c)).upd (some 1) (.int .i64 x1)) (by rw [env_ds hds, upd_self hg0, upd_self hg1]) ?_
    have e : (n2 x0b x0n x0c x1 Kn Kr h) = wpx none Tryd.prog 38 n2_c1 (Q3 (fun z0b z0n z0c z1 h => n3 z0b z0n z0c z1 Kn Kr h) Kr) (((⟨g.v, []⟩ : Env).upd (some 0) (.slice x0b x0n x0c)).upd (some 1) (.int .i64 x1)) h := by kernel_rfl
    exact e ▸ hS
  · intro e g' h' hq
    cases e with
    | normal =>
      have hq : D1 (fun z0b z0n z0c z1 h => n3 z0b z0n z0c z1 Kn Kr h) g' h' := hq
      obtain ⟨y0b, y0n, y0c, y1, hg', hq⟩ := D1_ok hq
      exact n3_ok y0b y0n y0c y1 Kn Kr g' hg' h' hq
    | _ => exact hq
abbrev n1 (x0b : Option Addr) (x0n : Nat) (x0c : Nat) (x1 : Int) (Kn : T0) (Kr : T0) (h : H) : Prop :=
  n2 x0b x0n x0c x1 Kn Kr h
theorem n1_ok (x0b : Option Addr) (x0n : Nat) (x0c : Nat) (x1 : Int) (Kn : T0) (Kr : T0) (g : Env) (hg : E1 g x0b x0n x0c x1) (h : H) (hS : n1 x0b x0n x0c x1 Kn Kr h) : wpC none Tryd.prog 38 code (Q0 Kn Kr) g h := by
  obtain ⟨hg0, hg1, hds⟩ := hg
  refine wpC_seq' (x := n1_c1) (y := n1_c2) (Q' := (Q3 (fun z0b z0n z0c z1 h => n2 z0b z0n z0c z1 Kn Kr h) Kr)) (by kernel_rfl) ?_ ?_
  · refine wpC_of_wpx (by kernel_rfl) (by kernel_rfl) (g' := ((⟨g.v, []⟩ : Env).upd (some 0) (.slice x0b x0n x0c)).upd (some 1) (.int .i64 x1)) (by rw [env_ds hds, upd_self hg0, upd_self hg1]) ?_
    have e : (n1 x0b x0n x0c x1 Kn Kr h) = wpx none Tryd.prog 38 n1_c1 (Q3 (fun z0b z0n z0c z1 h => n2 z0b z0n z0c z1 Kn Kr h) Kr) (((⟨g.v, []⟩ : Env).upd (some 0) (.slice x0b x0n x0c)).upd (some 1) (.int .i64 x1)) h := by kernel_rfl
    exact e ▸ hS
  · intro e g' h' hq
    cases e with
    | normal =>
      have hq : D1 (fun z0b z0n z0c z1 h => n2 z0b z0n z0c z1 Kn Kr h) g' h' := hq
      obtain ⟨y0b, y0n, y0c, y1, hg', hq⟩ := D1_ok hq
      exact n2_ok y0b y0n y0c y1 Kn Kr g' hg' h' hq
    | _ => exact hq
/-- WHAT tympan/tympanlaw27.StarsReads ASKS -/
abbrev asks (x0b : Option Addr) (x0n : Nat) (x0c : Nat) (x1 : Int) (K : Value → H → Prop) (h : H) : Prop := n1 x0b x0n x0c x1 (fun y4 h => K (.bool y4) h) (fun y4 h => K (.bool y4) h) h
theorem ok (x0b : Option Addr) (x0n : Nat) (x0c : Nat) (x1 : Int) (K : Value → H → Prop) (h : H) (hS : asks x0b x0n x0c x1 K h) : HCalls Tryd.prog 3 ⟨[(.slice x0b x0n x0c), (.int .i64 x1)]⟩ h K := by
  refine calls_of_wpC (c := code) Tryd.func3 (by kernel_rfl) (Nat.le_of_ble_eq_true (by kernel_rfl)) ?_
  refine (n1_ok x0b x0n x0c x1 (fun y4 h => K (.bool y4) h) (fun y4 h => K (.bool y4) h) (env0 [(.slice x0b x0n x0c), (.int .i64 x1)]) ⟨rfl, rfl, rfl⟩ h hS).mono ?_
  intro e g' h' hq
  cases e with
  | normal =>
    have hq : D0 (fun y4 h => K (.bool y4) h) g' h' := hq
    obtain ⟨y4, ⟨hg4, hd⟩, hq⟩ := D0_ok hq
    show leaveX g'.ds h' _
    rw [hd]
    show K (g'.v 4) h'
    rw [hg4]
    exact hq
  | ret =>
    have hq : D0 (fun y4 h => K (.bool y4) h) g' h' := hq
    obtain ⟨y4, ⟨hg4, hd⟩, hq⟩ := D0_ok hq
    show leaveX g'.ds h' _
    rw [hd]
    show K (g'.v 4) h'
    rw [hg4]
    exact hq
  | _ => exact hq
end Sx.l27_StarsReads

/-! ### tympan/tympanlaw27.StarsMatches -/
namespace Sx.l27_StarsMatches
noncomputable def code : Code := bodyOf Tryd.f4
abbrev T0 := Bool → H → Prop
def E0 (g : Env) (x2 : Bool) : Prop := g.v 2 = (.bool x2) ∧ g.ds = []
def D0 (K : T0) (g : Env) (h : H) : Prop := nilDs g.ds (vBool (g.v 2) fun b1 => K b1 h)
theorem D0_ok {K : T0} {g : Env} {h : H} (hq : D0 K g h) : ∃ (x2 : Bool), E0 g x2 ∧ K x2 h := by
  obtain ⟨hd, hq⟩ := nilDs_ok hq
  obtain ⟨y3, e2, q4⟩ := vBool_ok hq
  exact ⟨y3, ⟨e2, hd⟩, q4⟩
def Q0 (Kn : T0) (Kr : T0) : XPost
  | .normal, g, h => D0 Kn g h
  | .ret, g, h => D0 Kr g h
  | _, _, _ => False
abbrev T1 := (Option Addr) → Nat → Nat → H → Prop
def E1 (g : Env) (x0b : Option Addr) (x0n : Nat) (x0c : Nat) : Prop := g.v 0 = (.slice x0b x0n x0c) ∧ g.ds = []
def D1 (K : T1) (g : Env) (h : H) : Prop := nilDs g.ds (vSlice (g.v 0) fun s5b s5n s5c => K s5b s5n s5c h)
theorem D1_ok {K : T1} {g : Env} {h : H} (hq : D1 K g h) : ∃ (x0b : Option Addr) (x0n : Nat) (x0c : Nat), E1 g x0b x0n x0c ∧ K x0b x0n x0c h := by
  obtain ⟨hd, hq⟩ := nilDs_ok hq
  obtain ⟨y7b, y7n, y7c, e6, q8⟩ := vSlice_ok hq
  exact ⟨y7b, y7n, y7c, ⟨e6, hd⟩, q8⟩
noncomputable def n1_c1 : Code := cFst code
noncomputable def n1_c2 : Code := cSnd code
noncomputable def n2_c1 : Code := cFst n1_c2
noncomputable def n2_c2 : Code := cSnd n1_c2
noncomputable def n3_c1 : Code := cFst n2_c2
noncomputable def n3_c2 : Code := cSnd n2_c2
abbrev T2 := (Option Addr) → Nat → Nat → (Option Addr) → Nat → Nat → H → Prop
def E2 (g : Env) (x0b : Option Addr) (x0n : Nat) (x0c : Nat) (x3b : Option Addr) (x3n : Nat) (x3c : Nat) : Prop := g.v 0 = (.slice x0b x0n x0c) ∧ g.v 3 = (.slice x3b x3n x3c) ∧ g.ds = []
def D2 (K : T2) (g : Env) (h : H) : Prop := nilDs g.ds (vSlice (g.v 0) fun s9b s9n s9c => vSlice (g.v 3) fun s10b s10n s10c => K s9b s9n s9c s10b s10n s10c h)
theorem D2_ok {K : T2} {g : Env} {h : H} (hq : D2 K g h) : ∃ (x0b : Option Addr) (x0n : Nat) (x0c : Nat) (x3b : Option Addr) (x3n : Nat) (x3c : Nat), E2 g x0b x0n x0c x3b x3n x3c ∧ K x0b x0n x0c x3b x3n x3c h := by
  obtain ⟨hd, hq⟩ := nilDs_ok hq
  obtain ⟨y12b, y12n, y12c, e11, q13⟩ := vSlice_ok hq
  obtain ⟨y15b, y15n, y15c, e14, q16⟩ := vSlice_ok q13
  exact ⟨y12b, y12n, y12c, y15b, y15n, y15c, ⟨e11, e14, hd⟩, q16⟩
noncomputable def n4_c1 : Code := cFst n3_c2
noncomputable def n4_c2 : Code := cSnd n3_c2
noncomputable def n5_c1 : Code := cFst n4_c2
noncomputable def n5_c2 : Code := cSnd n4_c2
abbrev T3 := (Option Addr) → Nat → Nat → (Option Addr) → Nat → Nat → (Option Addr) → Nat → Nat → H → Prop
def E3 (g : Env) (x0b : Option Addr) (x0n : Nat) (x0c : Nat) (x3b : Option Addr) (x3n : Nat) (x3c : Nat) (x4b : Option Addr) (x4n : Nat) (x4c : Nat) : Prop := g.v 0 = (.slice x0b x0n x0c) ∧ g.v 3 = (.slice x3b x3n x3c) ∧ g.v 4 = (.slice x4b x4n x4c) ∧ g.ds = []
def D3 (K : T3) (g : Env) (h : H) : Prop := nilDs g.ds (vSlice (g.v 0) fun s17b s17n s17c => vSlice (g.v 3) fun s18b s18n s18c => vSlice (g.v 4) fun s19b s19n s19c => K s17b s17n s17c s18b s18n s18c s19b s19n s19c h)
theorem D3_ok {K : T3} {g : Env} {h : H} (hq : D3 K g h) : ∃ (x0b : Option Addr) (x0n : Nat) (x0c : Nat) (x3b : Option Addr) (x3n : Nat) (x3c : Nat) (x4b : Option Addr) (x4n : Nat) (x4c : Nat), E3 g x0b x0n x0c x3b x3n x3c x4b x4n x4c ∧ K x0b x0n x0c x3b x3n x3c x4b x4n x4c h := by
  obtain ⟨hd, hq⟩ := nilDs_ok hq
  obtain ⟨y21b, y21n, y21c, e20, q22⟩ := vSlice_ok hq
  obtain ⟨y24b, y24n, y24c, e23, q25⟩ := vSlice_ok q22
  obtain ⟨y27b, y27n, y27c, e26, q28⟩ := vSlice_ok q25
  exact ⟨y21b, y21n, y21c, y24b, y24n, y24c, y27b, y27n, y27c, ⟨e20, e23, e26, hd⟩, q28⟩
noncomputable def n6_c1 : Code := cFst n5_c2
noncomputable def n6_c2 : Code := cSnd n5_c2
abbrev T4 := (Option Addr) → Nat → Nat → (Option Addr) → Nat → Nat → (Option Addr) → Nat → Nat → (Option Addr) → Nat → Nat → H → Prop
def E4 (g : Env) (x0b : Option Addr) (x0n : Nat) (x0c : Nat) (x3b : Option Addr) (x3n : Nat) (x3c : Nat) (x4b : Option Addr) (x4n : Nat) (x4c : Nat) (x5b : Option Addr) (x5n : Nat) (x5c : Nat) : Prop := g.v 0 = (.slice x0b x0n x0c) ∧ g.v 3 = (.slice x3b x3n x3c) ∧ g.v 4 = (.slice x4b x4n x4c) ∧ g.v 5 = (.slice x5b x5n x5c) ∧ g.ds = []
def D4 (K : T4) (g : Env) (h : H) : Prop := nilDs g.ds (vSlice (g.v 0) fun s29b s29n s29c => vSlice (g.v 3) fun s30b s30n s30c => vSlice (g.v 4) fun s31b s31n s31c => vSlice (g.v 5) fun s32b s32n s32c => K s29b s29n s29c s30b s30n s30c s31b s31n s31c s32b s32n s32c h)
theorem D4_ok {K : T4} {g : Env} {h : H} (hq : D4 K g h) : ∃ (x0b : Option Addr) (x0n : Nat) (x0c : Nat) (x3b : Option Addr) (x3n : Nat) (x3c : Nat) (x4b : Option Addr) (x4n : Nat) (x4c : Nat) (x5b : Option Addr) (x5n : Nat) (x5c : Nat), E4 g x0b x0n x0c x3b x3n x3c x4b x4n x4c x5b x5n x5c ∧ K x0b x0n x0c x3b x3n x3c x4b x4n x4c x5b x5n x5c h := by
  obtain ⟨hd, hq⟩ := nilDs_ok hq
  obtain ⟨y34b, y34n, y34c, e33, q35⟩ := vSlice_ok hq
  obtain ⟨y37b, y37n, y37c, e36, q38⟩ := vSlice_ok q35
  obtain ⟨y40b, y40n, y40c, e39, q41⟩ := vSlice_ok q38
  obtain ⟨y43b, y43n, y43c, e42, q44⟩ := vSlice_ok q41
  exact ⟨y34b, y34n, y34c, y37b, y37n, y37c, y40b, y40n, y40c, y43b, y43n, y43c, ⟨e33, e36, e39, e42, hd⟩, q44⟩
noncomputable def n7_c1 : Code := cFst n6_c2
noncomputable def n7_c2 : Code := cSnd n6_c2
noncomputable def n8_c1 : Code := cFst n7_c2
noncomputable def n8_c2 : Code := cSnd n7_c2
noncomputable def n9_c1 : Code := cFst n8_c2
noncomputable def n9_c2 : Code := cSnd n8_c2
abbrev T5 := H → Prop
def E5 (g : Env)  : Prop := g.ds = []
def D5 (K : T5) (g : Env) (h : H) : Prop := nilDs g.ds (K h)
theorem D5_ok {K : T5} {g : Env} {h : H} (hq : D5 K g h) : E5 g  ∧ K  h := by
  obtain ⟨hd, hq⟩ := nilDs_ok hq
  skip
  exact ⟨hd, hq⟩
abbrev n10  (Kn : T0) (Kr : T0) (h : H) : Prop :=
  Kr true h
theorem n10_ok  (Kn : T0) (Kr : T0) (g : Env) (hg : E5 g ) (h : H) (hS : n10  Kn Kr h) : wpC none Tryd.prog 56 n9_c2 (Q0 Kn Kr) g h := by
  have hds : g.ds = [] := hg
  refine wpC_of_wpx (by kernel_rfl) (by kernel_rfl) (g' := ⟨g.v, []⟩) (by rw [env_ds hds]) ?_
  have e : (n10  Kn Kr h) = wpx none Tryd.prog 56 n9_c2 (Q0 Kn Kr) (⟨g.v, []⟩) h := by kernel_rfl
  exact e ▸ hS
def Q1 (Kn : T5) (Kr : T0) : XPost
  | .normal, g, h => D5 Kn g h
  | .ret, g, h => D0 Kr g h
  | _, _, _ => False
noncomputable def n11_c1 : Code := cFst n9_c1
noncomputable def n11_c2 : Code := cSnd n9_c1
abbrev T6 := (Option Addr) → Nat → Nat → (Option Addr) → Nat → Nat → Int → H → Prop
def E6 (g : Env) (x0b : Option Addr) (x0n : Nat) (x0c : Nat) (x3b : Option Addr) (x3n : Nat) (x3c : Nat) (x7 : Int) : Prop := g.v 0 = (.slice x0b x0n x0c) ∧ g.v 3 = (.slice x3b x3n x3c) ∧ g.v 7 = (.int .i64 x7) ∧ g.ds = []
def D6 (K : T6) (g : Env) (h : H) : Prop := nilDs g.ds (vSlice (g.v 0) fun s45b s45n s45c => vSlice (g.v 3) fun s46b s46n s46c => vInt .i64 (g.v 7) fun i47 => K s45b s45n s45c s46b s46n s46c i47 h)
theorem D6_ok {K : T6} {g : Env} {h : H} (hq : D6 K g h) : ∃ (x0b : Option Addr) (x0n : Nat) (x0c : Nat) (x3b : Option Addr) (x3n : Nat) (x3c : Nat) (x7 : Int), E6 g x0b x0n x0c x3b x3n x3c x7 ∧ K x0b x0n x0c x3b x3n x3c x7 h := by
  obtain ⟨hd, hq⟩ := nilDs_ok hq
  obtain ⟨y49b, y49n, y49c, e48, q50⟩ := vSlice_ok hq
  obtain ⟨y52b, y52n, y52c, e51, q53⟩ := vSlice_ok q50
  obtain ⟨y55, e54, q56⟩ := vInt_ok q53
  exact ⟨y49b, y49n, y49c, y52b, y52n, y52c, y55, ⟨e48, e51, e54, hd⟩, q56⟩
noncomputable def n12_c1 : Code := cFst n11_c2
def Q2 (Kn : T5) (Ke2 : T5) (Kr : T0) : XPost
  | .normal, g, h => D5 Kn g h
  | .ret, g, h => D0 Kr g h
  | .exit id, g, h => cond (Nat.beq id 2) (D5 Ke2 g h) (False)
  | _, _, _ => False
noncomputable def n13_c1 : Code := cFst n12_c1
def Q3 (Kn : T6) (Ke2 : T5) (Kr : T0) : XPost
  | .normal, g, h => D6 Kn g h
  | .ret, g, h => D0 Kr g h
  | .exit id, g, h => cond (Nat.beq id 2) (D5 Ke2 g h) (False)
  | _, _, _ => False
def n13_L (Kn : T5) (Ke2 : T5) (Kr : T0) : Nat → (Option Addr) → Nat → Nat → (Option Addr) → Nat → Nat → Int → H → Prop
  | 0 => fun _ _ _ _ _ _ _ _ => False
  | N + 1 => fun x0b x0n x0c x3b x3n x3c x7 h => Spl (x7 < (x0n : Int)) ((0 ≤ x7 ∧ x7 < (x3n : Int)) ∧ (vSome x3b fun a57 => ∃ i58, cell h (((a57.add (Int.toNat x7 * 5))).add 0) = some (.int .u8 i58) ∧ (∃ i59, cell h (((a57.add (Int.toNat x7 * 5))).add 1) = some (.int .i64 i59) ∧ (∃ i60, cell h (((a57.add (Int.toNat x7 * 5))).add 2) = some (.int .i64 i60) ∧ (∃ b61, cell h (((a57.add (Int.toNat x7 * 5))).add 3) = some (.bool b61) ∧ (∃ b62, cell h (((a57.add (Int.toNat x7 * 5))).add 4) = some (.bool b62) ∧ ((0 ≤ x7 ∧ x7 < (x0n : Int)) ∧ (vSome x0b fun a63 => ∃ i64, cell h (((a63.add (Int.toNat x7 * 5))).add 0) = some (.int .u8 i64) ∧ (∃ i65, cell h (((a63.add (Int.toNat x7 * 5))).add 1) = some (.int .i64 i65) ∧ (∃ i66, cell h (((a63.add (Int.toNat x7 * 5))).add 2) = some (.int .i64 i66) ∧ (∃ b67, cell h (((a63.add (Int.toNat x7 * 5))).add 3) = some (.bool b67) ∧ (∃ b68, cell h (((a63.add (Int.toNat x7 * 5))).add 4) = some (.bool b68) ∧ (SemR Tryd.prog (binS .neq 25 (.tmp 50) (.tmp 54) (.agg ⟨[(.int .u8 i58), (.int .i64 i59), (.int .i64 i60), (.bool b61), (.bool b62)]⟩) (.agg ⟨[(.int .u8 i64), (.int .i64 i65), (.int .i64 i66), (.bool b67), (.bool b68)]⟩)) h fun v69 => vBool v69 fun b70 => cond b70 (Kr false h) (Rng .i64 (x7 + (1 : Int)) ∧ (n13_L Kn Ke2 Kr N x0b x0n x0c x3b x3n x3c (x7 + (1 : Int)) h))))))))))))))) (Ke2 h)
abbrev n13 (x0b : Option Addr) (x0n : Nat) (x0c : Nat) (x3b : Option Addr) (x3n : Nat) (x3c : Nat) (x7 : Int) (Kn : T5) (Ke2 : T5) (Kr : T0) (h : H) : Prop := ∃ N, n13_L Kn Ke2 Kr N x0b x0n x0c x3b x3n x3c x7 h
theorem n13_ok (x0b : Option Addr) (x0n : Nat) (x0c : Nat) (x3b : Option Addr) (x3n : Nat) (x3c : Nat) (x7 : Int) (Kn : T5) (Ke2 : T5) (Kr : T0) (g : Env) (hg : E6 g x0b x0n x0c x3b x3n x3c x7) (h : H) (hS : n13 x0b x0n x0c x3b x3n x3c x7 Kn Ke2 Kr h) : wpC none Tryd.prog 56 n12_c1 (Q2 Kn Ke2 Kr) g h := by
  obtain ⟨N0, hS⟩ := hS
  refine wpC_loop' (x := n13_c1) (by kernel_rfl) (fun k g h => ∃ (x0b : Option Addr) (x0n : Nat) (x0c : Nat) (x3b : Option Addr) (x3n : Nat) (x3c : Nat) (x7 : Int), E6 g x0b x0n x0c x3b x3n x3c x7 ∧ n13_L Kn Ke2 Kr k x0b x0n x0c x3b x3n x3c x7 h) (fun g h hr => ?_) (fun N g h hr => ?_) N0 ⟨x0b, x0n, x0c, x3b, x3n, x3c, x7, hg, hS⟩
  · obtain ⟨x0b, x0n, x0c, x3b, x3n, x3c, x7, hg, hS⟩ := hr
    exact hS.elim
  · obtain ⟨x0b, x0n, x0c, x3b, x3n, x3c, x7, hg, hS⟩ := hr
    have hw : wpC none Tryd.prog 56 n13_c1 (Q3 (fun z0b z0n z0c z3b z3n z3c z7 h => n13_L Kn Ke2 Kr N z0b z0n z0c z3b z3n z3c z7 h) Ke2 Kr) g h := by
      obtain ⟨hg0, hg3, hg7, hds⟩ := hg
      refine wpC_of_wpx (by kernel_rfl) (by kernel_rfl) (g' := (((⟨g.v, []⟩ : Env).upd (some 0) (.slice x0b x0n x0c)).upd (some 3) (.slice x3b x3n x3c)).upd (some 7) (.int .i64 x7)) (by rw [env_ds hds, upd_self hg0, upd_self hg3, upd_self hg7]) ?_
      have e : (n13_L Kn Ke2 Kr (N + 1) x0b x0n x0c x3b x3n x3c x7 h) = wpx none Tryd.prog 56 n13_c1 (Q3 (fun z0b z0n z0c z3b z3n z3c z7 h => n13_L Kn Ke2 Kr N z0b z0n z0c z3b z3n z3c z7 h) Ke2 Kr) ((((⟨g.v, []⟩ : Env).upd (some 0) (.slice x0b x0n x0c)).upd (some 3) (.slice x3b x3n x3c)).upd (some 7) (.int .i64 x7)) h := by kernel_rfl
      exact e ▸ hS
    refine hw.mono ?_
    intro e g' h' hq
    cases e with
    | normal => exact D6_ok (K := (fun z0b z0n z0c z3b z3n z3c z7 h => n13_L Kn Ke2 Kr N z0b z0n z0c z3b z3n z3c z7 h)) hq
    | _ => exact hq
abbrev n12 (x0b : Option Addr) (x0n : Nat) (x0c : Nat) (x3b : Option Addr) (x3n : Nat) (x3c : Nat) (x7 : Int) (Kn : T5) (Kr : T0) (h : H) : Prop := n13 x0b x0n x0c x3b x3n x3c x7 Kn Kn Kr h
theorem n12_ok (x0b : Option Addr) (x0n : Nat) (x0c : Nat) (x3b : Option Addr) (x3n : Nat) (x3c : Nat) (x7 : Int) (Kn : T5) (Kr : T0) (g : Env) (hg : E6 g x0b x0n x0c x3b x3n x3c x7) (h : H) (hS : n12 x0b x0n x0c x3b x3n x3c x7 Kn Kr h) : wpC none Tryd.prog 56 n11_c2 (Q1 Kn Kr) g h := by
  refine wpC_block' (id := 2) (x := n12_c1) (by kernel_rfl) (n13_ok x0b x0n x0c x3b x3n x3c x7 Kn Kn Kr g hg h hS) ?_
  intro e g' h' hq
  cases e <;> exact hq
def Q4 (Kn : T6) (Kr : T0) : XPost
  | .normal, g, h => D6 Kn g h
  | .ret, g, h => D0 Kr g h
  | _, _, _ => False
abbrev n11 (x0b : Option Addr) (x0n : Nat) (x0c : Nat) (x3b : Option Addr) (x3n : Nat) (x3c : Nat) (Kn : T5) (Kr : T0) (h : H) : Prop :=
  n12 x0b x0n x0c x3b x3n x3c (0 : Int) Kn Kr h
theorem n11_ok (x0b : Option Addr) (x0n : Nat) (x0c : Nat) (x3b : Option Addr) (x3n : Nat) (x3c : Nat) (Kn : T5) (Kr : T0) (g : Env) (hg : E2 g x0b x0n x0c x3b x3n x3c) (h : H) (hS : n11 x0b x0n x0c x3b x3n x3c Kn Kr h) : wpC none Tryd.prog 56 n9_c1 (Q1 Kn Kr) g h := by
  obtain ⟨hg0, hg3, hds⟩ := hg
  refine wpC_seq' (x := n11_c1) (y := n11_c2) (Q' := (Q4 (fun z0b z0n z0c z3b z3n z3c z7 h => n12 z0b z0n z0c z3b z3n z3c z7 Kn Kr h) Kr)) (by kernel_rfl) ?_ ?_
  · refine wpC_of_wpx (by kernel_rfl) (by kernel_rfl) (g' := ((⟨g.v, []⟩ : Env).upd (some 0) (.slice x0b x0n x0c)).upd (some 3) (.slice x3b x3n x3c)) (by rw [env_ds hds, upd_self hg0, upd_self hg3]) ?_
    have e : (n11 x0b x0n x0c x3b x3n x3c Kn Kr h) = wpx none Tryd.prog 56 n11_c1 (Q4 (fun z0b z0n z0c z3b z3n z3c z7 h => n12 z0b z0n z0c z3b z3n z3c z7 Kn Kr h) Kr) (((⟨g.v, []⟩ : Env).upd (some 0) (.slice x0b x0n x0c)).upd (some 3) (.slice x3b x3n x3c)) h := by kernel_rfl
    exact e ▸ hS
  · intro e g' h' hq
    cases e with
    | normal =>
      have hq : D6 (fun z0b z0n z0c z3b z3n z3c z7 h => n12 z0b z0n z0c z3b z3n z3c z7 Kn Kr h) g' h' := hq
      obtain ⟨y0b, y0n, y0c, y3b, y3n, y3c, y7, hg', hq⟩ := D6_ok hq
      exact n12_ok y0b y0n y0c y3b y3n y3c y7 Kn Kr g' hg' h' hq
    | _ => exact hq
abbrev n9 (x0b : Option Addr) (x0n : Nat) (x0c : Nat) (x3b : Option Addr) (x3n : Nat) (x3c : Nat) (Kn : T0) (Kr : T0) (h : H) : Prop := n11 x0b x0n x0c x3b x3n x3c (fun  h => n10 Kn Kr h) Kr h
theorem n9_ok (x0b : Option Addr) (x0n : Nat) (x0c : Nat) (x3b : Option Addr) (x3n : Nat) (x3c : Nat) (Kn : T0) (Kr : T0) (g : Env) (hg : E2 g x0b x0n x0c x3b x3n x3c) (h : H) (hS : n9 x0b x0n x0c x3b x3n x3c Kn Kr h) : wpC none Tryd.prog 56 n8_c2 (Q0 Kn Kr) g h := by
  refine wpC_seq' (x := n9_c1) (y := n9_c2) (by kernel_rfl) (n11_ok x0b x0n x0c x3b x3n x3c (fun  h => n10 Kn Kr h) Kr g hg h hS) ?_
  intro e g' h' hq
  cases e with
  | normal =>
    have hq : D5 (fun  h => n10 Kn Kr h) g' h' := hq
    obtain ⟨hg', hq⟩ := D5_ok hq
    exact n10_ok  Kn Kr g' hg' h' hq
  | _ => exact hq
def Q5 (Kn : T2) (Kr : T0) : XPost
  | .normal, g, h => D2 Kn g h
  | .ret, g, h => D0 Kr g h
  | _, _, _ => False
noncomputable def n14_c1 : Code := cFst n8_c1
noncomputable def n14_c2 : Code := cSnd n8_c1
abbrev T7 := (Option Addr) → Nat → Nat → (Option Addr) → Nat → Nat → (Option Addr) → Nat → Nat → (Option Addr) → Nat → Nat → Int → H → Prop
def E7 (g : Env) (x0b : Option Addr) (x0n : Nat) (x0c : Nat) (x3b : Option Addr) (x3n : Nat) (x3c : Nat) (x4b : Option Addr) (x4n : Nat) (x4c : Nat) (x5b : Option Addr) (x5n : Nat) (x5c : Nat) (x6 : Int) : Prop := g.v 0 = (.slice x0b x0n x0c) ∧ g.v 3 = (.slice x3b x3n x3c) ∧ g.v 4 = (.slice x4b x4n x4c) ∧ g.v 5 = (.slice x5b x5n x5c) ∧ g.v 6 = (.int .i64 x6) ∧ g.ds = []
def D7 (K : T7) (g : Env) (h : H) : Prop := nilDs g.ds (vSlice (g.v 0) fun s71b s71n s71c => vSlice (g.v 3) fun s72b s72n s72c => vSlice (g.v 4) fun s73b s73n s73c => vSlice (g.v 5) fun s74b s74n s74c => vInt .i64 (g.v 6) fun i75 => K s71b s71n s71c s72b s72n s72c s73b s73n s73c s74b s74n s74c i75 h)
theorem D7_ok {K : T7} {g : Env} {h : H} (hq : D7 K g h) : ∃ (x0b : Option Addr) (x0n : Nat) (x0c : Nat) (x3b : Option Addr) (x3n : Nat) (x3c : Nat) (x4b : Option Addr) (x4n : Nat) (x4c : Nat) (x5b : Option Addr) (x5n : Nat) (x5c : Nat) (x6 : Int), E7 g x0b x0n x0c x3b x3n x3c x4b x4n x4c x5b x5n x5c x6 ∧ K x0b x0n x0c x3b x3n x3c x4b x4n x4c x5b x5n x5c x6 h := by
  obtain ⟨hd, hq⟩ := nilDs_ok hq
  obtain ⟨y77b, y77n, y77c, e76, q78⟩ := vSlice_ok hq
  obtain ⟨y80b, y80n, y80c, e79, q81⟩ := vSlice_ok q78
  obtain ⟨y83b, y83n, y83c, e82, q84⟩ := vSlice_ok q81
  obtain ⟨y86b, y86n, y86c, e85, q87⟩ := vSlice_ok q84
  obtain ⟨y89, e88, q90⟩ := vInt_ok q87
  exact ⟨y77b, y77n, y77c, y80b, y80n, y80c, y83b, y83n, y83c, y86b, y86n, y86c, y89, ⟨e76, e79, e82, e85, e88, hd⟩, q90⟩
noncomputable def n15_c1 : Code := cFst n14_c2
def Q6 (Kn : T2) (Ke0 : T2) (Kr : T0) : XPost
  | .normal, g, h => D2 Kn g h
  | .ret, g, h => D0 Kr g h
  | .exit id, g, h => cond (Nat.beq id 0) (D2 Ke0 g h) (False)
  | _, _, _ => False
noncomputable def n16_c1 : Code := cFst n15_c1
def Q7 (Kn : T7) (Ke0 : T2) (Kr : T0) : XPost
  | .normal, g, h => D7 Kn g h
  | .ret, g, h => D0 Kr g h
  | .exit id, g, h => cond (Nat.beq id 0) (D2 Ke0 g h) (False)
  | _, _, _ => False
def n16_L (Kn : T2) (Ke0 : T2) (Kr : T0) : Nat → (Option Addr) → Nat → Nat → (Option Addr) → Nat → Nat → (Option Addr) → Nat → Nat → (Option Addr) → Nat → Nat → Int → H → Prop
  | 0 => fun _ _ _ _ _ _ _ _ _ _ _ _ _ _ => False
  | N + 1 => fun x0b x0n x0c x3b x3n x3c x4b x4n x4c x5b x5n x5c x6 h => Spl (x6 < (x4n : Int)) ((0 ≤ x6 ∧ x6 < (x4n : Int)) ∧ (vSome x4b fun a91 => ∃ i92, cell h (((a91.add (Int.toNat x6 * 3))).add 0) = some (.int .i64 i92) ∧ (∃ i93, cell h (((a91.add (Int.toNat x6 * 3))).add 1) = some (.int .i64 i93) ∧ (∃ i94, cell h (((a91.add (Int.toNat x6 * 3))).add 2) = some (.int .i64 i94) ∧ ((0 ≤ x6 ∧ x6 < (x5n : Int)) ∧ (vSome x5b fun a95 => ∃ i96, cell h (((a95.add (Int.toNat x6 * 3))).add 0) = some (.int .i64 i96) ∧ (∃ i97, cell h (((a95.add (Int.toNat x6 * 3))).add 1) = some (.int .i64 i97) ∧ (∃ i98, cell h (((a95.add (Int.toNat x6 * 3))).add 2) = some (.int .i64 i98) ∧ (SemR Tryd.prog (binS .neq 35 (.tmp 35) (.tmp 39) (.agg ⟨[(.int .i64 i92), (.int .i64 i93), (.int .i64 i94)]⟩) (.agg ⟨[(.int .i64 i96), (.int .i64 i97), (.int .i64 i98)]⟩)) h fun v99 => vBool v99 fun b100 => cond b100 (Kr false h) (Rng .i64 (x6 + (1 : Int)) ∧ (n16_L Kn Ke0 Kr N x0b x0n x0c x3b x3n x3c x4b x4n x4c x5b x5n x5c (x6 + (1 : Int)) h))))))))))) (Ke0 x0b x0n x0c x3b x3n x3c h)
abbrev n16 (x0b : Option Addr) (x0n : Nat) (x0c : Nat) (x3b : Option Addr) (x3n : Nat) (x3c : Nat) (x4b : Option Addr) (x4n : Nat) (x4c : Nat) (x5b : Option Addr) (x5n : Nat) (x5c : Nat) (x6 : Int) (Kn : T2) (Ke0 : T2) (Kr : T0) (h : H) : Prop := ∃ N, n16_L Kn Ke0 Kr N x0b x0n x0c x3b x3n x3c x4b x4n x4c x5b x5n x5c x6 h
theorem n16_ok (x0b : Option Addr) (x0n : Nat) (x0c : Nat) (x3b : Option Addr) (x3n : Nat) (x3c : Nat) (x4b : Option Addr) (x4n : Nat) (x4c : Nat) (x5b : Option Addr) (x5n : Nat) (x5c : Nat) (x6 : Int) (Kn : T2) (Ke0 : T2) (Kr : T0) (g : Env) (hg : E7 g x0b x0n x0c x3b x3n x3c x4b x4n x4c x5b x5n x5c x6) (h : H) (hS : n16 x0b x0n x0c x3b x3n x3c x4b x4n x4c x5b x5n x5c x6 Kn Ke0 Kr h) : wpC none Tryd.prog 56 n15_c1 (Q6 Kn Ke0 Kr) g h := by
  obtain ⟨N0, hS⟩ := hS
  refine wpC_loop' (x := n16_c1) (by kernel_rfl) (fun k g h => ∃ (x0b : Option Addr) (x0n : Nat) (x0c : Nat) (x3b : Option Addr) (x3n : Nat) (x3c : Nat) (x4b : Option Addr) (x4n : Nat) (x4c : Nat) (x5b : Option Addr) (x5n : Nat) (x5c : Nat) (x6 : Int), E7 g x0b x0n x0c x3b x3n x3c x4b x4n x4c x5b x5n x5c x6 ∧ n16_L Kn Ke0 Kr k x0b x0n x0c x3b x3n x3c x4b x4n x4c x5b x5n x5c x6 h) (fun g h hr => ?_) (fun N g h hr => ?_) N0 ⟨x0b, x0n, x0c, x3b, x3n, x3c, x4b, x4n, x4c, x5b, x5n, x5c, x6, hg, hS⟩
  · obtain ⟨x0b, x0n, x0c, x3b, x3n, x3c, x4b, x4n, x4c, x5b, x5n, x5c, x6, hg, hS⟩ := hr
    exact hS.elim
  · obtain ⟨x0b, x0n, x0c, x3b, x3n, x3c, x4b, x4n, x4c, x5b, x5n, x5c, x6, hg, hS⟩ := hr
    have hw : wpC none Tryd.prog 56 n16_c1 (Q7 (fun z0b z0n z0c z3b z3n z3c z4b z4n z4c z5b z5n z5c z6 h => n16_L Kn Ke0 Kr N z0b z0n z0c z3b z3n z3c z4b z4n z4c z5b z5n z5c z6 h) Ke0 Kr) g h := by
      obtain ⟨hg0, hg3, hg4, hg5, hg6, hds⟩ := hg
      refine wpC_of_wpx (by kernel_rfl) (by kernel_rfl) (g' := (((((⟨g.v, []⟩ : Env).upd (some 0) (.slice x0b x0n x0c)).upd (some 3) (.slice x3b x3n x3c)).upd (some 4) (.slice x4b x4n x4c)).upd (some 5) (.slice x5b x5n x5c)).upd (some 6) (.int .i64 x6)) (by rw [env_ds hds, upd_self hg0, upd_self hg3, upd_self hg4, upd_self hg5, upd_self hg6]) ?_
      have e : (n16_L Kn Ke0 Kr (N + 1) x0b x0n x0c x3b x3n x3c x4b x4n x4c x5b x5n x5c x6 h) = wpx none Tryd.prog 56 n16_c1 (Q7 (fun z0b z0n z0c z3b z3n z3c z4b z4n z4c z5b z5n z5c z6 h => n16_L Kn Ke0 Kr N z0b z0n z0c z3b z3n z3c z4b z4n z4c z5b z5n z5c z6 h) Ke0 Kr) ((((((⟨g.v, []⟩ : Env).upd (some 0) (.slice x0b x0n x0c)).upd (some 3) (.slice x3b x3n x3c)).upd (some 4) (.slice x4b x4n x4c)).upd (some 5) (.slice x5b x5n x5c)).upd (some 6) (.int .i64 x6)) h := by kernel_rfl
      exact e ▸ hS
    refine hw.mono ?_
    intro e g' h' hq
    cases e with
    | normal => exact D7_ok (K := (fun z0b z0n z0c z3b z3n z3c z4b z4n z4c z5b z5n z5c z6 h => n16_L Kn Ke0 Kr N z0b z0n z0c z3b z3n z3c z4b z4n z4c z5b z5n z5c z6 h)) hq
    | _ => exact hq
abbrev n15 (x0b : Option Addr) (x0n : Nat) (x0c : Nat) (x3b : Option Addr) (x3n : Nat) (x3c : Nat) (x4b : Option Addr) (x4n : Nat) (x4c : Nat) (x5b : Option Addr) (x5n : Nat) (x5c : Nat) (x6 : Int) (Kn : T2) (Kr : T0) (h : H) : Prop := n16 x0b x0n x0c x3b x3n x3c x4b x4n x4c x5b x5n x5c x6 Kn Kn Kr h
theorem n15_ok (x0b : Option Addr) (x0n : Nat) (x0c : Nat) (x3b : Option Addr) (x3n : Nat) (x3c : Nat) (x4b : Option Addr) (x4n : Nat) (x4c : Nat) (x5b : Option Addr) (x5n : Nat) (x5c : Nat) (x6 : Int) (Kn : T2) (Kr : T0) (g : Env) (hg : E7 g x0b x0n x0c x3b x3n x3c x4b x4n x4c x5b x5n x5c x6) (h : H) (hS : n15 x0b x0n x0c x3b x3n x3c x4b x4n x4c x5b x5n x5c x6 Kn Kr h) : wpC none Tryd.prog 56 n14_c2 (Q5 Kn Kr) g h := by
  refine wpC_block' (id := 0) (x := n15_c1) (by kernel_rfl) (n16_ok x0b x0n x0c x3b x3n x3c x4b x4n x4c x5b x5n x5c x6 Kn Kn Kr g hg h hS) ?_
  intro e g' h' hq
  cases e <;> exact hq
def Q8 (Kn : T7) (Kr : T0) : XPost
  | .normal, g, h => D7 Kn g h
  | .ret, g, h => D0 Kr g h
  | _, _, _ => False
abbrev n14 (x0b : Option Addr) (x0n : Nat) (x0c : Nat) (x3b : Option Addr) (x3n : Nat) (x3c : Nat) (x4b : Option Addr) (x4n : Nat) (x4c : Nat) (x5b : Option Addr) (x5n : Nat) (x5c : Nat) (Kn : T2) (Kr : T0) (h : H) : Prop :=
  n15 x0b x0n x0c x3b x3n x3c x4b x4n x4c x5b x5n x5c (0 : Int) Kn Kr h
theorem n14_ok (x0b : Option Addr) (x0n : Nat) (x0c : Nat) (x3b : Option Addr) (x3n : Nat) (x3c : Nat) (x4b : Option Addr) (x4n : Nat) (x4c : Nat) (x5b : Option Addr) (x5n : Nat) (x5c : Nat) (Kn : T2) (Kr : T0) (g : Env) (hg : E4 g x0b x0n x0c x3b x3n x3c x4b x4n x4c x5b x5n x5c) (h : H) (hS : n14 x0b x0n x0c x3b x3n x3c x4b x4n x4c x5b x5n x5c Kn Kr h) : wpC none Tryd.prog 56 n8_c1 (Q5 Kn Kr) g h := by
  obtain ⟨hg0, hg3, hg4, hg5, hds⟩ := hg
  refine wpC_seq' (x := n14_c1) (y := n14_c2) (Q' := (Q8 (fun z0b z0n z0c z3b z3n z3c z4b z4n z4c z5b z5n z5c z6 h => n15 z0b z0n z0c z3b z3n z3c z4b z4n z4c z5b z5n z5c z6 Kn Kr h) Kr)) (by kernel_rfl) ?_ ?_
  · refine wpC_of_wpx (by kernel_rfl) (by kernel_rfl) (g' := ((((⟨g.v, []⟩ : Env).upd (some 0) (.slice x0b x0n x0c)).upd (some 3) (.slice x3b x3n x3c)).upd (some 4) (.slice x4b x4n x4c)).upd (some 5) (.slice x5b x5n x5c)) (by rw [env_ds hds, upd_self hg0, upd_self hg3, upd_self hg4, upd_self hg5]) ?_
    have e : (n14 x0b x0n x0c x3b x3n x3c x4b x4n x4c x5b x5n x5c Kn Kr h) = wpx none Tryd.prog 56 n14_c1 (Q8 (fun z0b z0n z0c z3b z3n z3c z4b z4n z4c z5b z5n z5c z6 h => n15 z0b z0n z0c z3b z3n z3c z4b z4n z4c z5b z5n z5c z6 Kn Kr h) Kr) (((((⟨g.v, []⟩ : Env).upd (some 0) (.slice x0b x0n x0c)).upd (some 3) (.slice x3b x3n x3c)).upd (some 4) (.slice x4b x4n x4c)).upd (some 5) (.slice x5b x5n x5c)) h := by kernel_rfl
    exact e ▸ hS
  · intro e g' h' hq
    cases e with
    | normal =>
      have hq : D7 (fun z0b z0n z0c z3b z3n z3c z4b z4n z4c z5b z5n z5c z6 h => n15 z0b z0n z0c z3b z3n z3c z4b z4n z4c z5b z5n z5c z6 Kn Kr h) g' h' := hq
      obtain ⟨y0b, y0n, y0c, y3b, y3n, y3c, y4b, y4n, y4c, y5b, y5n, y5c, y6, hg', hq⟩ := D7_ok hq
      exact n15_ok y0b y0n y0c y3b y3n y3c y4b y4n y4c y5b y5n y5c y6 Kn Kr g' hg' h' hq
    | _ => exact hq
abbrev n8 (x0b : Option Addr) (x0n : Nat) (x0c : Nat) (x3b : Option Addr) (x3n : Nat) (x3c : Nat) (x4b : Option Addr) (x4n : Nat) (x4c : Nat) (x5b : Option Addr) (x5n : Nat) (x5c : Nat) (Kn : T0) (Kr : T0) (h : H) : Prop := n14 x0b x0n x0c x3b x3n x3c x4b x4n x4c x5b x5n x5c (fun z0b z0n z0c z3b z3n z3c h => n9 z0b z0n z0c z3b z3n z3c Kn Kr h) Kr h
theorem n8_ok (x0b : Option Addr) (x0n : Nat) (x0c : Nat) (x3b : Option Addr) (x3n : Nat) (x3c : Nat) (x4b : Option Addr) (x4n : Nat) (x4c : Nat) (x5b : Option Addr) (x5n : Nat) (x5c : Nat) (Kn : T0) (Kr : T0) (g : Env) (hg : E4 g x0b x0n x0c x3b x3n x3c x4b x4n x4c x5b x5n x5c) (h : H) (hS : n8 x0b x0n x0c x3b x3n x3c x4b x4n x4c x5b x5n x5c Kn Kr h) : wpC none Tryd.prog 56 n7_c2 (Q0 Kn Kr) g h := by
  refine wpC_seq' (x := n8_c1) (y := n8_c2) (by kernel_rfl) (n14_ok x0b x0n x0c x3b x3n x3c x4b x4n x4c x5b x5n x5c (fun z0b z0n z0c z3b z3n z3c h => n9 z0b z0n z0c z3b z3n z3c Kn Kr h) Kr g hg h hS) ?_
  intro e g' h' hq
  cases e with
  | normal =>
    have hq : D2 (fun z0b z0n z0c z3b z3n z3c h => n9 z0b z0n z0c z3b z3n z3c Kn Kr h) g' h' := hq
    obtain ⟨y0b, y0n, y0c, y3b, y3n, y3c, hg', hq⟩ := D2_ok hq
    exact n9_ok y0b y0n y0c y3b y3n y3c Kn Kr g' hg' h' hq
  | _ => exact hq
def Q9 (Kn : T4) (Kr : T0) : XPost
  | .normal, g, h => D4 Kn g h
  | .ret, g, h => D0 Kr g h
  | _, _, _ => False
abbrev n7 (x0b : Option Addr) (x0n : Nat) (x0c : Nat) (x3b : Option Addr) (x3n : Nat) (x3c : Nat) (x4b : Option Addr) (x4n : Nat) (x4c : Nat) (x5b : Option Addr) (x5n : Nat) (x5c : Nat) (Kn : T0) (Kr : T0) (h : H) : Prop :=
  Spl ((x4n : Int) = (x5n : Int)) (HCalls Tryd.prog 9 ⟨[]⟩ h fun v101 h102 => vBool v101 fun b103 => cond b103 (n8 x0b x0n x0c x3b x3n x3c x4b x4n x4c x5b x5n x5c Kn Kr h102) (Kr false h102)) (Kr false h)
theorem n7_ok (x0b : Option Addr) (x0n : Nat) (x0c : Nat) (x3b : Option Addr) (x3n : Nat) (x3c : Nat) (x4b : Option Addr) (x4n : Nat) (x4c : Nat) (x5b : Option Addr) (x5n : Nat) (x5c : Nat) (Kn : T0) (Kr : T0) (g : Env) (hg : E4 g x0b x0n x0c x3b x3n x3c x4b x4n x4c x5b x5n x5c) (h : H) (hS : n7 x0b x0n x0c x3b x3n x3c x4b x4n x4c x5b x5n x5c Kn Kr h) : wpC none Tryd.prog 56 n6_c2 (Q0 Kn Kr) g h := by
  obtain ⟨hg0, hg3, hg4, hg5, hds⟩ := hg
  refine wpC_seq' (x := n7_c1) (y := n7_c2) (Q' := (Q9 (fun z0b z0n z0c z3b z3n z3c z4b z4n z4c z5b z5n z5c h => n8 z0b z0n z0c z3b z3n z3c z4b z4n z4c z5b z5n z5c Kn Kr h) Kr)) (by kernel_rfl) ?_ ?_
  · refine wpC_of_wpx (by kernel_rfl) (by kernel_rfl) (g' := ((((⟨g.v, []⟩ : Env).upd (some 0) (.slice x0b x0n x0c)).upd (some 3) (.slice x3b x3n x3c)).upd (some 4) (.slice x4b x4n x4c)).upd (some 5) (.slice x5b x5n x5c)) (by rw [env_ds hds, upd_self hg0, upd_self hg3, upd_self hg4, upd_self hg5]) ?_
    have e : (n7 x0b x0n x0c x3b x3n x3c x4b x4n x4c x5b x5n x5c Kn Kr h) = wpx none Tryd.prog 56 n7_c1 (Q9 (fun z0b z0n z0c z3b z3n z3c z4b z4n z4c z5b z5n z5c h => n8 z0b z0n z0c z3b z3n z3c z4b z4n z4c z5b z5n z5c Kn Kr h) Kr) (((((⟨g.v, []⟩ : Env).upd (some 0) (.slice x0b x0n x0c)).upd (some 3) (.slice x3b x3n x3c)).upd (some 4) (.slice x4b x4n x4c)).upd (some 5) (.slice x5b x5n x5c)) h := by kernel_rfl
    exact e ▸ hS
  · intro e g' h' hq
    cases e with
    | normal =>
      have hq : D4 (fun z0b z0n z0c z3b z3n z3c z4b z4n z4c z5b z5n z5c h => n8 z0b z0n z0c z3b z3n z3c z4b z4n z4c z5b z5n z5c Kn Kr h) g' h' := hq
      obtain ⟨y0b, y0n, y0c, y3b, y3n, y3c, y4b, y4n, y4c, y5b, y5n, y5c, hg', hq⟩ := D4_ok hq
      exact n8_ok y0b y0n y0c y3b y3n y3c y4b y4n y4c y5b y5n y5c Kn Kr g' hg' h' hq
    | _ => exact hq
abbrev n6 (x0b : Option Addr) (x0n : Nat) (x0c : Nat) (x3b : Option Addr) (x3n : Nat) (x3c : Nat) (x4b : Option Addr) (x4n : Nat) (x4c : Nat) (Kn : T0) (Kr : T0) (h : H) : Prop :=
  HCalls Tryd.prog 12 ⟨[(.slice x0b x0n x0c)]⟩ h fun v104 h105 => vSlice v104 fun s106b s106n s106c => n7 x0b x0n x0c x3b x3n x3c x4b x4n x4c s106b s106n s106c Kn Kr h105
theorem n6_ok (x0b : Option Addr) (x0n : Nat) (x0c : Nat) (x3b : Option Addr) (x3n : Nat) (x3c : Nat) (x4b : Option Addr) (x4n : Nat) (x4c : Nat) (Kn : T0) (Kr : T0) (g : Env) (hg : E3 g x0b x0n x0c x3b x3n x3c x4b x4n x4c) (h : H) (hS : n6 x0b x0n x0c x3b x3n x3c x4b x4n x4c Kn Kr h) : wpC none Tryd.prog 56 n5_c2 (Q0 Kn Kr) g h := by
  obtain ⟨hg0, hg3, hg4, hds⟩ := hg
  refine wpC_seq' (x := n6_c1) (y := n6_c2) (Q' := (Q9 (fun z0b z0n z0c z3b z3n z3c z4b z4n z4c z5b z5n z5c h => n7 z0b z0n z0c z3b z3n z3c z4b z4n z4c z5b z5n z5c Kn Kr h) Kr)) (by kernel_rfl) ?_ ?_
  · refine wpC_of_wpx (by kernel_rfl) (by kernel_rfl) (g' := (((⟨g.v, []⟩ : Env).upd (some 0) (.slice x0b x0n x0c)).upd (some 3) (.slice x3b x3n x3c)).upd (some 4) (.slice x4b x4n x4c)) (by rw [env_ds hds, upd_self hg0, upd_self hg3, upd_self hg4]) ?_
    have e : (n6 x0b x0n x0c x3b x3n x3c x4b x4n x4c Kn Kr h) = wpx none Tryd.prog 56 n6_c1 (Q9 (fun z0b z0n z0c z3b z3n z3c z4b z4n z4c z5b z5n z5c h => n7 z0b z0n z0c z3b z3n z3c z4b z4n z4c z5b z5n z5c Kn Kr h) Kr) ((((⟨g.v, []⟩ : Env).upd (some 0) (.slice x0b x0n x0c)).upd (some 3) (.slice x3b x3n x3c)).upd (some 4) (.slice x4b x4n x4c)) h := by kernel_rfl
    exact e ▸ hS
  · intro e g' h' hq
    cases e with
    | normal =>
      have hq : D4 (fun z0b z0n z0c z3b z3n z3c z4b z4n z4c z5b z5n z5c h => n7 z0b z0n z0c z3b z3n z3c z4b z4n z4c z5b z5n z5c Kn Kr h) g' h' := hq
      obtain ⟨y0b, y0n, y0c, y3b, y3n, y3c, y4b, y4n, y4c, y5b, y5n, y5c, hg', hq⟩ := D4_ok hq
      exact n7_ok y0b y0n y0c y3b y3n y3c y4b y4n y4c y5b y5n y5c Kn Kr g' hg' h' hq
    | _ => exact hq
def Q10 (Kn : T3) (Kr : T0) : XPost
  | .normal, g, h => D3 Kn g h
  | .ret, g, h => D0 Kr g h
  | _, _, _ => False
abbrev n5 (x0b : Option Addr) (x0n : Nat) (x0c : Nat) (x3b : Option Addr) (x3n : Nat) (x3c : Nat) (Kn : T0) (Kr : T0) (h : H) : Prop :=
  HCalls Tryd.prog 11 ⟨[(.slice x3b x3n x3c)]⟩ h fun v107 h108 => vSlice v107 fun s109b s109n s109c => n6 x0b x0n x0c x3b x3n x3c s109b s109n s109c Kn Kr h108
theorem n5_ok (x0b : Option Addr) (x0n : Nat) (x0c : Nat) (x3b : Option Addr) (x3n : Nat) (x3c : Nat) (Kn : T0) (Kr : T0) (g : Env) (hg : E2 g x0b x0n x0c x3b x3n x3c) (h : H) (hS : n5 x0b x0n x0c x3b x3n x3c Kn Kr h) : wpC none Tryd.prog 56 n4_c2 (Q0 Kn Kr) g h := by
  obtain ⟨hg0, hg3, hds⟩ := hg
  refine wpC_seq' (x := n5_c1) (y := n5_c2) (Q' := (Q10 (fun z0b z0n z0c z3b z3n z3c z4b z4n z4c h => n6 z0b z0n z0c z3b z3n z3c z4b z4n z4c Kn Kr h) Kr)) (by kernel_rfl) ?_ ?_
  · refine wpC_of_wpx (by kernel_rfl) (by kernel_rfl) (g' := ((⟨g.v, []⟩ : Env).upd (some 0) (.slice x0b x0n x0c)).upd (some 3) (.slice x3b x3n x3c)) (by rw [env_ds hds, upd_self hg0, upd_self hg3]) ?_
    have e : (n5 x0b x0n x0c x3b x3n x3c Kn Kr h) = wpx none Tryd.prog 56 n5_c1 (Q10 (fun z0b z0n z0c z3b z3n z3c z4b z4n z4c h => n6 z0b z0n z0c z3b z3n z3c z4b z4n z4c Kn Kr h) Kr) (((⟨g.v, []⟩ : Env).upd (some 0) (.slice x0b x0n x0c)).upd (some 3) (.slice x3b x3n x3c)) h := by kernel_rfl
    exact e ▸ hS
  · intro e g' h' hq
    cases e with
    | normal =>
      have hq : D3 (fun z0b z0n z0c z3b z3n z3c z4b z4n z4c h => n6 z0b z0n z0c z3b z3n z3c z4b z4n z4c Kn Kr h) g' h' := hq
      obtain ⟨y0b, y0n, y0c, y3b, y3n, y3c, y4b, y4n, y4c, hg', hq⟩ := D3_ok hq
      exact n6_ok y0b y0n y0c y3b y3n y3c y4b y4n y4c Kn Kr g' hg' h' hq
    | _ => exact hq
abbrev n4 (x0b : Option Addr) (x0n : Nat) (x0c : Nat) (x3b : Option Addr) (x3n : Nat) (x3c : Nat) (Kn : T0) (Kr : T0) (h : H) : Prop :=
  SemH Tryd.prog (Builtin.append_ #[30, 30] 30 ⟨[(.slice x3b x3n x3c), (.slice x0b x0n x0c)]⟩) h fun v110 h111 => vSlice v110 fun s112b s112n s112c => n5 x0b x0n x0c s112b s112n s112c Kn Kr h111
theorem n4_ok (x0b : Option Addr) (x0n : Nat) (x0c : Nat) (x3b : Option Addr) (x3n : Nat) (x3c : Nat) (Kn : T0) (Kr : T0) (g : Env) (hg : E2 g x0b x0n x0c x3b x3n x3c) (h : H) (hS : n4 x0b x0n x0c x3b x3n x3c Kn Kr h) : wpC none Tryd.prog 56 n3_c2 (Q0 Kn Kr) g h := by
  obtain ⟨hg0, hg3, hds⟩ := hg
  refine wpC_seq' (x := n4_c1) (y := n4_c2) (Q' := (Q5 (fun z0b z0n z0c z3b z3n z3c h => n5 z0b z0n z0c z3b z3n z3c Kn Kr h) Kr)) (by kernel_rfl) ?_ ?_
  · refine wpC_of_wpx (by kernel_rfl) (by kernel_rfl) (g' := ((⟨g.v, []⟩ : Env).upd (some 0) (.slice x0b x0n x0c)).upd (some 3) (.slice x3b x3n x3c)) (by rw [env_ds hds, upd_self hg0, upd_self hg3]) ?_
    have e : (n4 x0b x0n x0c x3b x3n x3c Kn Kr h) = wpx none Tryd.prog 56 n4_c1 (Q5 (fun z0b z0n z0c z3b z3n z3c h => n5 z0b z0n z0c z3b z3n z3c Kn Kr h) Kr) (((⟨g.v, []⟩ : Env).upd (some 0) (.slice x0b x0n x0c)).upd (some 3) (.slice x3b x3n x3c)) h := by kernel_rfl
    exact e ▸ hS
  · intro e g' h' hq
    cases e with
    | normal =>
      have hq : D2 (fun z0b z0n z0c z3b z3n z3c h => n5 z0b z0n z0c z3b z3n z3c Kn Kr h) g' h' := hq
      obtain ⟨y0b, y0n, y0c, y3b, y3n, y3c, hg', hq⟩ := D2_ok hq
      exact n5_ok y0b y0n y0c y3b y3n y3c Kn Kr g' hg' h' hq
    | _ => exact hq
abbrev n3 (x0b : Option Addr) (x0n : Nat) (x0c : Nat) (Kn : T0) (Kr : T0) (h : H) : Prop :=
  n4 x0b x0n x0c none 0 0 Kn Kr h
theorem n3_ok (x0b : Option Addr) (x0n : Nat) (x0c : Nat) (Kn : T0) (Kr : T0) (g : Env) (hg : E1 g x0b x0n x0c) (h : H) (hS : n3 x0b x0n x0c Kn Kr h) : wpC none Tryd.prog 56 n2_c2 (Q0 Kn Kr) g h := by
  obtain ⟨hg0, hds⟩ := hg
  refine wpC_seq' (x := n3_c1) (y := n3_c2) (Q' := (Q5 (fun z0b z0n z0c z3b z3n z3c h => n4 z0b z0n z0c z3b z3n z3c Kn Kr h) Kr)) (by kernel_rfl) ?_ ?_
  · refine wpC_of_wpx (by kernel_rfl) (by kernel_rfl) (g' := (⟨g.v, []⟩ : Env).upd (some 0) (.slice x0b x0n x0c)) (by rw [env_ds hds, upd_self hg0]) ?_
    have e : (n3 x0b x0n x0c Kn Kr h) = wpx none Tryd.prog 56 n3_c1 (Q5 (fun z0b z0n z0c z3b z3n z3c h => n4 z0b z0n z0c z3b z3n z3c Kn Kr h) Kr) ((⟨g.v, []⟩ : Env).upd (some 0) (.slice x0b x0n x0c)) h := by kernel_rfl
    exact e ▸ hS
  · intro e g' h' hq
    cases e with
    | normal =>
      have hq : D2 (fun z0b z0n z0c z3b z3n z3c h => n4 z0b z0n z0c z3b z3n z3c Kn Kr h) g' h' := hq
      obtain ⟨y0b, y0n, y0c, y3b, y3n, y3c, hg', hq⟩ := D2_ok hq
      exact n4_ok y0b y0n y0c y3b y3n y3c Kn Kr g' hg' h' hq
    | _ => exact hq
def Q11 (Kn : T1) (Kr : T0) : XPost
  | .normal, g, h => D1 Kn g h
  | .ret, g, h => D0 Kr g h
  | _, _, _ => False
abbrev n2 (x0b : Option Addr) (x0n : Nat) (x0c : Nat) (Kn : T0) (Kr : T0) (h : H) : Prop :=
  HCalls Tryd.prog 10 ⟨[(.slice x0b x0n x0c)]⟩ h fun v113 h114 => vBool v113 fun b115 => cond b115 (Kr true h114) (n3 x0b x0n x0c Kn Kr h114)
theorem n2_ok (x0b : Option Addr) (x0n : Nat) (x0c : Nat) (Kn : T0) (Kr : T0) (g : Env) (hg : E1 g x0b x0n x0c) (h : H) (hS : n2 x0b x0n x0c Kn Kr h) : wpC none Tryd.prog 56 n1_c2 (Q0 Kn Kr) g h := by
  obtain ⟨hg0, hds⟩ := hg
  refine wpC_seq' (x := n2_c1) (y := n2_c2) (Q' := (Q11 (fun z0b z0n z0c h => n3 z0b z0n z0c Kn Kr h) Kr)) (by kernel_rfl) ?_ ?_
  · refine wpC_of_wpx (by kernel_rfl) (by kernel_rfl) (g' := (⟨g.v, []⟩ : Env).upd (some 0) (.slice x0b x0n x0c)) (by rw [env_ds hds, upd_self hg0]) ?_
    have e : (n2 x0b x0n x0c Kn Kr h) = wpx none Tryd.prog 56 n2_c1 (Q11 (fun z0b z0n z0c h => n3 z0b z0n z0c Kn Kr h) Kr) ((⟨g.v, []⟩ : Env).upd (some 0) (.slice x0b x0n x0c)) h := by kernel_rfl
    exact e ▸ hS
  · intro e g' h' hq
    cases e with
    | normal =>
      have hq : D1 (fun z0b z0n z0c h => n3 z0b z0n z0c Kn Kr h) g' h' := hq
      obtain ⟨y0b, y0n, y0c, hg', hq⟩ := D1_ok hq
      exact n3_ok y0b y0n y0c Kn Kr g' hg' h' hq
    | _ => exact hq
abbrev n1 (x0b : Option Addr) (x0n : Nat) (x0c : Nat) (Kn : T0) (Kr : T0) (h : H) : Prop :=
  n2 x0b x0n x0c Kn Kr h
theorem n1_ok (x0b : Option Addr) (x0n : Nat) (x0c : Nat) (Kn : T0) (Kr : T0) (g : Env) (hg : E1 g x0b x0n x0c) (h : H) (hS : n1 x0b x0n x0c Kn Kr h) : wpC none Tryd.prog 56 code (Q0 Kn Kr) g h := by
  obtain ⟨hg0, hds⟩ := hg
  refine wpC_seq' (x := n1_c1) (y := n1_c2) (Q' := (Q11 (fun z0b z0n z0c h => n2 z0b z0n z0c Kn Kr h) Kr)) (by kernel_rfl) ?_ ?_
  · refine wpC_of_wpx (by kernel_rfl) (by kernel_rfl) (g' := (⟨g.v, []⟩ : Env).upd (some 0) (.slice x0b x0n x0c)) (by rw [env_ds hds, upd_self hg0]) ?_
    have e : (n1 x0b x0n x0c Kn Kr h) = wpx none Tryd.prog 56 n1_c1 (Q11 (fun z0b z0n z0c h => n2 z0b z0n z0c Kn Kr h) Kr) ((⟨g.v, []⟩ : Env).upd (some 0) (.slice x0b x0n x0c)) h := by kernel_rfl
    exact e ▸ hS
  · intro e g' h' hq
    cases e with
    | normal =>
      have hq : D1 (fun z0b z0n z0c h => n2 z0b z0n z0c Kn Kr h) g' h' := hq
      obtain ⟨y0b, y0n, y0c, hg', hq⟩ := D1_ok hq
      exact n2_ok y0b y0n y0c Kn Kr g' hg' h' hq
    | _ => exact hq
/-- WHAT tympan/tympanlaw27.StarsMatches ASKS -/
abbrev asks (x0b : Option Addr) (x0n : Nat) (x0c : Nat) (K : Value → H → Prop) (h : H) : Prop := n1 x0b x0n x0c (fun y2 h => K (.bool y2) h) (fun y2 h => K (.bool y2) h) h
theorem ok (x0b : Option Addr) (x0n : Nat) (x0c : Nat) (K : Value → H → Prop) (h : H) (hS : asks x0b x0n x0c K h) : HCalls Tryd.prog 4 ⟨[(.slice x0b x0n x0c)]⟩ h K := by
  refine calls_of_wpC (c := code) Tryd.func4 (by kernel_rfl) (Nat.le_of_ble_eq_true (by kernel_rfl)) ?_
  refine (n1_ok x0b x0n x0c (fun y2 h => K (.bool y2) h) (fun y2 h => K (.bool y2) h) (env0 [(.slice x0b x0n x0c)]) ⟨rfl, rfl⟩ h hS).mono ?_
  intro e g' h' hq
  cases e with
  | normal =>
    have hq : D0 (fun y2 h => K (.bool y2) h) g' h' := hq
    obtain ⟨y2, ⟨hg2, hd⟩, hq⟩ := D0_ok hq
    show leaveX g'.ds h' _
    rw [hd]
    show K (g'.v 2) h'
    rw [hg2]
    exact hq
  | ret =>
    have hq : D0 (fun y2 h => K (.bool y2) h) g' h' := hq
    obtain ⟨y2, ⟨hg2, hd⟩, hq⟩ := D0_ok hq
    show leaveX g'.ds h' _
    rw [hd]
    show K (g'.v 2) h'
    rw [hg2]
    exact hq
  | _ => exact hq
end Sx.l27_StarsMatches

/-! ### tympan/stars.Read -/
namespace Sx.stars_Read
noncomputable def code : Code := bodyOf Tryd.f7
abbrev T0 := Addr → Bool → H → Prop
def E0 (g : Env) (x4 : Addr) (x5 : Bool) : Prop := g.v 4 = (.pointer (some x4)) ∧ g.v 5 = (.bool x5) ∧ g.ds = []
def D0 (K : T0) (g : Env) (h : H) : Prop := nilDs g.ds (vAddr (g.v 4) fun a1 => vBool (g.v 5) fun b2 => K a1 b2 h)
theorem D0_ok {K : T0} {g : Env} {h : H} (hq : D0 K g h) : ∃ (x4 : Addr) (x5 : Bool), E0 g x4 x5 ∧ K x4 x5 h := by
  obtain ⟨hd, hq⟩ := nilDs_ok hq
  obtain ⟨y4, e3, q5⟩ := vAddr_ok hq
  obtain ⟨y7, e6, q8⟩ := vBool_ok q5
  exact ⟨y4, y7, ⟨e3, e6, hd⟩, q8⟩
def Q0 (Kn : T0) (Kr : T0) : XPost
  | .normal, g, h => D0 Kn g h
  | .ret, g, h => D0 Kr g h
  | _, _, _ => False
abbrev T1 := (List UInt8) → Int → H → Prop
def E1 (g : Env) (x0 : List UInt8) (x1 : Int) : Prop := g.v 0 = (S x0) ∧ g.v 1 = (.int .i64 x1) ∧ g.ds = []
def D1 (K : T1) (g : Env) (h : H) : Prop := nilDs g.ds (vStr (g.v 0) fun s9 => vInt .i64 (g.v 1) fun i10 => K s9 i10 h)
theorem D1_ok {K : T1} {g : Env} {h : H} (hq : D1 K g h) : ∃ (x0 : List UInt8) (x1 : Int), E1 g x0 x1 ∧ K x0 x1 h := by
  obtain ⟨hd, hq⟩ := nilDs_ok hq
  obtain ⟨y12, e11, q13⟩ := vStr_ok hq
  obtain ⟨y15, e14, q16⟩ := vInt_ok q13
  exact ⟨y12, y15, ⟨e11, e14, hd⟩, q16⟩
noncomputable def n1_c1 : Code := cFst code
noncomputable def n1_c2 : Code := cSnd code
abbrev T2 := (List UInt8) → Int → Addr → H → Prop
def E2 (g : Env) (x0 : List UInt8) (x1 : Int) (x4 : Addr) : Prop := g.v 0 = (S x0) ∧ g.v 1 = (.int .i64 x1) ∧ g.v 4 = (.pointer (some x4)) ∧ g.ds = []
def D2 (K : T2) (g : Env) (h : H) : Prop := nilDs g.ds (vStr (g.v 0) fun s17 => vInt .i64 (g.v 1) fun i18 => vAddr (g.v 4) fun a19 => K s17 i18 a19 h)
theorem D2_ok {K : T2} {g : Env} {h : H} (hq : D2 K g h) : ∃ (x0 : List UInt8) (x1 : Int) (x4 : Addr), E2 g x0 x1 x4 ∧ K x0 x1 x4 h := by
  obtain ⟨hd, hq⟩ := nilDs_ok hq
  obtain ⟨y21, e20, q22⟩ := vStr_ok hq
  obtain ⟨y24, e23, q25⟩ := vInt_ok q22
  obtain ⟨y27, e26, q28⟩ := vAddr_ok q25
  exact ⟨y21, y24, y27, ⟨e20, e23, e26, hd⟩, q28⟩
noncomputable def n2_c1 : Code := cFst n1_c2
noncomputable def n2_c2 : Code := cSnd n1_c2
noncomputable def n3_c1 : Code := cFst n2_c2
noncomputable def n3_c2 : Code := cSnd n2_c2
abbrev T3 := (List UInt8) → Int → Addr → Int → H → Prop
def E3 (g : Env) (x0 : List UInt8) (x1 : Int) (x4 : Addr) (x6 : Int) : Prop := g.v 0 = (S x0) ∧ g.v 1 = (.int .i64 x1) ∧ g.v 4 = (.pointer (some x4)) ∧ g.v 6 = (.int .i64 x6) ∧ g.ds = []
def D3 (K : T3) (g : Env) (h : H) : Prop := nilDs g.ds (vStr (g.v 0) fun s29 => vInt .i64 (g.v 1) fun i30 => vAddr (g.v 4) fun a31 => vInt .i64 (g.v 6) fun i32 => K s29 i30 a31 i32 h)
theorem D3_ok {K : T3} {g : Env} {h : H} (hq : D3 K g h) : ∃ (x0 : List UInt8) (x1 : Int) (x4 : Addr) (x6 : Int), E3 g x0 x1 x4 x6 ∧ K x0 x1 x4 x6 h := by
  obtain ⟨hd, hq⟩ := nilDs_ok hq
  obtain ⟨y34, e33, q35⟩ := vStr_ok hq
  obtain ⟨y37, e36, q38⟩ := vInt_ok q35
  obtain ⟨y40, e39, q41⟩ := vAddr_ok q38
  obtain ⟨y43, e42, q44⟩ := vInt_ok q41
  exact ⟨y34, y37, y40, y43, ⟨e33, e36, e39, e42, hd⟩, q44⟩
noncomputable def n4_c1 : Code := cFst n3_c2
noncomputable def n4_c2 : Code := cSnd n3_c2
abbrev T4 := (List UInt8) → Int → Addr → Int → Int → Int → H → Prop
def E4 (g : Env) (x0 : List UInt8) (x1 : Int) (x4 : Addr) (x6 : Int) (x7 : Int) (x8 : Int) : Prop := g.v 0 = (S x0) ∧ g.v 1 = (.int .i64 x1) ∧ g.v 4 = (.pointer (some x4)) ∧ g.v 6 = (.int .i64 x6) ∧ g.v 7 = (.int .i32 x7) ∧ g.v 8 = (.int .i32 x8) ∧ g.ds = []
def D4 (K : T4) (g : Env) (h : H) : Prop := nilDs g.ds (vStr (g.v 0) fun s45 => vInt .i64 (g.v 1) fun i46 => vAddr (g.v 4) fun a47 => vInt .i64 (g.v 6) fun i48 => vInt .i32 (g.v 7) fun i49 => vInt .i32 (g.v 8) fun i50 => K s45 i46 a47 i48 i49 i50 h)
theorem D4_ok {K : T4} {g : Env} {h : H} (hq : D4 K g h) : ∃ (x0 : List UInt8) (x1 : Int) (x4 : Addr) (x6 : Int) (x7 : Int) (x8 : Int), E4 g x0 x1 x4 x6 x7 x8 ∧ K x0 x1 x4 x6 x7 x8 h := by
  obtain ⟨hd, hq⟩ := nilDs_ok hq
  obtain ⟨y52, e51, q53⟩ := vStr_ok hq
  obtain ⟨y55, e54, q56⟩ := vInt_ok q53
  obtain ⟨y58, e57, q59⟩ := vAddr_ok q56
  obtain ⟨y61, e60, q62⟩ := vInt_ok q59
  obtain ⟨y64, e63, q65⟩ := vInt_ok q62
  obtain ⟨y67, e66, q68⟩ := vInt_ok q65
  exact ⟨y52, y55, y58, y61, y64, y67, ⟨e51, e54, e57, e60, e63, e66, hd⟩, q68⟩
noncomputable def n5_c1 : Code := cFst n4_c2
noncomputable def n5_c2 : Code := cSnd n4_c2
abbrev T5 := (List UInt8) → Int → Addr → Int → Int → Int → Value → H → Prop
def E5 (g : Env) (x0 : List UInt8) (x1 : Int) (x4 : Addr) (x6 : Int) (x7 : Int) (x8 : Int) (x9 : Value) : Prop := g.v 0 = (S x0) ∧ g.v 1 = (.int .i64 x1) ∧ g.v 4 = (.pointer (some x4)) ∧ g.v 6 = (.int .i64 x6) ∧ g.v 7 = (.int .i32 x7) ∧ g.v 8 = (.int .i32 x8) ∧ g.v 9 = x9 ∧ g.ds = []
def D5 (K : T5) (g : Env) (h : H) : Prop := nilDs g.ds (vStr (g.v 0) fun s69 => vInt .i64 (g.v 1) fun i70 => vAddr (g.v 4) fun a71 => vInt .i64 (g.v 6) fun i72 => vInt .i32 (g.v 7) fun i73 => vInt .i32 (g.v 8) fun i74 => K s69 i70 a71 i72 i73 i74 (g.v 9) h)
theorem D5_ok {K : T5} {g : Env} {h : H} (hq : D5 K g h) : ∃ (x0 : List UInt8) (x1 : Int) (x4 : Addr) (x6 : Int) (x7 : Int) (x8 : Int) (x9 : Value), E5 g x0 x1 x4 x6 x7 x8 x9 ∧ K x0 x1 x4 x6 x7 x8 x9 h := by
  obtain ⟨hd, hq⟩ := nilDs_ok hq
  obtain ⟨y76, e75, q77⟩ := vStr_ok hq
  obtain ⟨y79, e78, q80⟩ := vInt_ok q77
  obtain ⟨y82, e81, q83⟩ := vAddr_ok q80
  obtain ⟨y85, e84, q86⟩ := vInt_ok q83
  obtain ⟨y88, e87, q89⟩ := vInt_ok q86
  obtain ⟨y91, e90, q92⟩ := vInt_ok q89
  exact ⟨y76, y79, y82, y85, y88, y91, (g.v 9), ⟨e75, e78, e81, e84, e87, e90, rfl, hd⟩, q92⟩
noncomputable def n6_c1 : Code := cFst n5_c2
noncomputable def n6_c2 : Code := cSnd n5_c2
abbrev T6 := (List UInt8) → Int → Addr → Int → Int → Int → Bool → Bool → H → Prop
def E6 (g : Env) (x0 : List UInt8) (x1 : Int) (x4 : Addr) (x6 : Int) (x7 : Int) (x8 : Int) (x10 : Bool) (x11 : Bool) : Prop := g.v 0 = (S x0) ∧ g.v 1 = (.int .i64 x1) ∧ g.v 4 = (.pointer (some x4)) ∧ g.v 6 = (.int .i64 x6) ∧ g.v 7 = (.int .i32 x7) ∧ g.v 8 = (.int .i32 x8) ∧ g.v 10 = (.bool x10) ∧ g.v 11 = (.bool x11) ∧ g.ds = []
def D6 (K : T6) (g : Env) (h : H) : Prop := nilDs g.ds (vStr (g.v 0) fun s93 => vInt .i64 (g.v 1) fun i94 => vAddr (g.v 4) fun a95 => vInt .i64 (g.v 6) fun i96 => vInt .i32 (g.v 7) fun i97 => vInt .i32 (g.v 8) fun i98 => vBool (g.v 10) fun b99 => vBool (g.v 11) fun b100 => K s93 i94 a95 i96 i97 i98 b99 b100 h)
theorem D6_ok {K : T6} {g : Env} {h : H} (hq : D6 K g h) : ∃ (x0 : List UInt8) (x1 : Int) (x4 : Addr) (x6 : Int) (x7 : Int) (x8 : Int) (x10 : Bool) (x11 : Bool), E6 g x0 x1 x4 x6 x7 x8 x10 x11 ∧ K x0 x1 x4 x6 x7 x8 x10 x11 h := by
  obtain ⟨hd, hq⟩ := nilDs_ok hq
  obtain ⟨y102, e101, q103⟩ := vStr_ok hq
  obtain ⟨y105, e104, q106⟩ := vInt_ok q103
  obtain ⟨y108, e107, q109⟩ := vAddr_ok q106
  obtain ⟨y111, e110, q112⟩ := vInt_ok q109
  obtain ⟨y114, e113, q115⟩ := vInt_ok q112
  obtain ⟨y117, e116, q118⟩ := vInt_ok q115
  obtain ⟨y120, e119, q121⟩ := vBool_ok q118
  obtain ⟨y123, e122, q124⟩ := vBool_ok q121
  exact ⟨y102, y105, y108, y111, y114, y117, y120, y123, ⟨e101, e104, e107, e110, e113, e116, e119, e122, hd⟩, q124⟩
noncomputable def n7_c1 : Code := cFst n6_c2
noncomputable def n7_c2 : Code := cSnd n6_c2
abbrev T7 := (List UInt8) → Int → Addr → Int → Int → Bool → Bool → Addr → H → Prop
def E7 (g : Env) (x0 : List UInt8) (x1 : Int) (x4 : Addr) (x7 : Int) (x8 : Int) (x10 : Bool) (x11 : Bool) (x12 : Addr) : Prop := g.v 0 = (S x0) ∧ g.v 1 = (.int .i64 x1) ∧ g.v 4 = (.pointer (some x4)) ∧ g.v 7 = (.int .i32 x7) ∧ g.v 8 = (.int .i32 x8) ∧ g.v 10 = (.bool x10) ∧ g.v 11 = (.bool x11) ∧ g.v 12 = (.pointer (some x12)) ∧ g.ds = []
def D7 (K : T7) (g : Env) (h : H) : Prop := nilDs g.ds (vStr (g.v 0) fun s125 => vInt .i64 (g.v 1) fun i126 => vAddr (g.v 4) fun a127 => vInt .i32 (g.v 7) fun i128 => vInt .i32 (g.v 8) fun i129 => vBool (g.v 10) fun b130 => vBool (g.v 11) fun b131 => vAddr (g.v 12) fun a132 => K s125 i126 a127 i128 i129 b130 b131 a132 h)
theorem D7_ok {K : T7} {g : Env} {h : H} (hq : D7 K g h) : ∃ (x0 : List UInt8) (x1 : Int) (x4 : Addr) (x7 : Int) (x8 : Int) (x10 : Bool) (x11 : Bool) (x12 : Addr), E7 g x0 x1 x4 x7 x8 x10 x11 x12 ∧ K x0 x1 x4 x7 x8 x10 x11 x12 h := by
  obtain ⟨hd, hq⟩ := nilDs_ok hq
  obtain ⟨y134, e133, q135⟩ := vStr_ok hq
  obtain ⟨y137, e136, q138⟩ := vInt_ok q135
  obtain ⟨y140, e139, q141⟩ := vAddr_ok q138
  obtain ⟨y143, e142, q144⟩ := vInt_ok q141
  obtain ⟨y146, e145, q147⟩ := vInt_ok q144
  obtain ⟨y149, e148, q150⟩ := vBool_ok q147
  obtain ⟨y152, e151, q153⟩ := vBool_ok q150
  obtain ⟨y155, e154, q156⟩ := vAddr_ok q153
  exact ⟨y134, y137, y140, y143, y146, y149, y152, y155, ⟨e133, e136, e139, e142, e145, e148, e151, e154, hd⟩, q156⟩
noncomputable def n8_c1 : Code := cFst n7_c2
noncomputable def n8_c2 : Code := cSnd n7_c2
abbrev T8 := Addr → Addr → H → Prop
def E8 (g : Env) (x4 : Addr) (x12 : Addr) : Prop := g.v 4 = (.pointer (some x4)) ∧ g.v 12 = (.pointer (some x12)) ∧ g.ds = []
def D8 (K : T8) (g : Env) (h : H) : Prop := nilDs g.ds (vAddr (g.v 4) fun a157 => vAddr (g.v 12) fun a158 => K a157 a158 h)
theorem D8_ok {K : T8} {g : Env} {h : H} (hq : D8 K g h) : ∃ (x4 : Addr) (x12 : Addr), E8 g x4 x12 ∧ K x4 x12 h := by
  obtain ⟨hd, hq⟩ := nilDs_ok hq
  obtain ⟨y160, e159, q161⟩ := vAddr_ok hq
  obtain ⟨y163, e162, q164⟩ := vAddr_ok q161
  exact ⟨y160, y163, ⟨e159, e162, hd⟩, q164⟩
abbrev n9 (x4 : Addr) (x12 : Addr) (Kn : T0) (Kr : T0) (h : H) : Prop :=
  ∃ i165, cell h ((x12).add 0) = some (.int .u8 i165) ∧ (∃ i166, cell h ((x12).add 1) = some (.int .i64 i166) ∧ (∃ i167, cell h ((x12).add 2) = some (.int .i64 i167) ∧ (∃ b168, cell h ((x12).add 3) = some (.bool b168) ∧ (∃ b169, cell h ((x12).add 4) = some (.bool b169) ∧ (stL x4 [(.int .u8 i165), (.int .i64 i166), (.int .i64 i167), (.bool b168), (.bool b169)] 0 h fun h170 => Kr x4 true h170)))))
theorem n9_ok (x4 : Addr) (x12 : Addr) (Kn : T0) (Kr : T0) (g : Env) (hg : E8 g x4 x12) (h : H) (hS : n9 x4 x12 Kn Kr h) : wpC none Tryd.prog 98 n8_c2 (Q0 Kn Kr) g h := by
  obtain ⟨hg4, hg12, hds⟩ := hg
  refine wpC_of_wpx (by kernel_rfl) (by kernel_rfl) (g' := ((⟨g.v, []⟩ : Env).upd (some 4) (.pointer (some x4))).upd (some 12) (.pointer (some x12))) (by rw [env_ds hds, upd_self hg4, upd_self hg12]) ?_
  have e : (n9 x4 x12 Kn Kr h) = wpx none Tryd.prog 98 n8_c2 (Q0 Kn Kr) (((⟨g.v, []⟩ : Env).upd (some 4) (.pointer (some x4))).upd (some 12) (.pointer (some x12))) h := by kernel_rfl
  exact e ▸ hS
def Q1 (Kn : T8) (Kr : T0) : XPost
  | .normal, g, h => D8 Kn g h
  | .ret, g, h => D0 Kr g h
  | _, _, _ => False
noncomputable def n10_c1 : Code := cFst n8_c1
noncomputable def n10_c2 : Code := cSnd n8_c1
abbrev T9 := Addr → Int → Int → Bool → Bool → Addr → Bool → H → Prop
def E9 (g : Env) (x4 : Addr) (x7 : Int) (x8 : Int) (x10 : Bool) (x11 : Bool) (x12 : Addr) (x76 : Bool) : Prop := g.v 4 = (.pointer (some x4)) ∧ g.v 7 = (.int .i32 x7) ∧ g.v 8 = (.int .i32 x8) ∧ g.v 10 = (.bool x10) ∧ g.v 11 = (.bool x11) ∧ g.v 12 = (.pointer (some x12)) ∧ g.v 76 = (.bool x76) ∧ g.ds = []
def D9 (K : T9) (g : Env) (h : H) : Prop := nilDs g.ds (vAddr (g.v 4) fun a171 => vInt .i32 (g.v 7) fun i172 => vInt .i32 (g.v 8) fun i173 => vBool (g.v 10) fun b174 => vBool (g.v 11) fun b175 => vAddr (g.v 12) fun a176 => vBool (g.v 76) fun b177 => K a171 i172 i173 b174 b175 a176 b177 h)
theorem D9_ok {K : T9} {g : Env} {h : H} (hq : D9 K g h) : ∃ (x4 : Addr) (x7 : Int) (x8 : Int) (x10 : Bool) (x11 : Bool) (x12 : Addr) (x76 : Bool), E9 g x4 x7 x8 x10 x11 x12 x76 ∧ K x4 x7 x8 x10 x11 x12 x76 h := by
  obtain ⟨hd, hq⟩ := nilDs_ok hq
  obtain ⟨y179, e178, q180⟩ := vAddr_ok hq
  obtain ⟨y182, e181, q183⟩ := vInt_ok q180
  obtain ⟨y185, e184, q186⟩ := vInt_ok q183
  obtain ⟨y188, e187, q189⟩ := vBool_ok q186
  obtain ⟨y191, e190, q192⟩ := vBool_ok q189
  obtain ⟨y194, e193, q195⟩ := vAddr_ok q192
  obtain ⟨y197, e196, q198⟩ := vBool_ok q195
  exact ⟨y179, y182, y185, y188, y191, y194, y197, ⟨e178, e181, e184, e187, e190, e193, e196, hd⟩, q198⟩
abbrev n11 (x4 : Addr) (x7 : Int) (x8 : Int) (x10 : Bool) (x11 : Bool) (x12 : Addr) (x76 : Bool) (Kn : T8) (Kr : T0) (h : H) : Prop :=
  cond x76 (cond x10 (cond x11 (HCalls Tryd.prog 19 ⟨[(.int .i32 x7)]⟩ h fun v199 h200 => vBool v199 fun b201 => cond b201 (stL (x12.add 3) [(.bool true)] 0 h200 fun h202 => cond x11 (cond x10 (HCalls Tryd.prog 19 ⟨[(.int .i32 x8)]⟩ h202 fun v203 h204 => vBool v203 fun b205 => cond b205 (stL (x12.add 4) [(.bool true)] 0 h204 fun h206 => Kn x4 x12 h206) (stL (x12.add 4) [(.bool false)] 0 h204 fun h207 => Kn x4 x12 h207)) (stL (x12.add 4) [(.bool true)] 0 h202 fun h208 => Kn x4 x12 h208)) (stL (x12.add 4) [(.bool false)] 0 h202 fun h209 => Kn x4 x12 h209)) (stL (x12.add 3) [(.bool false)] 0 h200 fun h210 => cond x11 (cond x10 (HCalls Tryd.prog 19 ⟨[(.int .i32 x8)]⟩ h210 fun v211 h212 => vBool v211 fun b213 => cond b213 (stL (x12.add 4) [(.bool true)] 0 h212 fun h214 => Kn x4 x12 h214) (stL (x12.add 4) [(.bool false)] 0 h212 fun h215 => Kn x4 x12 h215)) (stL (x12.add 4) [(.bool true)] 0 h210 fun h216 => Kn x4 x12 h216)) (stL (x12.add 4) [(.bool false)] 0 h210 fun h217 => Kn x4 x12 h217))) (stL (x12.add 3) [(.bool true)] 0 h fun h218 => cond x11 (cond x10 (HCalls Tryd.prog 19 ⟨[(.int .i32 x8)]⟩ h218 fun v219 h220 => vBool v219 fun b221 => cond b221 (stL (x12.add 4) [(.bool true)] 0 h220 fun h222 => Kn x4 x12 h222) (stL (x12.add 4) [(.bool false)] 0 h220 fun h223 => Kn x4 x12 h223)) (stL (x12.add 4) [(.bool true)] 0 h218 fun h224 => Kn x4 x12 h224)) (stL (x12.add 4) [(.bool false)] 0 h218 fun h225 => Kn x4 x12 h225))) (stL (x12.add 3) [(.bool false)] 0 h fun h226 => cond x11 (cond x10 (HCalls Tryd.prog 19 ⟨[(.int .i32 x8)]⟩ h226 fun v227 h228 => vBool v227 fun b229 => cond b229 (stL (x12.add 4) [(.bool true)] 0 h228 fun h230 => Kn x4 x12 h230) (stL (x12.add 4) [(.bool false)] 0 h228 fun h231 => Kn x4 x12 h231)) (stL (x12.add 4) [(.bool true)] 0 h226 fun h232 => Kn x4 x12 h232)) (stL (x12.add 4) [(.bool false)] 0 h226 fun h233 => Kn x4 x12 h233))) (Kn x4 x12 h)
theorem n11_ok (x4 : Addr) (x7 : Int) (x8 : Int) (x10 : Bool) (x11 : Bool) (x12 : Addr) (x76 : Bool) (Kn : T8) (Kr : T0) (g : Env) (hg : E9 g x4 x7 x8 x10 x11 x12 x76) (h : H) (hS : n11 x4 x7 x8 x10 x11 x12 x76 Kn Kr h) : wpC none Tryd.prog 98 n10_c2 (Q1 Kn Kr) g h := by
  obtain ⟨hg4, hg7, hg8, hg10, hg11, hg12, hg76, hds⟩ := hg
  refine wpC_of_wpx (by kernel_rfl) (by kernel_rfl) (g' := (((((((⟨g.v, []⟩ : Env).upd (some 4) (.pointer (some x4))).upd (some 7) (.int .i32 x7)).upd (some 8) (.int .i32 x8)).upd (some 10) (.bool x10)).upd (some 11) (.bool x11)).upd (some 12) (.pointer (some x12))).upd (some 76) (.bool x76)) (by rw [env_ds hds, upd_self hg4, upd_self hg7, upd_self hg8, upd_self hg10, upd_self hg11, upd_self hg12, upd_self hg76]) ?_
  have e : (n11 x4 x7 x8 x10 x11 x12 x76 Kn Kr h) = wpx none Tryd.prog 98 n10_c2 (Q1 Kn Kr) ((((((((⟨g.v, []⟩ : Env).upd (some 4) (.pointer (some x4))).upd (some 7) (.int .i32 x7)).upd (some 8) (.int .i32 x8)).upd (some 10) (.bool x10)).upd (some 11) (.bool x11)).upd (some 12) (.pointer (some x12))).upd (some 76) (.bool x76)) h := by kernel_rfl
  exact e ▸ hS
def Q2 (Kn : T9) (Kr : T0) : XPost
  | .normal, g, h => D9 Kn g h
  | .ret, g, h => D0 Kr g h
  | _, _, _ => False
abbrev n10 (x0 : List UInt8) (x1 : Int) (x4 : Addr) (x7 : Int) (x8 : Int) (x10 : Bool) (x11 : Bool) (x12 : Addr) (Kn : T8) (Kr : T0) (h : H) : Prop :=
  (0 ≤ x1 ∧ x1 < (x0.length : Int)) ∧ (Spl (((List.getD x0 (Int.toNat x1) 0).toNat : Int) = (95 : Int)) (n11 x4 x7 x8 x10 x11 x12 true Kn Kr h) (n11 x4 x7 x8 x10 x11 x12 false Kn Kr h))
theorem n10_ok (x0 : List UInt8) (x1 : Int) (x4 : Addr) (x7 : Int) (x8 : Int) (x10 : Bool) (x11 : Bool) (x12 : Addr) (Kn : T8) (Kr : T0) (g : Env) (hg : E7 g x0 x1 x4 x7 x8 x10 x11 x12) (h : H) (hS : n10 x0 x1 x4 x7 x8 x10 x11 x12 Kn Kr h) : wpC none Tryd.prog 98 n8_c1 (Q1 Kn Kr) g h := by
  obtain ⟨hg0, hg1, hg4, hg7, hg8, hg10, hg11, hg12, hds⟩ := hg
  refine wpC_seq' (x := n10_c1) (y := n10_c2) (Q' := (Q2 (fun z4 z7 z8 z10 z11 z12 z76 h => n11 z4 z7 z8 z10 z11 z12 z76 Kn Kr h) Kr)) (by kernel_rfl) ?_ ?_
  · refine wpC_of_wpx (by kernel_rfl) (by kernel_rfl) (g' := ((((((((⟨g.v, []⟩ : Env).upd (some 0) (S x0)).upd (some 1) (.int .i64 x1)).upd (some 4) (.pointer (some x4))).upd (some 7) (.int .i32 x7)).upd (some 8) (.int .i32 x8)).upd (some 10) (.bool x10)).upd (some 11) (.bool x11)).upd (some 12) (.pointer (some x12))) (by rw [env_ds hds, upd_self hg0, upd_self hg1, upd_self hg4, upd_self hg7, upd_self hg8, upd_self hg10, upd_self hg11, upd_self hg12]) ?_
    have e : (n10 x0 x1 x4 x7 x8 x10 x11 x12 Kn Kr h) = wpx none Tryd.prog 98 n10_c1 (Q2 (fun z4 z7 z8 z10 z11 z12 z76 h => n11 z4 z7 z8 z10 z11 z12 z76 Kn Kr h) Kr) (((((((((⟨g.v, []⟩ : Env).upd (some 0) (S x0)).upd (some 1) (.int .i64 x1)).upd (some 4) (.pointer (some x4))).upd (some 7) (.int .i32 x7)).upd (some 8) (.int .i32 x8)).upd (some 10) (.bool x10)).upd (some 11) (.bool x11)).upd (some 12) (.pointer (some x12))) h := by kernel_rfl
    exact e ▸ hS
  · intro e g' h' hq
    cases e with
    | normal =>
      have hq : D9 (fun z4 z7 z8 z10 z11 z12 z76 h => n11 z4 z7 z8 z10 z11 z12 z76 Kn Kr h) g' h' := hq
      obtain ⟨y4, y7, y8, y10, y11, y12, y76, hg', hq⟩ := D9_ok hq
      exact n11_ok y4 y7 y8 y10 y11 y12 y76 Kn Kr g' hg' h' hq
    | _ => exact hq
abbrev n8 (x0 : List UInt8) (x1 : Int) (x4 : Addr) (x7 : Int) (x8 : Int) (x10 : Bool) (x11 : Bool) (x12 : Addr) (Kn : T0) (Kr : T0) (h : H) : Prop := n10 x0 x1 x4 x7 x8 x10 x11 x12 (fun z4 z12 h => n9 z4 z12 Kn Kr h) Kr h
theorem n8_ok (x0 : List UInt8) (x1 : Int) (x4 : Addr) (x7 : Int) (x8 : Int) (x10 : Bool) (x11 : Bool) (x12 : Addr) (Kn : T0) (Kr : T0) (g : Env) (hg : E7 g x0 x1 x4 x7 x8 x10 x11 x12) (h : H) (hS : n8 x0 x1 x4 x7 x8 x10 x11 x12 Kn Kr h) : wpC none Tryd.prog 98 n7_c2 (Q0 Kn Kr) g h := by
  refine wpC_seq' (x := n8_c1) (y := n8_c2) (by kernel_rfl) (n10_ok x0 x1 x4 x7 x8 x10 x11 x12 (fun z4 z12 h => n9 z4 z12 Kn Kr h) Kr g hg h hS) ?_
  intro e g' h' hq
  cases e with
  | normal =>
    have hq : D8 (fun z4 z12 h => n9 z4 z12 Kn Kr h) g' h' := hq
    obtain ⟨y4, y12, hg', hq⟩ := D8_ok hq
    exact n9_ok y4 y12 Kn Kr g' hg' h' hq
  | _ => exact hq
def Q3 (Kn : T7) (Kr : T0) : XPost
  | .normal, g, h => D7 Kn g h
  | .ret, g, h => D0 Kr g h
  | _, _, _ => False
abbrev n7 (x0 : List UInt8) (x1 : Int) (x4 : Addr) (x6 : Int) (x7 : Int) (x8 : Int) (x10 : Bool) (x11 : Bool) (Kn : T0) (Kr : T0) (h : H) : Prop :=
  (0 ≤ x1 ∧ x1 < (x0.length : Int)) ∧ (cond x10 (cond x11 (newx h ⟨[(.int .u8 (0 : Int)), (.int .i64 (0 : Int)), (.int .i64 (0 : Int)), (.bool false), (.bool false)]⟩ 25 fun a234 h235 => stL a234 [(.int .u8 ((List.getD x0 (Int.toNat x1) 0).toNat : Int)), (.int .i64 x1), (.int .i64 x6), (.bool true), (.bool true)] 0 h235 fun h236 => n8 x0 x1 x4 x7 x8 x10 x11 a234 Kn Kr h236) (newx h ⟨[(.int .u8 (0 : Int)), (.int .i64 (0 : Int)), (.int .i64 (0 : Int)), (.bool false), (.bool false)]⟩ 25 fun a237 h238 => stL a237 [(.int .u8 ((List.getD x0 (Int.toNat x1) 0).toNat : Int)), (.int .i64 x1), (.int .i64 x6), (.bool true), (.bool false)] 0 h238 fun h239 => n8 x0 x1 x4 x7 x8 x10 x11 a237 Kn Kr h239)) (cond x11 (newx h ⟨[(.int .u8 (0 : Int)), (.int .i64 (0 : Int)), (.int .i64 (0 : Int)), (.bool false), (.bool false)]⟩ 25 fun a240 h241 => stL a240 [(.int .u8 ((List.getD x0 (Int.toNat x1) 0).toNat : Int)), (.int .i64 x1), (.int .i64 x6), (.bool false), (.bool true)] 0 h241 fun h242 => n8 x0 x1 x4 x7 x8 x10 x11 a240 Kn Kr h242) (newx h ⟨[(.int .u8 (0 : Int)), (.int .i64 (0 : Int)), (.int .i64 (0 : Int)), (.bool false), (.bool false)]⟩ 25 fun a243 h244 => stL a243 [(.int .u8 ((List.getD x0 (Int.toNat x1) 0).toNat : Int)), (.int .i64 x1), (.int .i64 x6), (.bool false), (.bool false)] 0 h244 fun h245 => n8 x0 x1 x4 x7 x8 x10 x11 a243 Kn Kr h245)))
theorem n7_ok (x0 : List UInt8) (x1 : Int) (x4 : Addr) (x6 : Int) (x7 : Int) (x8 : Int) (x10 : Bool) (x11 : Bool) (Kn : T0) (Kr : T0) (g : Env) (hg : E6 g x0 x1 x4 x6 x7 x8 x10 x11) (h : H) (hS : n7 x0 x1 x4 x6 x7 x8 x10 x11 Kn Kr h) : wpC none Tryd.prog 98 n6_c2 (Q0 Kn Kr) g h := by
  obtain ⟨hg0, hg1, hg4, hg6, hg7, hg8, hg10, hg11, hds⟩ := hg
  refine wpC_seq' (x := n7_c1) (y := n7_c2) (Q' := (Q3 (fun z0 z1 z4 z7 z8 z10 z11 z12 h => n8 z0 z1 z4 z7 z8 z10 z11 z12 Kn Kr h) Kr)) (by kernel_rfl) ?_ ?_
  · refine wpC_of_wpx (by kernel_rfl) (by kernel_rfl) (g' := ((((((((⟨g.v, []⟩ : Env).upd (some 0) (S x0)).upd (some 1) (.int .i64 x1)).upd (some 4) (.pointer (some x4))).upd (some 6) (.int .i64 x6)).upd (some 7) (.int .i32 x7)).upd (some 8) (.int .i32 x8)).upd (some 10) (.bool x10)).upd (some 11) (.bool x11)) (by rw [env_ds hds, upd_self hg0, upd_self hg1, upd_self hg4, upd_self hg6, upd_self hg7, upd_self hg8, upd_self hg10, upd_self hg11]) ?_
    have e : (n7 x0 x1 x4 x6 x7 x8 x10 x11 Kn Kr h) = wpx none Tryd.prog 98 n7_c1 (Q3 (fun z0 z1 z4 z7 z8 z10 z11 z12 h => n8 z0 z1 z4 z7 z8 z10 z11 z12 Kn Kr h) Kr) (((((((((⟨g.v, []⟩ : Env).upd (some 0) (S x0)).upd (some 1) (.int .i64 x1)).upd (some 4) (.pointer (some x4))).upd (some 6) (.int .i64 x6)).upd (some 7) (.int .i32 x7)).upd (some 8) (.int .i32 x8)).upd (some 10) (.bool x10)).upd (some 11) (.bool x11)) h := by kernel_rfl
    exact e ▸ hS
  · intro e g' h' hq
    cases e with
    | normal =>
      have hq : D7 (fun z0 z1 z4 z7 z8 z10 z11 z12 h => n8 z0 z1 z4 z7 z8 z10 z11 z12 Kn Kr h) g' h' := hq
      obtain ⟨y0, y1, y4, y7, y8, y10, y11, y12, hg', hq⟩ := D7_ok hq
      exact n8_ok y0 y1 y4 y7 y8 y10 y11 y12 Kn Kr g' hg' h' hq
    | _ => exact hq
def Q4 (Kn : T6) (Kr : T0) : XPost
  | .normal, g, h => D6 Kn g h
  | .ret, g, h => D0 Kr g h
  | _, _, _ => False
abbrev n6 (x0 : List UInt8) (x1 : Int) (x4 : Addr) (x6 : Int) (x7 : Int) (x8 : Int) (x9 : Value) (Kn : T0) (Kr : T0) (h : H) : Prop :=
  CallV Tryd.prog 4 x9 ⟨[(.int .i32 x8), (.int .i32 x7)]⟩ h fun v246 h247 => vBool v246 fun b248 => cond b248 (CallV Tryd.prog 4 x9 ⟨[(.int .i32 x7), (.int .i32 x8)]⟩ h247 fun v249 h250 => vBool v249 fun b251 => cond b251 (n7 x0 x1 x4 x6 x7 x8 true true Kn Kr h250) (n7 x0 x1 x4 x6 x7 x8 true false Kn Kr h250)) (CallV Tryd.prog 4 x9 ⟨[(.int .i32 x7), (.int .i32 x8)]⟩ h247 fun v252 h253 => vBool v252 fun b254 => cond b254 (n7 x0 x1 x4 x6 x7 x8 false true Kn Kr h253) (n7 x0 x1 x4 x6 x7 x8 false false Kn Kr h253))
theorem n6_ok (x0 : List UInt8) (x1 : Int) (x4 : Addr) (x6 : Int) (x7 : Int) (x8 : Int) (x9 : Value) (Kn : T0) (Kr : T0) (g : Env) (hg : E5 g x0 x1 x4 x6 x7 x8 x9) (h : H) (hS : n6 x0 x1 x4 x6 x7 x8 x9 Kn Kr h) : wpC none Tryd.prog 98 n5_c2 (Q0 Kn Kr) g h := by
  obtain ⟨hg0, hg1, hg4, hg6, hg7, hg8, hg9, hds⟩ := hg
  refine wpC_seq' (x := n6_c1) (y := n6_c2) (Q' := (Q4 (fun z0 z1 z4 z6 z7 z8 z10 z11 h => n7 z0 z1 z4 z6 z7 z8 z10 z11 Kn Kr h) Kr)) (by kernel_rfl) ?_ ?_
  · refine wpC_of_wpx (by kernel_rfl) (by kernel_rfl) (g' := (((((((⟨g.v, []⟩ : Env).upd (some 0) (S x0)).upd (some 1) (.int .i64 x1)).upd (some 4) (.pointer (some x4))).upd (some 6) (.int .i64 x6)).upd (some 7) (.int .i32 x7)).upd (some 8) (.int .i32 x8)).upd (some 9) x9) (by rw [env_ds hds, upd_self hg0, upd_self hg1, upd_self hg4, upd_self hg6, upd_self hg7, upd_self hg8, upd_self hg9]) ?_
    have e : (n6 x0 x1 x4 x6 x7 x8 x9 Kn Kr h) = wpx none Tryd.prog 98 n6_c1 (Q4 (fun z0 z1 z4 z6 z7 z8 z10 z11 h => n7 z0 z1 z4 z6 z7 z8 z10 z11 Kn Kr h) Kr) ((((((((⟨g.v, []⟩ : Env).upd (some 0) (S x0)).upd (some 1) (.int .i64 x1)).upd (some 4) (.pointer (some x4))).upd (some 6) (.int .i64 x6)).upd (some 7) (.int .i32 x7)).upd (some 8) (.int .i32 x8)).upd (some 9) x9) h := by kernel_rfl
    exact e ▸ hS
  · intro e g' h' hq
    cases e with
    | normal =>
      have hq : D6 (fun z0 z1 z4 z6 z7 z8 z10 z11 h => n7 z0 z1 z4 z6 z7 z8 z10 z11 Kn Kr h) g' h' := hq
      obtain ⟨y0, y1, y4, y6, y7, y8, y10, y11, hg', hq⟩ := D6_ok hq
      exact n7_ok y0 y1 y4 y6 y7 y8 y10 y11 Kn Kr g' hg' h' hq
    | _ => exact hq
def Q5 (Kn : T5) (Kr : T0) : XPost
  | .normal, g, h => D5 Kn g h
  | .ret, g, h => D0 Kr g h
  | _, _, _ => False
abbrev n5 (x0 : List UInt8) (x1 : Int) (x4 : Addr) (x6 : Int) (x7 : Int) (x8 : Int) (Kn : T0) (Kr : T0) (h : H) : Prop :=
  n6 x0 x1 x4 x6 x7 x8 (.func (.func 17) ⟨[]⟩ ⟨[]⟩) Kn Kr h
theorem n5_ok (x0 : List UInt8) (x1 : Int) (x4 : Addr) (x6 : Int) (x7 : Int) (x8 : Int) (Kn : T0) (Kr : T0) (g : Env) (hg : E4 g x0 x1 x4 x6 x7 x8) (h : H) (hS : n5 x0 x1 x4 x6 x7 x8 Kn Kr h) : wpC none Tryd.prog 98 n4_c2 (Q0 Kn Kr) g h := by
  obtain ⟨hg0, hg1, hg4, hg6, hg7, hg8, hds⟩ := hg
  refine wpC_seq' (x := n5_c1) (y := n5_c2) (Q' := (Q5 (fun z0 z1 z4 z6 z7 z8 z9 h => n6 z0 z1 z4 z6 z7 z8 z9 Kn Kr h) Kr)) (by kernel_rfl) ?_ ?_
  · refine wpC_of_wpx (by kernel_rfl) (by kernel_rfl) (g' := ((((((⟨g.v, []⟩ : Env).upd (some 0) (S x0)).upd (some 1) (.int .i64 x1)).upd (some 4) (.pointer (some x4))).upd (some 6) (.int .i64 x6)).upd (some 7) (.int .i32 x7)).upd (some 8) (.int .i32 x8)) (by rw [env_ds hds, upd_self hg0, upd_self hg1, upd_self hg4, upd_self hg6, upd_self hg7, upd_self hg8]) ?_
    have e : (n5 x0 x1 x4 x6 x7 x8 Kn Kr h) = wpx none Tryd.prog 98 n5_c1 (Q5 (fun z0 z1 z4 z6 z7 z8 z9 h => n6 z0 z1 z4 z6 z7 z8 z9 Kn Kr h) Kr) (((((((⟨g.v, []⟩ : Env).upd (some 0) (S x0)).upd (some 1) (.int .i64 x1)).upd (some 4) (.pointer (some x4))).upd (some 6) (.int .i64 x6)).upd (some 7) (.int .i32 x7)).upd (some 8) (.int .i32 x8)) h := by kernel_rfl
    exact e ▸ hS
  · intro e g' h' hq
    cases e with
    | normal =>
      have hq : D5 (fun z0 z1 z4 z6 z7 z8 z9 h => n6 z0 z1 z4 z6 z7 z8 z9 Kn Kr h) g' h' := hq
      obtain ⟨y0, y1, y4, y6, y7, y8, y9, hg', hq⟩ := D5_ok hq
      exact n6_ok y0 y1 y4 y6 y7 y8 y9 Kn Kr g' hg' h' hq
    | _ => exact hq
def Q6 (Kn : T4) (Kr : T0) : XPost
  | .normal, g, h => D4 Kn g h
  | .ret, g, h => D0 Kr g h
  | _, _, _ => False
abbrev n4 (x0 : List UInt8) (x1 : Int) (x4 : Addr) (x6 : Int) (Kn : T0) (Kr : T0) (h : H) : Prop :=
  HCalls Tryd.prog 15 ⟨[(S x0), (.int .i64 x1)]⟩ h fun v255 h256 => vInt .i32 v255 fun i257 => Rng .i64 (x1 + x6) ∧ (HCalls Tryd.prog 16 ⟨[(S x0), (.int .i64 (x1 + x6))]⟩ h256 fun v258 h259 => vInt .i32 v258 fun i260 => n5 x0 x1 x4 x6 i257 i260 Kn Kr h259)
theorem n4_ok (x0 : List UInt8) (x1 : Int) (x4 : Addr) (x6 : Int) (Kn : T0) (Kr : T0) (g : Env) (hg : E3 g x0 x1 x4 x6) (h : H) (hS : n4 x0 x1 x4 x6 Kn Kr h) : wpC none Tryd.prog 98 n3_c2 (Q0 Kn Kr) g h := by
  obtain ⟨hg0, hg1, hg4, hg6, hds⟩ := hg
  refine wpC_seq' (x := n4_c1) (y := n4_c2) (Q' := (Q6 (fun z0 z1 z4 z6 z7 z8 h => n5 z0 z1 z4 z6 z7 z8 Kn Kr h) Kr)) (by kernel_rfl) ?_ ?_
  · refine wpC_of_wpx (by kernel_rfl) (by kernel_rfl) (g' := ((((⟨g.v, []⟩ : Env).upd (some 0) (S x0)).upd (some 1) (.int .i64 x1)).upd (some 4) (.pointer (some x4))).upd (some 6) (.int .i64 x6)) (by rw [env_ds hds, upd_self hg0, upd_self hg1, upd_self hg4, upd_self hg6]) ?_
    have e : (n4 x0 x1 x4 x6 Kn Kr h) = wpx none Tryd.prog 98 n4_c1 (Q6 (fun z0 z1 z4 z6 z7 z8 h => n5 z0 z1 z4 z6 z7 z8 Kn Kr h) Kr) (((((⟨g.v, []⟩ : Env).upd (some 0) (S x0)).upd (some 1) (.int .i64 x1)).upd (some 4) (.pointer (some x4))).upd (some 6) (.int .i64 x6)) h := by kernel_rfl
    exact e ▸ hS
  · intro e g' h' hq
    cases e with
    | normal =>
      have hq : D4 (fun z0 z1 z4 z6 z7 z8 h => n5 z0 z1 z4 z6 z7 z8 Kn Kr h) g' h' := hq
      obtain ⟨y0, y1, y4, y6, y7, y8, hg', hq⟩ := D4_ok hq
      exact n5_ok y0 y1 y4 y6 y7 y8 Kn Kr g' hg' h' hq
    | _ => exact hq
def Q7 (Kn : T3) (Kr : T0) : XPost
  | .normal, g, h => D3 Kn g h
  | .ret, g, h => D0 Kr g h
  | _, _, _ => False
abbrev n3 (x0 : List UInt8) (x1 : Int) (x4 : Addr) (Kn : T0) (Kr : T0) (h : H) : Prop :=
  Rng .i64 ((x0.length : Int) - x1) ∧ ((0 ≤ x1 ∧ x1 ≤ (x0.length : Int) ∧ (x0.length : Int) ≤ (x0.length : Int)) ∧ (Rng .i64 (x1 + (1 : Int)) ∧ ((0 ≤ x1 ∧ x1 ≤ (x1 + (1 : Int)) ∧ (x1 + (1 : Int)) ≤ (x0.length : Int)) ∧ (HCalls Tryd.prog 14 ⟨[(S (sub x0 x1 (x0.length : Int))), (S (sub x0 x1 (x1 + (1 : Int))))]⟩ h fun v261 h262 => vStr v261 fun s263 => ExtH h h262 ∧ (Rng .i64 (((x0.length : Int) - x1) - (s263.length : Int)) ∧ (n4 x0 x1 x4 (((x0.length : Int) - x1) - (s263.length : Int)) Kn Kr h262))))))
theorem n3_ok (x0 : List UInt8) (x1 : Int) (x4 : Addr) (Kn : T0) (Kr : T0) (g : Env) (hg : E2 g x0 x1 x4) (h : H) (hS : n3 x0 x1 x4 Kn Kr h) : wpC none Tryd.prog 98 n2_c2 (Q0 Kn Kr) g h := by
  obtain ⟨hg0, hg1, hg4, hds⟩ := hg
  refine wpC_seq' (x := n3_c1) (y := n3_c2) (Q' := (Q7 (fun z0 z1 z4 z6 h => n4 z0 z1 z4 z6 Kn Kr h) Kr)) (by kernel_rfl) ?_ ?_
  · refine wpC_of_wpx (by kernel_rfl) (by kernel_rfl) (g' := (((⟨g.v, []⟩ : Env).upd (some 0) (S x0)).upd (some 1) (.int .i64 x1)).upd (some 4) (.pointer (some x4))) (by rw [env_ds hds, upd_self hg0, upd_self hg1, upd_self hg4]) ?_
    have e : (n3 x0 x1 x4 Kn Kr h) = wpx none Tryd.prog 98 n3_c1 (Q7 (fun z0 z1 z4 z6 h => n4 z0 z1 z4 z6 Kn Kr h) Kr) ((((⟨g.v, []⟩ : Env).upd (some 0) (S x0)).upd (some 1) (.int .i64 x1)).upd (some 4) (.pointer (some x4))) h := by kernel_rfl
    exact e ▸ hS
  · intro e g' h' hq
    cases e with
    | normal =>
      have hq : D3 (fun z0 z1 z4 z6 h => n4 z0 z1 z4 z6 Kn Kr h) g' h' := hq
      obtain ⟨y0, y1, y4, y6, hg', hq⟩ := D3_ok hq
      exact n4_ok y0 y1 y4 y6 Kn Kr g' hg' h' hq
    | _ => exact hq
def Q8 (Kn : T2) (Kr : T0) : XPost
  | .normal, g, h => D2 Kn g h
  | .ret, g, h => D0 Kr g h
  | _, _, _ => False
abbrev n2 (x0 : List UInt8) (x1 : Int) (x4 : Addr) (Kn : T0) (Kr : T0) (h : H) : Prop :=
  Spl (x1 < (0 : Int)) (stL x4 [(.int .u8 (0 : Int)), (.int .i64 (0 : Int)), (.int .i64 (0 : Int)), (.bool false), (.bool false)] 0 h fun h264 => Kr x4 false h264) (Spl (x1 ≥ (x0.length : Int)) (stL x4 [(.int .u8 (0 : Int)), (.int .i64 (0 : Int)), (.int .i64 (0 : Int)), (.bool false), (.bool false)] 0 h fun h265 => Kr x4 false h265) ((0 ≤ x1 ∧ x1 < (x0.length : Int)) ∧ (Spl (((List.getD x0 (Int.toNat x1) 0).toNat : Int) = (42 : Int)) (n3 x0 x1 x4 Kn Kr h) ((0 ≤ x1 ∧ x1 < (x0.length : Int)) ∧ (Spl (((List.getD x0 (Int.toNat x1) 0).toNat : Int) = (95 : Int)) (n3 x0 x1 x4 Kn Kr h) (stL x4 [(.int .u8 (0 : Int)), (.int .i64 (0 : Int)), (.int .i64 (0 : Int)), (.bool false), (.bool false)] 0 h fun h266 => Kr x4 false h266))))))
theorem n2_ok (x0 : List UInt8) (x1 : Int) (x4 : Addr) (Kn : T0) (Kr : T0) (g : Env) (hg : E2 g x0 x1 x4) (h : H) (hS : n2 x0 x1 x4 Kn Kr h) : wpC none Tryd.prog 98 n1_c2 (Q0 Kn Kr) g h := by
  obtain ⟨hg0, hg1, hg4, hds⟩ := hg
  refine wpC_seq' (x := n2_c1) (y := n2_c2) (Q' := (Q8 (fun z0 z1 z4 h => n3 z0 z1 z4 Kn Kr h) Kr)) (by kernel_rfl) ?_ ?_
  · refine wpC_of_wpx (by kernel_rfl) (by kernel_rfl) (g' := (((⟨g.v, []⟩ : Env).upd (some 0) (S x0)).upd (some 1) (.int .i64 x1)).upd (some 4) (.pointer (some x4))) (by rw [env_ds hds, upd_self hg0, upd_self hg1, upd_self hg4]) ?_
    have e : (n2 x0 x1 x4 Kn Kr h) = wpx none Tryd.prog 98 n2_c1 (Q8 (fun z0 z1 z4 h => n3 z0 z1 z4 Kn Kr h) Kr) ((((⟨g.v, []⟩ : Env).upd (some 0) (S x0)).upd (some 1) (.int .i64 x1)).upd (some 4) (.pointer (some x4))) h := by kernel_rfl
    exact e ▸ hS
  · intro e g' h' hq
    cases e with
    | normal =>
      have hq : D2 (fun z0 z1 z4 h => n3 z0 z1 z4 Kn Kr h) g' h' := hq
      obtain ⟨y0, y1, y4, hg', hq⟩ := D2_ok hq
      exact n3_ok y0 y1 y4 Kn Kr g' hg' h' hq
    | _ => exact hq
abbrev n1 (x0 : List UInt8) (x1 : Int) (Kn : T0) (Kr : T0) (h : H) : Prop :=
  newx h ⟨[(.int .u8 (0 : Int)), (.int .i64 (0 : Int)), (.int .i64 (0 : Int)), (.bool false), (.bool false)]⟩ 25 fun a267 h268 => n2 x0 x1 a267 Kn Kr h268
theorem n1_ok (x0 : List UInt8) (x1 : Int) (Kn : T0) (Kr : T0) (g : Env) (hg : E1 g x0 x1) (h : H) (hS : n1 x0 x1 Kn Kr h) : wpC none Tryd.prog 98 code (Q0 Kn Kr) g h := by
  obtain ⟨hg0, hg1, hds⟩ := hg
  refine wpC_seq' (x := n1_c1) (y := n1_c2) (Q' := (Q8 (fun z0 z1 z4 h => n2 z0 z1 z4 Kn Kr h) Kr)) (by kernel_rfl) ?_ ?_
  · refine wpC_of_wpx (by kernel_rfl) (by kernel_rfl) (g' := ((⟨g.v, []⟩ : Env).upd (some 0) (S x0)).upd (some 1) (.int .i64 x1)) (by rw [env_ds hds, upd_self hg0, upd_self hg1]) ?_
    have e : (n1 x0 x1 Kn Kr h) = wpx none Tryd.prog 98 n1_c1 (Q8 (fun z0 z1 z4 h => n2 z0 z1 z4 Kn Kr h) Kr) (((⟨g.v, []⟩ : Env).upd (some 0) (S x0)).upd (some 1) (.int .i64 x1)) h := by kernel_rfl
    exact e ▸ hS
  · intro e g' h' hq
    cases e with
    | normal =>
      have hq : D2 (fun z0 z1 z4 h => n2 z0 z1 z4 Kn Kr h) g' h' := hq
      obtain ⟨y0, y1, y4, hg', hq⟩ := D2_ok hq
      exact n2_ok y0 y1 y4 Kn Kr g' hg' h' hq
    | _ => exact hq
/-- WHAT tympan/stars.Read ASKS -/
abbrev asks (x0 : List UInt8) (x1 : Int) (K : Value → H → Prop) (h : H) : Prop := n1 x0 x1 (fun y4 y5 h => ∃ i269, cell h ((y4).add 0) = some (.int .u8 i269) ∧ (∃ i270, cell h ((y4).add 1) = some (.int .i64 i270) ∧ (∃ i271, cell h ((y4).add 2) = some (.int .i64 i271) ∧ (∃ b272, cell h ((y4).add 3) = some (.bool b272) ∧ (∃ b273, cell h ((y4).add 4) = some (.bool b273) ∧ (K (.tuple ⟨[(.agg ⟨[(.int .u8 i269), (.int .i64 i270), (.int .i64 i271), (.bool b272), (.bool b273)]⟩), (.bool y5)]⟩) h)))))) (fun y4 y5 h => ∃ i269, cell h ((y4).add 0) = some (.int .u8 i269) ∧ (∃ i270, cell h ((y4).add 1) = some (.int .i64 i270) ∧ (∃ i271, cell h ((y4).add 2) = some (.int .i64 i271) ∧ (∃ b272, cell h ((y4).add 3) = some (.bool b272) ∧ (∃ b273, cell h ((y4).add 4) = some (.bool b273) ∧ (K (.tuple ⟨[(.agg ⟨[(.int .u8 i269), (.int .i64 i270), (.int .i64 i271), (.bool b272), (.bool b273)]⟩), (.bool y5)]⟩) h)))))) h
theorem ok (x0 : List UInt8) (x1 : Int) (K : Value → H → Prop) (h : H) (hS : asks x0 x1 K h) : HCalls Tryd.prog 7 ⟨[(S x0), (.int .i64 x1)]⟩ h K := by
  refine calls_of_wpC (c := code) Tryd.func7 (by kernel_rfl) (Nat.le_of_ble_eq_true (by kernel_rfl)) ?_
  refine (n1_ok x0 x1 (fun y4 y5 h => ∃ i269, cell h ((y4).add 0) = some (.int .u8 i269) ∧ (∃ i270, cell h ((y4).add 1) = some (.int .i64 i270) ∧ (∃ i271, cell h ((y4).add 2) = some (.int .i64 i271) ∧ (∃ b272, cell h ((y4).add 3) = some (.bool b272) ∧ (∃ b273, cell h ((y4).add 4) = some (.bool b273) ∧ (K (.tuple ⟨[(.agg ⟨[(.int .u8 i269), (.int .i64 i270), (.int .i64 i271), (.bool b272), (.bool b273)]⟩), (.bool y5)]⟩) h)))))) (fun y4 y5 h => ∃ i269, cell h ((y4).add 0) = some (.int .u8 i269) ∧ (∃ i270, cell h ((y4).add 1) = some (.int .i64 i270) ∧ (∃ i271, cell h ((y4).add 2) = some (.int .i64 i271) ∧ (∃ b272, cell h ((y4).add 3) = some (.bool b272) ∧ (∃ b273, cell h ((y4).add 4) = some (.bool b273) ∧ (K (.tuple ⟨[(.agg ⟨[(.int .u8 i269), (.int .i64 i270), (.int .i64 i271), (.bool b272), (.bool b273)]⟩), (.bool y5)]⟩) h)))))) (env0 [(S x0), (.int .i64 x1)]) ⟨rfl, rfl, rfl⟩ h hS).mono ?_
  intro e g' h' hq
  cases e with
  | normal =>
    have hq : D0 (fun y4 y5 h => ∃ i269, cell h ((y4).add 0) = some (.int .u8 i269) ∧ (∃ i270, cell h ((y4).add 1) = some (.int .i64 i270) ∧ (∃ i271, cell h ((y4).add 2) = some (.int .i64 i271) ∧ (∃ b272, cell h ((y4).add 3) = some (.bool b272) ∧ (∃ b273, cell h ((y4).add 4) = some (.bool b273) ∧ (K (.tuple ⟨[(.agg ⟨[(.int .u8 i269), (.int .i64 i270), (.int .i64 i271), (.bool b272), (.bool b273)]⟩), (.bool y5)]⟩) h)))))) g' h' := hq
    obtain ⟨y4, y5, ⟨hg4, hg5, hd⟩, hq⟩ := D0_ok hq
    show leaveX g'.ds h' _
    rw [hd]
    show vAddr (g'.v 4) fun a274 => ldx Tryd.prog 25 a274 h' fun v275 => K (.tuple ⟨[v275, (g'.v 5)]⟩) h'
    rw [hg4, hg5]
    exact hq
  | ret =>
    have hq : D0 (fun y4 y5 h => ∃ i269, cell h ((y4).add 0) = some (.int .u8 i269) ∧ (∃ i270, cell h ((y4).add 1) = some (.int .i64 i270) ∧ (∃ i271, cell h ((y4).add 2) = some (.int .i64 i271) ∧ (∃ b272, cell h ((y4).add 3) = some (.bool b272) ∧ (∃ b273, cell h ((y4).add 4) = some (.bool b273) ∧ (K (.tuple ⟨[(.agg ⟨[(.int .u8 i269), (.int .i64 i270), (.int .i64 i271), (.bool b272), (.bool b273)]⟩), (.bool y5)]⟩) h)))))) g' h' := hq
    obtain ⟨y4, y5, ⟨hg4, hg5, hd⟩, hq⟩ := D0_ok hq
    show leaveX g'.ds h' _
    rw [hd]
    show vAddr (g'.v 4) fun a274 => ldx Tryd.prog 25 a274 h' fun v275 => K (.tuple ⟨[v275, (g'.v 5)]⟩) h'
    rw [hg4, hg5]
    exact hq
  | _ => exact hq
end Sx.stars_Read

/-! ### tympan/tympanref27.Read -/
namespace Sx.r27_Read
noncomputable def code : Code := bodyOf Tryd.f8
abbrev T0 := Addr → Bool → H → Prop
def E0 (g : Env) (x4 : Addr) (x5 : Bool) : Prop := g.v 4 = (.pointer (some x4)) ∧ g.v 5 = (.bool x5) ∧ g.ds = []
def D0 (K : T0) (g : Env) (h : H) : Prop := nilDs g.ds (vAddr (g.v 4) fun a1 => vBool (g.v 5) fun b2 => K a1 b2 h)
theorem D0_ok {K : T0} {g : Env} {h : H} (hq : D0 K g h) : ∃ (x4 : Addr) (x5 : Bool), E0 g x4 x5 ∧ K x4 x5 h := by
  obtain ⟨hd, hq⟩ := nilDs_ok hq
  obtain ⟨y4, e3, q5⟩ := vAddr_ok hq
  obtain ⟨y7, e6, q8⟩ := vBool_ok q5
  exact ⟨y4, y7, ⟨e3, e6, hd⟩, q8⟩
def Q0 (Kn : T0) (Kr : T0) : XPost
  | .normal, g, h => D0 Kn g h
  | .ret, g, h => D0 Kr g h
  | _, _, _ => False
abbrev T1 := (List UInt8) → Int → H → Prop
def E1 (g : Env) (x0 : List UInt8) (x1 : Int) : Prop := g.v 0 = (S x0) ∧ g.v 1 = (.int .i64 x1) ∧ g.ds = []
def D1 (K : T1) (g : Env) (h : H) : Prop := nilDs g.ds (vStr (g.v 0) fun s9 => vInt .i64 (g.v 1) fun i10 => K s9 i10 h)
theorem D1_ok {K : T1} {g : Env} {h : H} (hq : D1 K g h) : ∃ (x0 : List UInt8) (x1 : Int), E1 g x0 x1 ∧ K x0 x1 h := by
  obtain ⟨hd, hq⟩ := nilDs_ok hq
  obtain ⟨y12, e11, q13⟩ := vStr_ok hq
  obtain ⟨y15, e14, q16⟩ := vInt_ok q13
  exact ⟨y12, y15, ⟨e11, e14, hd⟩, q16⟩
noncomputable def n1_c1 : Code := cFst code
noncomputable def n1_c2 : Code := cSnd code
abbrev T2 := (List UInt8) → Int → Addr → H → Prop
def E2 (g : Env) (x0 : List UInt8) (x1 : Int) (x4 : Addr) : Prop := g.v 0 = (S x0) ∧ g.v 1 = (.int .i64 x1) ∧ g.v 4 = (.pointer (some x4)) ∧ g.ds = []
def D2 (K : T2) (g : Env) (h : H) : Prop := nilDs g.ds (vStr (g.v 0) fun s17 => vInt .i64 (g.v 1) fun i18 => vAddr (g.v 4) fun a19 => K s17 i18 a19 h)
theorem D2_ok {K : T2} {g : Env} {h : H} (hq : D2 K g h) : ∃ (x0 : List UInt8) (x1 : Int) (x4 : Addr), E2 g x0 x1 x4 ∧ K x0 x1 x4 h := by
  obtain ⟨hd, hq⟩ := nilDs_ok hq
  obtain ⟨y21, e20, q22⟩ := vStr_ok hq
  obtain ⟨y24, e23, q25⟩ := vInt_ok q22
  obtain ⟨y27, e26, q28⟩ := vAddr_ok q25
  exact ⟨y21, y24, y27, ⟨e20, e23, e26, hd⟩, q28⟩
noncomputable def n2_c1 : Code := cFst n1_c2
noncomputable def n2_c2 : Code := cSnd n1_c2
noncomputable def n3_c1 : Code := cFst n2_c2
noncomputable def n3_c2 : Code := cSnd n2_c2
abbrev T3 := (List UInt8) → Int → Addr → Int → H → Prop
def E3 (g : Env) (x0 : List UInt8) (x1 : Int) (x4 : Addr) (x6 : Int) : Prop := g.v 0 = (S x0) ∧ g.v 1 = (.int .i64 x1) ∧ g.v 4 = (.pointer (some x4)) ∧ g.v 6 = (.int .i64 x6) ∧ g.ds = []
def D3 (K : T3) (g : Env) (h : H) : Prop := nilDs g.ds (vStr (g.v 0) fun s29 => vInt .i64 (g.v 1) fun i30 => vAddr (g.v 4) fun a31 => vInt .i64 (g.v 6) fun i32 => K s29 i30 a31 i32 h)
theorem D3_ok {K : T3} {g : Env} {h : H} (hq : D3 K g h) : ∃ (x0 : List UInt8) (x1 : Int) (x4 : Addr) (x6 : Int), E3 g x0 x1 x4 x6 ∧ K x0 x1 x4 x6 h := by
  obtain ⟨hd, hq⟩ := nilDs_ok hq
  obtain ⟨y34, e33, q35⟩ := vStr_ok hq
  obtain ⟨y37, e36, q38⟩ := vInt_ok q35
  obtain ⟨y40, e39, q41⟩ := vAddr_ok q38
  obtain ⟨y43, e42, q44⟩ := vInt_ok q41
  exact ⟨y34, y37, y40, y43, ⟨e33, e36, e39, e42, hd⟩, q44⟩
noncomputable def n4_c1 : Code := cFst n3_c2
noncomputable def n4_c2 : Code := cSnd n3_c2
noncomputable def n5_c1 : Code := cFst n4_c2
noncomputable def n5_c2 : Code := cSnd n4_c2
abbrev T4 := (List UInt8) → Int → Addr → Int → Int → H → Prop
def E4 (g : Env) (x0 : List UInt8) (x1 : Int) (x4 : Addr) (x6 : Int) (x7 : Int) : Prop := g.v 0 = (S x0) ∧ g.v 1 = (.int .i64 x1) ∧ g.v 4 = (.pointer (some x4)) ∧ g.v 6 = (.int .i64 x6) ∧ g.v 7 = (.int .i32 x7) ∧ g.ds = []
def D4 (K : T4) (g : Env) (h : H) : Prop := nilDs g.ds (vStr (g.v 0) fun s45 => vInt .i64 (g.v 1) fun i46 => vAddr (g.v 4) fun a47 => vInt .i64 (g.v 6) fun i48 => vInt .i32 (g.v 7) fun i49 => K s45 i46 a47 i48 i49 h)
theorem D4_ok {K : T4} {g : Env} {h : H} (hq : D4 K g h) : ∃ (x0 : List UInt8) (x1 : Int) (x4 : Addr) (x6 : Int) (x7 : Int), E4 g x0 x1 x4 x6 x7 ∧ K x0 x1 x4 x6 x7 h := by
  obtain ⟨hd, hq⟩ := nilDs_ok hq
  obtain ⟨y51, e50, q52⟩ := vStr_ok hq
  obtain ⟨y54, e53, q55⟩ := vInt_ok q52
  obtain ⟨y57, e56, q58⟩ := vAddr_ok q55
  obtain ⟨y60, e59, q61⟩ := vInt_ok q58
  obtain ⟨y63, e62, q64⟩ := vInt_ok q61
  exact ⟨y51, y54, y57, y60, y63, ⟨e50, e53, e56, e59, e62, hd⟩, q64⟩
noncomputable def n6_c1 : Code := cFst n5_c2
noncomputable def n6_c2 : Code := cSnd n5_c2
abbrev T5 := (List UInt8) → Int → Addr → Int → Int → Int → H → Prop
def E5 (g : Env) (x0 : List UInt8) (x1 : Int) (x4 : Addr) (x6 : Int) (x7 : Int) (x8 : Int) : Prop := g.v 0 = (S x0) ∧ g.v 1 = (.int .i64 x1) ∧ g.v 4 = (.pointer (some x4)) ∧ g.v 6 = (.int .i64 x6) ∧ g.v 7 = (.int .i32 x7) ∧ g.v 8 = (.int .i32 x8) ∧ g.ds = []
def D5 (K : T5) (g : Env) (h : H) : Prop := nilDs g.ds (vStr (g.v 0) fun s65 => vInt .i64 (g.v 1) fun i66 => vAddr (g.v 4) fun a67 => vInt .i64 (g.v 6) fun i68 => vInt .i32 (g.v 7) fun i69 => vInt .i32 (g.v 8) fun i70 => K s65 i66 a67 i68 i69 i70 h)
theorem D5_ok {K : T5} {g : Env} {h : H} (hq : D5 K g h) : ∃ (x0 : List UInt8) (x1 : Int) (x4 : Addr) (x6 : Int) (x7 : Int) (x8 : Int), E5 g x0 x1 x4 x6 x7 x8 ∧ K x0 x1 x4 x6 x7 x8 h := by
  obtain ⟨hd, hq⟩ := nilDs_ok hq
  obtain ⟨y72, e71, q73⟩ := vStr_ok hq
  obtain ⟨y75, e74, q76⟩ := vInt_ok q73
  obtain ⟨y78, e77, q79⟩ := vAddr_ok q76
  obtain ⟨y81, e80, q82⟩ := vInt_ok q79
  obtain ⟨y84, e83, q85⟩ := vInt_ok q82
  obtain ⟨y87, e86, q88⟩ := vInt_ok q85
  exact ⟨y72, y75, y78, y81, y84, y87, ⟨e71, e74, e77, e80, e83, e86, hd⟩, q88⟩
noncomputable def n7_c1 : Code := cFst n6_c2
noncomputable def n7_c2 : Code := cSnd n6_c2
abbrev T6 := (List UInt8) → Int → Addr → Int → Int → Int → Bool → H → Prop
def E6 (g : Env) (x0 : List UInt8) (x1 : Int) (x4 : Addr) (x6 : Int) (x7 : Int) (x8 : Int) (x9 : Bool) : Prop := g.v 0 = (S x0) ∧ g.v 1 = (.int .i64 x1) ∧ g.v 4 = (.pointer (some x4)) ∧ g.v 6 = (.int .i64 x6) ∧ g.v 7 = (.int .i32 x7) ∧ g.v 8 = (.int .i32 x8) ∧ g.v 9 = (.bool x9) ∧ g.ds = []
def D6 (K : T6) (g : Env) (h : H) : Prop := nilDs g.ds (vStr (g.v 0) fun s89 => vInt .i64 (g.v 1) fun i90 => vAddr (g.v 4) fun a91 => vInt .i64 (g.v 6) fun i92 => vInt .i32 (g.v 7) fun i93 => vInt .i32 (g.v 8) fun i94 => vBool (g.v 9) fun b95 => K s89 i90 a91 i92 i93 i94 b95 h)
theorem D6_ok {K : T6} {g : Env} {h : H} (hq : D6 K g h) : ∃ (x0 : List UInt8) (x1 : Int) (x4 : Addr) (x6 : Int) (x7 : Int) (x8 : Int) (x9 : Bool), E6 g x0 x1 x4 x6 x7 x8 x9 ∧ K x0 x1 x4 x6 x7 x8 x9 h := by
  obtain ⟨hd, hq⟩ := nilDs_ok hq
  obtain ⟨y97, e96, q98⟩ := vStr_ok hq
  obtain ⟨y100, e99, q101⟩ := vInt_ok q98
  obtain ⟨y103, e102, q104⟩ := vAddr_ok q101
  obtain ⟨y106, e105, q107⟩ := vInt_ok q104
  obtain ⟨y109, e108, q110⟩ := vInt_ok q107
  obtain ⟨y112, e111, q113⟩ := vInt_ok q110
  obtain ⟨y115, e114, q116⟩ := vBool_ok q113
  exact ⟨y97, y100, y103, y106, y109, y112, y115, ⟨e96, e99, e102, e105, e108, e111, e114, hd⟩, q116⟩
noncomputable def n8_c1 : Code := cFst n7_c2
noncomputable def n8_c2 : Code := cSnd n7_c2
abbrev T7 := (List UInt8) → Int → Addr → Int → Int → Int → Bool → Bool → H → Prop
def E7 (g : Env) (x0 : List UInt8) (x1 : Int) (x4 : Addr) (x6 : Int) (x7 : Int) (x8 : Int) (x9 : Bool) (x10 : Bool) : Prop := g.v 0 = (S x0) ∧ g.v 1 = (.int .i64 x1) ∧ g.v 4 = (.pointer (some x4)) ∧ g.v 6 = (.int .i64 x6) ∧ g.v 7 = (.int .i32 x7) ∧ g.v 8 = (.int .i32 x8) ∧ g.v 9 = (.bool x9) ∧ g.v 10 = (.bool x10) ∧ g.ds = []
def D7 (K : T7) (g : Env) (h : H) : Prop := nilDs g.ds (vStr (g.v 0) fun s117 => vInt .i64 (g.v 1) fun i118 => vAddr (g.v 4) fun a119 => vInt .i64 (g.v 6) fun i120 => vInt .i32 (g.v 7) fun i121 => vInt .i32 (g.v 8) fun i122 => vBool (g.v 9) fun b123 => vBool (g.v 10) fun b124 => K s117 i118 a119 i120 i121 i122 b123 b124 h)
theorem D7_ok {K : T7} {g : Env} {h : H} (hq : D7 K g h) : ∃ (x0 : List UInt8) (x1 : Int) (x4 : Addr) (x6 : Int) (x7 : Int) (x8 : Int) (x9 : Bool) (x10 : Bool), E7 g x0 x1 x4 x6 x7 x8 x9 x10 ∧ K x0 x1 x4 x6 x7 x8 x9 x10 h := by
  obtain ⟨hd, hq⟩ := nilDs_ok hq
  obtain ⟨y126, e125, q127⟩ := vStr_ok hq
  obtain ⟨y129, e128, q130⟩ := vInt_ok q127
  obtain ⟨y132, e131, q133⟩ := vAddr_ok q130
  obtain ⟨y135, e134, q136⟩ := vInt_ok q133
  obtain ⟨y138, e137, q139⟩ := vInt_ok q136
  obtain ⟨y141, e140, q142⟩ := vInt_ok q139
  obtain ⟨y144, e143, q145⟩ := vBool_ok q142
  obtain ⟨y147, e146, q148⟩ := vBool_ok q145
  exact ⟨y126, y129, y132, y135, y138, y141, y144, y147, ⟨e125, e128, e131, e134, e137, e140, e143, e146, hd⟩, q148⟩
noncomputable def n9_c1 : Code := cFst n8_c2
noncomputable def n9_c2 : Code := cSnd n8_c2
abbrev T8 := (List UInt8) → Int → Addr → Int → Int → Bool → Bool → Bool → H → Prop
def E8 (g : Env) (x0 : List UInt8) (x1 : Int) (x4 : Addr) (x6 : Int) (x8 : Int) (x9 : Bool) (x10 : Bool) (x11 : Bool) : Prop := g.v 0 = (S x0) ∧ g.v 1 = (.int .i64 x1) ∧ g.v 4 = (.pointer (some x4)) ∧ g.v 6 = (.int .i64 x6) ∧ g.v 8 = (.int .i32 x8) ∧ g.v 9 = (.bool x9) ∧ g.v 10 = (.bool x10) ∧ g.v 11 = (.bool x11) ∧ g.ds = []
def D8 (K : T8) (g : Env) (h : H) : Prop := nilDs g.ds (vStr (g.v 0) fun s149 => vInt .i64 (g.v 1) fun i150 => vAddr (g.v 4) fun a151 => vInt .i64 (g.v 6) fun i152 => vInt .i32 (g.v 8) fun i153 => vBool (g.v 9) fun b154 => vBool (g.v 10) fun b155 => vBool (g.v 11) fun b156 => K s149 i150 a151 i152 i153 b154 b155 b156 h)
theorem D8_ok {K : T8} {g : Env} {h : H} (hq : D8 K g h) : ∃ (x0 : List UInt8) (x1 : Int) (x4 : Addr) (x6 : Int) (x8 : Int) (x9 : Bool) (x10 : Bool) (x11 : Bool), E8 g x0 x1 x4 x6 x8 x9 x10 x11 ∧ K x0 x1 x4 x6 x8 x9 x10 x11 h := by
  obtain ⟨hd, hq⟩ := nilDs_ok hq
  obtain ⟨y158, e157, q159⟩ := vStr_ok hq
  obtain ⟨y161, e160, q162⟩ := vInt_ok q159
  obtain ⟨y164, e163, q165⟩ := vAddr_ok q162
  obtain ⟨y167, e166, q168⟩ := vInt_ok q165
  obtain ⟨y170, e169, q171⟩ := vInt_ok q168
  obtain ⟨y173, e172, q174⟩ := vBool_ok q171
  obtain ⟨y176, e175, q177⟩ := vBool_ok q174
  obtain ⟨y179, e178, q180⟩ := vBool_ok q177
  exact ⟨y158, y161, y164, y167, y170, y173, y176, y179, ⟨e157, e160, e163, e166, e169, e172, e175, e178, hd⟩, q180⟩
noncomputable def n10_c1 : Code := cFst n9_c2
noncomputable def n10_c2 : Code := cSnd n9_c2
abbrev T9 := (List UInt8) → Int → Addr → Int → Bool → Bool → Bool → Bool → H → Prop
def E9 (g : Env) (x0 : List UInt8) (x1 : Int) (x4 : Addr) (x6 : Int) (x9 : Bool) (x10 : Bool) (x11 : Bool) (x12 : Bool) : Prop := g.v 0 = (S x0) ∧ g.v 1 = (.int .i64 x1) ∧ g.v 4 = (.pointer (some x4)) ∧ g.v 6 = (.int .i64 x6) ∧ g.v 9 = (.bool x9) ∧ g.v 10 = (.bool x10) ∧ g.v 11 = (.bool x11) ∧ g.v 12 = (.bool x12) ∧ g.ds = []
def D9 (K : T9) (g : Env) (h : H) : Prop := nilDs g.ds (vStr (g.v 0) fun s181 => vInt .i64 (g.v 1) fun i182 => vAddr (g.v 4) fun a183 => vInt .i64 (g.v 6) fun i184 => vBool (g.v 9) fun b185 => vBool (g.v 10) fun b186 => vBool (g.v 11) fun b187 => vBool (g.v 12) fun b188 => K s181 i182 a183 i184 b185 b186 b187 b188 h)
theorem D9_ok {K : T9} {g : Env} {h : H} (hq : D9 K g h) : ∃ (x0 : List UInt8) (x1 : Int) (x4 : Addr) (x6 : Int) (x9 : Bool) (x10 : Bool) (x11 : Bool) (x12 : Bool), E9 g x0 x1 x4 x6 x9 x10 x11 x12 ∧ K x0 x1 x4 x6 x9 x10 x11 x12 h := by
  obtain ⟨hd, hq⟩ := nilDs_ok hq
  obtain ⟨y190, e189, q191⟩ := vStr_ok hq
  obtain ⟨y193, e192, q194⟩ := vInt_ok q191
  obtain ⟨y196, e195, q197⟩ := vAddr_ok q194
  obtain ⟨y199, e198, q200⟩ := vInt_ok q197
  obtain ⟨y202, e201, q203⟩ := vBool_ok q200
  obtain ⟨y205, e204, q206⟩ := vBool_ok q203
  obtain ⟨y208, e207, q209⟩ := vBool_ok q206
  obtain ⟨y211, e210, q212⟩ := vBool_ok q209
  exact ⟨y190, y193, y196, y199, y202, y205, y208, y211, ⟨e189, e192, e195, e198, e201, e204, e207, e210, hd⟩, q212⟩
noncomputable def n11_c1 : Code := cFst n10_c2
noncomputable def n11_c2 : Code := cSnd n10_c2
abbrev T10 := (List UInt8) → Int → Addr → Int → Bool → Bool → Bool → Bool → Bool → H → Prop
def E10 (g : Env) (x0 : List UInt8) (x1 : Int) (x4 : Addr) (x6 : Int) (x9 : Bool) (x10 : Bool) (x11 : Bool) (x12 : Bool) (x13 : Bool) : Prop := g.v 0 = (S x0) ∧ g.v 1 = (.int .i64 x1) ∧ g.v 4 = (.pointer (some x4)) ∧ g.v 6 = (.int .i64 x6) ∧ g.v 9 = (.bool x9) ∧ g.v 10 = (.bool x10) ∧ g.v 11 = (.bool x11) ∧ g.v 12 = (.bool x12) ∧ g.v 13 = (.bool x13) ∧ g.ds = []
def D10 (K : T10) (g : Env) (h : H) : Prop := nilDs g.ds (vStr (g.v 0) fun s213 => vInt .i64 (g.v 1) fun i214 => vAddr (g.v 4) fun a215 => vInt .i64 (g.v 6) fun i216 => vBool (g.v 9) fun b217 => vBool (g.v 10) fun b218 => vBool (g.v 11) fun b219 => vBool (g.v 12) fun b220 => vBool (g.v 13) fun b221 => K s213 i214 a215 i216 b217 b218 b219 b220 b221 h)
theorem D10_ok {K : T10} {g : Env} {h : H} (hq : D10 K g h) : ∃ (x0 : List UInt8) (x1 : Int) (x4 : Addr) (x6 : Int) (x9 : Bool) (x10 : Bool) (x11 : Bool) (x12 : Bool) (x13 : Bool), E10 g x0 x1 x4 x6 x9 x10 x11 x12 x13 ∧ K x0 x1 x4 x6 x9 x10 x11 x12 x13 h := by
  obtain ⟨hd, hq⟩ := nilDs_ok hq
  obtain ⟨y223, e222, q224⟩ := vStr_ok hq
  obtain ⟨y226, e225, q227⟩ := vInt_ok q224
  obtain ⟨y229, e228, q230⟩ := vAddr_ok q227
  obtain ⟨y232, e231, q233⟩ := vInt_ok q230
  obtain ⟨y235, e234, q236⟩ := vBool_ok q233
  obtain ⟨y238, e237, q239⟩ := vBool_ok q236
  obtain ⟨y241, e240, q242⟩ := vBool_ok q239
  obtain ⟨y244, e243, q245⟩ := vBool_ok q242
  obtain ⟨y247, e246, q248⟩ := vBool_ok q245
  exact ⟨y223, y226, y229, y232, y235, y238, y241, y244, y247, ⟨e222, e225, e228, e231, e234, e237, e240, e243, e246, hd⟩, q248⟩
noncomputable def n12_c1 : Code := cFst n11_c2
noncomputable def n12_c2 : Code := cSnd n11_c2
abbrev T11 := (List UInt8) → Int → Addr → Int → Bool → Bool → Bool → Bool → H → Prop
def E11 (g : Env) (x0 : List UInt8) (x1 : Int) (x4 : Addr) (x6 : Int) (x11 : Bool) (x12 : Bool) (x13 : Bool) (x14 : Bool) : Prop := g.v 0 = (S x0) ∧ g.v 1 = (.int .i64 x1) ∧ g.v 4 = (.pointer (some x4)) ∧ g.v 6 = (.int .i64 x6) ∧ g.v 11 = (.bool x11) ∧ g.v 12 = (.bool x12) ∧ g.v 13 = (.bool x13) ∧ g.v 14 = (.bool x14) ∧ g.ds = []
def D11 (K : T11) (g : Env) (h : H) : Prop := nilDs g.ds (vStr (g.v 0) fun s249 => vInt .i64 (g.v 1) fun i250 => vAddr (g.v 4) fun a251 => vInt .i64 (g.v 6) fun i252 => vBool (g.v 11) fun b253 => vBool (g.v 12) fun b254 => vBool (g.v 13) fun b255 => vBool (g.v 14) fun b256 => K s249 i250 a251 i252 b253 b254 b255 b256 h)
theorem D11_ok {K : T11} {g : Env} {h : H} (hq : D11 K g h) : ∃ (x0 : List UInt8) (x1 : Int) (x4 : Addr) (x6 : Int) (x11 : Bool) (x12 : Bool) (x13 : Bool) (x14 : Bool), E11 g x0 x1 x4 x6 x11 x12 x13 x14 ∧ K x0 x1 x4 x6 x11 x12 x13 x14 h := by
  obtain ⟨hd, hq⟩ := nilDs_ok hq
  obtain ⟨y258, e257, q259⟩ := vStr_ok hq
  obtain ⟨y261, e260, q262⟩ := vInt_ok q259
  obtain ⟨y264, e263, q265⟩ := vAddr_ok q262
  obtain ⟨y267, e266, q268⟩ := vInt_ok q265
  obtain ⟨y270, e269, q271⟩ := vBool_ok q268
  obtain ⟨y273, e272, q274⟩ := vBool_ok q271
  obtain ⟨y276, e275, q277⟩ := vBool_ok q274
  obtain ⟨y279, e278, q280⟩ := vBool_ok q277
  exact ⟨y258, y261, y264, y267, y270, y273, y276, y279, ⟨e257, e260, e263, e266, e269, e272, e275, e278, hd⟩, q280⟩
noncomputable def n13_c1 : Code := cFst n12_c2
noncomputable def n13_c2 : Code := cSnd n12_c2
abbrev T12 := (List UInt8) → Int → Addr → Bool → Bool → Bool → Bool → Addr → H → Prop
def E12 (g : Env) (x0 : List UInt8) (x1 : Int) (x4 : Addr) (x11 : Bool) (x12 : Bool) (x13 : Bool) (x14 : Bool) (x15 : Addr) : Prop := g.v 0 = (S x0) ∧ g.v 1 = (.int .i64 x1) ∧ g.v 4 = (.pointer (some x4)) ∧ g.v 11 = (.bool x11) ∧ g.v 12 = (.bool x12) ∧ g.v 13 = (.bool x13) ∧ g.v 14 = (.bool x14) ∧ g.v 15 = (.pointer (some x15)) ∧ g.ds = []
def D12 (K : T12) (g : Env) (h : H) : Prop := nilDs g.ds (vStr (g.v 0) fun s281 => vInt .i64 (g.v 1) fun i282 => vAddr (g.v 4) fun a283 => vBool (g.v 11) fun b284 => vBool (g.v 12) fun b285 => vBool (g.v 13) fun b286 => vBool (g.v 14) fun b287 => vAddr (g.v 15) fun a288 => K s281 i282 a283 b284 b285 b286 b287 a288 h)
theorem D12_ok {K : T12} {g : Env} {h : H} (hq : D12 K g h) : ∃ (x0 : List UInt8) (x1 : Int) (x4 : Addr) (x11 : Bool) (x12 : Bool) (x13 : Bool) (x14 : Bool) (x15 : Addr), E12 g x0 x1 x4 x11 x12 x13 x14 x15 ∧ K x0 x1 x4 x11 x12 x13 x14 x15 h := by
  obtain ⟨hd, hq⟩ := nilDs_ok hq
  obtain ⟨y290, e289, q291⟩ := vStr_ok hq
  obtain ⟨y293, e292, q294⟩ := vInt_ok q291
  obtain ⟨y296, e295, q297⟩ := vAddr_ok q294
  obtain ⟨y299, e298, q300⟩ := vBool_ok q297
  obtain ⟨y302, e301, q303⟩ := vBool_ok q300
  obtain ⟨y305, e304, q306⟩ := vBool_ok q303
  obtain ⟨y308, e307, q309⟩ := vBool_ok q306
  obtain ⟨y311, e310, q312⟩ := vAddr_ok q309
  exact ⟨y290, y293, y296, y299, y302, y305, y308, y311, ⟨e289, e292, e295, e298, e301, e304, e307, e310, hd⟩, q312⟩
noncomputable def n14_c1 : Code := cFst n13_c2
noncomputable def n14_c2 : Code := cSnd n13_c2
abbrev T13 := Addr → Addr → H → Prop
def E13 (g : Env) (x4 : Addr) (x15 : Addr) : Prop := g.v 4 = (.pointer (some x4)) ∧ g.v 15 = (.pointer (some x15)) ∧ g.ds = []
def D13 (K : T13) (g : Env) (h : H) : Prop := nilDs g.ds (vAddr (g.v 4) fun a313 => vAddr (g.v 15) fun a314 => K a313 a314 h)
theorem D13_ok {K : T13} {g : Env} {h : H} (hq : D13 K g h) : ∃ (x4 : Addr) (x15 : Addr), E13 g x4 x15 ∧ K x4 x15 h := by
  obtain ⟨hd, hq⟩ := nilDs_ok hq
  obtain ⟨y316, e315, q317⟩ := vAddr_ok hq
  obtain ⟨y319, e318, q320⟩ := vAddr_ok q317
  exact ⟨y316, y319, ⟨e315, e318, hd⟩, q320⟩
abbrev n15 (x4 : Addr) (x15 : Addr) (Kn : T0) (Kr : T0) (h : H) : Prop :=
  ∃ i321, cell h ((x15).add 0) = some (.int .u8 i321) ∧ (∃ i322, cell h ((x15).add 1) = some (.int .i64 i322) ∧ (∃ i323, cell h ((x15).add 2) = some (.int .i64 i323) ∧ (∃ b324, cell h ((x15).add 3) = some (.bool b324) ∧ (∃ b325, cell h ((x15).add 4) = some (.bool b325) ∧ (stL x4 [(.int .u8 i321), (.int .i64 i322), (.int .i64 i323), (.bool b324), (.bool b325)] 0 h fun h326 => Kr x4 true h326)))))
theorem n15_ok (x4 : Addr) (x15 : Addr) (Kn : T0) (Kr : T0) (g : Env) (hg : E13 g x4 x15) (h : H) (hS : n15 x4 x15 Kn Kr h) : wpC none Tryd.prog 127 n14_c2 (Q0 Kn Kr) g h := by
  obtain ⟨hg4, hg15, hds⟩ := hg
  refine wpC_of_wpx (by kernel_rfl) (by kernel_rfl) (g' := ((⟨g.v, []⟩ : Env).upd (some 4) (.pointer (some x4))).upd (some 15) (.pointer (some x15))) (by rw [env_ds hds, upd_self hg4, upd_self hg15]) ?_
  have e : (n15 x4 x15 Kn Kr h) = wpx none Tryd.prog 127 n14_c2 (Q0 Kn Kr) (((⟨g.v, []⟩ : Env).upd (some 4) (.pointer (some x4))).upd (some 15) (.pointer (some x15))) h := by kernel_rfl
  exact e ▸ hS
def Q1 (Kn : T13) (Kr : T0) : XPost
  | .normal, g, h => D13 Kn g h
  | .ret, g, h => D0 Kr g h
  | _, _, _ => False
noncomputable def n16_c1 : Code := cFst n14_c1
noncomputable def n16_c2 : Code := cSnd n14_c1
abbrev T14 := Addr → Bool → Bool → Bool → Bool → Addr → Bool → H → Prop
def E14 (g : Env) (x4 : Addr) (x11 : Bool) (x12 : Bool) (x13 : Bool) (x14 : Bool) (x15 : Addr) (x107 : Bool) : Prop := g.v 4 = (.pointer (some x4)) ∧ g.v 11 = (.bool x11) ∧ g.v 12 = (.bool x12) ∧ g.v 13 = (.bool x13) ∧ g.v 14 = (.bool x14) ∧ g.v 15 = (.pointer (some x15)) ∧ g.v 107 = (.bool x107) ∧ g.ds = []
def D14 (K : T14) (g : Env) (h : H) : Prop := nilDs g.ds (vAddr (g.v 4) fun a327 => vBool (g.v 11) fun b328 => vBool (g.v 12) fun b329 => vBool (g.v 13) fun b330 => vBool (g.v 14) fun b331 => vAddr (g.v 15) fun a332 => vBool (g.v 107) fun b333 => K a327 b328 b329 b330 b331 a332 b333 h)
theorem D14_ok {K : T14} {g : Env} {h : H} (hq : D14 K g h) : ∃ (x4 : Addr) (x11 : Bool) (x12 : Bool) (x13 : Bool) (x14 : Bool) (x15 : Addr) (x107 : Bool), E14 g x4 x11 x12 x13 x14 x15 x107 ∧ K x4 x11 x12 x13 x14 x15 x107 h := by
  obtain ⟨hd, hq⟩ := nilDs_ok hq
  obtain ⟨y335, e334, q336⟩ := vAddr_ok hq
  obtain ⟨y338, e337, q339⟩ := vBool_ok q336
  obtain ⟨y341, e340, q342⟩ := vBool_ok q339
  obtain ⟨y344, e343, q345⟩ := vBool_ok q342
  obtain ⟨y347, e346, q348⟩ := vBool_ok q345
  obtain ⟨y350, e349, q351⟩ := vAddr_ok q348
  obtain ⟨y353, e352, q354⟩ := vBool_ok q351
  exact ⟨y335, y338, y341, y344, y347, y350, y353, ⟨e334, e337, e340, e343, e346, e349, e352, hd⟩, q354⟩
abbrev n17 (x4 : Addr) (x11 : Bool) (x12 : Bool) (x13 : Bool) (x14 : Bool) (x15 : Addr) (x107 : Bool) (Kn : T13) (Kr : T0) (h : H) : Prop :=
  cond x107 (cond x13 (cond x14 (cond x11 (stL (x15.add 3) [(.bool true)] 0 h fun h355 => cond x14 (cond x13 (cond x12 (stL (x15.add 4) [(.bool true)] 0 h355 fun h356 => Kn x4 x15 h356) (stL (x15.add 4) [(.bool false)] 0 h355 fun h357 => Kn x4 x15 h357)) (stL (x15.add 4) [(.bool true)] 0 h355 fun h358 => Kn x4 x15 h358)) (stL (x15.add 4) [(.bool false)] 0 h355 fun h359 => Kn x4 x15 h359)) (stL (x15.add 3) [(.bool false)] 0 h fun h360 => cond x14 (cond x13 (cond x12 (stL (x15.add 4) [(.bool true)] 0 h360 fun h361 => Kn x4 x15 h361) (stL (x15.add 4) [(.bool false)] 0 h360 fun h362 => Kn x4 x15 h362)) (stL (x15.add 4) [(.bool true)] 0 h360 fun h363 => Kn x4 x15 h363)) (stL (x15.add 4) [(.bool false)] 0 h360 fun h364 => Kn x4 x15 h364))) (stL (x15.add 3) [(.bool true)] 0 h fun h365 => cond x14 (cond x13 (cond x12 (stL (x15.add 4) [(.bool true)] 0 h365 fun h366 => Kn x4 x15 h366) (stL (x15.add 4) [(.bool false)] 0 h365 fun h367 => Kn x4 x15 h367)) (stL (x15.add 4) [(.bool true)] 0 h365 fun h368 => Kn x4 x15 h368)) (stL (x15.add 4) [(.bool false)] 0 h365 fun h369 => Kn x4 x15 h369))) (stL (x15.add 3) [(.bool false)] 0 h fun h370 => cond x14 (cond x13 (cond x12 (stL (x15.add 4) [(.bool true)] 0 h370 fun h371 => Kn x4 x15 h371) (stL (x15.add 4) [(.bool false)] 0 h370 fun h372 => Kn x4 x15 h372)) (stL (x15.add 4) [(.bool true)] 0 h370 fun h373 => Kn x4 x15 h373)) (stL (x15.add 4) [(.bool false)] 0 h370 fun h374 => Kn x4 x15 h374))) (Kn x4 x15 h)
theorem n17_ok (x4 : Addr) (x11 : Bool) (x12 : Bool) (x13 : Bool) (x14 : Bool) (x15 : Addr) (x107 : Bool) (Kn : T13) (Kr : T0) (g : Env) (hg : E14 g x4 x11 x12 x13 x14 x15 x107) (h : H) (hS : n17 x4 x11 x12 x13 x14 x15 x107 Kn Kr h) : wpC none Tryd.prog 127 n16_c2 (Q1 Kn Kr) g h := by
  obtain ⟨hg4, hg11, hg12, hg13, hg14, hg15, hg107, hds⟩ := hg
  refine wpC_of_wpx (by kernel_rfl) (by kernel_rfl) (g' := (((((((⟨g.v, []⟩ : Env).upd (some 4) (.pointer (some x4))).upd (some 11) (.bool x11)).upd (some 12) (.bool x12)).upd (some 13) (.bool x13)).upd (some 14) (.bool x14)).upd (some 15) (.pointer (some x15))).upd (some 107) (.bool x107)) (by rw [env_ds hds, upd_self hg4, upd_self hg11, upd_self hg12, upd_self hg13, upd_self hg14, upd_self hg15, upd_self hg107]) ?_
  have e : (n17 x4 x11 x12 x13 x14 x15 x107 Kn Kr h) = wpx none Tryd.prog 127 n16_c2 (Q1 Kn Kr) ((((((((⟨g.v, []⟩ : Env).upd (some 4) (.pointer (some x4))).upd (some 11) (.bool x11)).upd (some 12) (.bool x12)).upd (some 13) (.bool x13)).upd (some 14) (.bool x14)).upd (some 15) (.pointer (some x15))).upd (some 107) (.bool x107)) h := by kernel_rfl
  exact e ▸ hS
def Q2 (Kn : T14) (Kr : T0) : XPost
  | .normal, g, h => D14 Kn g h
  | .ret, g, h => D0 Kr g h
  | _, _, _ => False
abbrev n16 (x0 : List UInt8) (x1 : Int) (x4 : Addr) (x11 : Bool) (x12 : Bool) (x13 : Bool) (x14 : Bool) (x15 : Addr) (Kn : T13) (Kr : T0) (h : H) : Prop :=
  (0 ≤ x1 ∧ x1 < (x0.length : Int)) ∧ (Spl (((List.getD x0 (Int.toNat x1) 0).toNat : Int) = (95 : Int)) (n17 x4 x11 x12 x13 x14 x15 true Kn Kr h) (n17 x4 x11 x12 x13 x14 x15 false Kn Kr h))
theorem n16_ok (x0 : List UInt8) (x1 : Int) (x4 : Addr) (x11 : Bool) (x12 : Bool) (x13 : Bool) (x14 : Bool) (x15 : Addr) (Kn : T13) (Kr : T0) (g : Env) (hg : E12 g x0 x1 x4 x11 x12 x13 x14 x15) (h : H) (hS : n16 x0 x1 x4 x11 x12 x13 x14 x15 Kn Kr h) : wpC none Tryd.prog 127 n14_c1 (Q1 Kn Kr) g h := by
  obtain ⟨hg0, hg1, hg4, hg11, hg12, hg13, hg14, hg15, hds⟩ := hg
  refine wpC_seq' (x := n16_c1) (y := n16_c2) (Q' := (Q2 (fun z4 z11 z12 z13 z14 z15 z107 h => n17 z4 z11 z12 z13 z14 z15 z107 Kn Kr h) Kr)) (by kernel_rfl) ?_ ?_
  · refine wpC_of_wpx (by kernel_rfl) (by kernel_rfl) (g' := ((((((((⟨g.v, []⟩ : Env).upd (some 0) (S x0)).upd (some 1) (.int .i64 x1)).upd (some 4) (.pointer (some x4))).upd (some 11) (.bool x11)).upd (some 12) (.bool x12)).upd (some 13) (.bool x13)).upd (some 14) (.bool x14)).upd (some 15) (.pointer (some x15))) (by rw [env_ds hds, upd_self hg0, upd_self hg1, upd_self hg4, upd_self hg11, upd_self hg12, upd_self hg13, upd_self hg14, upd_self hg15]) ?_
    have e : (n16 x0 x1 x4 x11 x12 x13 x14 x15 Kn Kr h) = wpx none Tryd.prog 127 n16_c1 (Q2 (fun z4 z11 z12 z13 z14 z15 z107 h => n17 z4 z11 z12 z13 z14 z15 z107 Kn Kr h) Kr) (((((((((⟨g.v, []⟩ : Env).upd (some 0) (S x0)).upd (some 1) (.int .i64 x1)).upd (some 4) (.pointer (some x4))).upd (some 11) (.bool x11)).upd (some 12) (.bool x12)).upd (some 13) (.bool x13)).upd (some 14) (.bool x14)).upd (some 15) (.pointer (some x15))) h := by kernel_rfl
    exact e ▸ hS
  · intro e g' h' hq
    cases e with
    | normal =>
      have hq : D14 (fun z4 z11 z12 z13 z14 z15 z107 h => n17 z4 z11 z12 z13 z14 z15 z107 Kn Kr h) g' h' := hq
      obtain ⟨y4, y11, y12, y13, y14, y15, y107, hg', hq⟩ := D14_ok hq
      exact n17_ok y4 y11 y12 y13 y14 y15 y107 Kn Kr g' hg' h' hq
    | _ => exact hq
abbrev n14 (x0 : List UInt8) (x1 : Int) (x4 : Addr) (x11 : Bool) (x12 : Bool) (x13 : Bool) (x14 : Bool) (x15 : Addr) (Kn : T0) (Kr : T0) (h : H) : Prop := n16 x0 x1 x4 x11 x12 x13 x14 x15 (fun z4 z15 h => n15 z4 z15 Kn Kr h) Kr h
theorem n14_ok (x0 : List UInt8) (x1 : Int) (x4 : Addr) (x11 : Bool) (x12 : Bool) (x13 : Bool) (x14 : Bool) (x15 : Addr) (Kn : T0) (Kr : T0) (g : Env) (hg : E12 g x0 x1 x4 x11 x12 x13 x14 x15) (h : H) (hS : n14 x0 x1 x4 x11 x12 x13 x14 x15 Kn Kr h) : wpC none Tryd.prog 127 n13_c2 (Q0 Kn Kr) g h := by
  refine wpC_seq' (x := n14_c1) (y := n14_c2) (by kernel_rfl) (n16_ok x0 x1 x4 x11 x12 x13 x14 x15 (fun z4 z15 h => n15 z4 z15 Kn Kr h) Kr g hg h hS) ?_
  intro e g' h' hq
  cases e with
  | normal =>
    have hq : D13 (fun z4 z15 h => n15 z4 z15 Kn Kr h) g' h' := hq
    obtain ⟨y4, y15, hg', hq⟩ := D13_ok hq
    exact n15_ok y4 y15 Kn Kr g' hg' h' hq
  | _ => exact hq
def Q3 (Kn : T12) (Kr : T0) : XPost
  | .normal, g, h => D12 Kn g h
  | .ret, g, h => D0 Kr g h
  | _, _, _ => False
abbrev n13 (x0 : List UInt8) (x1 : Int) (x4 : Addr) (x6 : Int) (x11 : Bool) (x12 : Bool) (x13 : Bool) (x14 : Bool) (Kn : T0) (Kr : T0) (h : H) : Prop :=
  (0 ≤ x1 ∧ x1 < (x0.length : Int)) ∧ (cond x13 (cond x14 (newx h ⟨[(.int .u8 (0 : Int)), (.int .i64 (0 : Int)), (.int .i64 (0 : Int)), (.bool false), (.bool false)]⟩ 25 fun a375 h376 => stL a375 [(.int .u8 ((List.getD x0 (Int.toNat x1) 0).toNat : Int)), (.int .i64 x1), (.int .i64 x6), (.bool true), (.bool true)] 0 h376 fun h377 => n14 x0 x1 x4 x11 x12 x13 x14 a375 Kn Kr h377) (newx h ⟨[(.int .u8 (0 : Int)), (.int .i64 (0 : Int)), (.int .i64 (0 : Int)), (.bool false), (.bool false)]⟩ 25 fun a378 h379 => stL a378 [(.int .u8 ((List.getD x0 (Int.toNat x1) 0).toNat : Int)), (.int .i64 x1), (.int .i64 x6), (.bool true), (.bool false)] 0 h379 fun h380 => n14 x0 x1 x4 x11 x12 x13 x14 a378 Kn Kr h380)) (cond x14 (newx h ⟨[(.int .u8 (0 : Int)), (.int .i64 (0 : Int)), (.int .i64 (0 : Int)), (.bool false), (.bool false)]⟩ 25 fun a381 h382 => stL a381 [(.int .u8 ((List.getD x0 (Int.toNat x1) 0).toNat : Int)), (.int .i64 x1), (.int .i64 x6), (.bool false), (.bool true)] 0 h382 fun h383 => n14 x0 x1 x4 x11 x12 x13 x14 a381 Kn Kr h383) (newx h ⟨[(.int .u8 (0 : Int)), (.int .i64 (0 : Int)), (.int .i64 (0 : Int)), (.bool false), (.bool false)]⟩ 25 fun a384 h385 => stL a384 [(.int .u8 ((List.getD x0 (Int.toNat x1) 0).toNat : Int)), (.int .i64 x1), (.int .i64 x6), (.bool false), (.bool false)] 0 h385 fun h386 => n14 x0 x1 x4 x11 x12 x13 x14 a384 Kn Kr h386)))
theorem n13_ok (x0 : List UInt8) (x1 : Int) (x4 : Addr) (x6 : Int) (x11 : Bool) (x12 : Bool) (x13 : Bool) (x14 : Bool) (Kn : T0) (Kr : T0) (g : Env) (hg : E11 g x0 x1 x4 x6 x11 x12 x13 x14) (h : H) (hS : n13 x0 x1 x4 x6 x11 x12 x13 x14 Kn Kr h) : wpC none Tryd.prog 127 n12_c2 (Q0 Kn Kr) g h := by
  obtain ⟨hg0, hg1, hg4, hg6, hg11, hg12, hg13, hg14, hds⟩ := hg
  refine wpC_seq' (x := n13_c1) (y := n13_c2) (Q' := (Q3 (fun z0 z1 z4 z11 z12 z13 z14 z15 h => n14 z0 z1 z4 z11 z12 z13 z14 z15 Kn Kr h) Kr)) (by kernel_rfl) ?_ ?_
  · refine wpC_of_wpx (by kernel_rfl) (by kernel_rfl) (g' := ((((((((⟨g.v, []⟩ : Env).upd (some 0) (S x0)).upd (some 1) (.int .i64 x1)).upd (some 4) (.pointer (some x4))).upd (some 6) (.int .i64 x6)).upd (some 11) (.bool x11)).upd (some 12) (.bool x12)).upd (some 13) (.bool x13)).upd (some 14) (.bool x14)) (by rw [env_ds hds, upd_self hg0, upd_self hg1, upd_self hg4, upd_self hg6, upd_self hg11, upd_self hg12, upd_self hg13, upd_self hg14]) ?_
    have e : (n13 x0 x1 x4 x6 x11 x12 x13 x14 Kn Kr h) = wpx none Tryd.prog 127 n13_c1 (Q3 (fun z0 z1 z4 z11 z12 z13 z14 z15 h => n14 z0 z1 z4 z11 z12 z13 z14 z15 Kn Kr h) Kr) (((((((((⟨g.v, []⟩ : Env).upd (some 0) (S x0)).upd (some 1) (.int .i64 x1)).upd (some 4) (.pointer (some x4))).upd (some 6) (.int .i64 x6)).upd (some 11) (.bool x11)).upd (some 12) (.bool x12)).upd (some 13) (.bool x13)).upd (some 14) (.bool x14)) h := by kernel_rfl
    exact e ▸ hS
  · intro e g' h' hq
    cases e with
    | normal =>
      have hq : D12 (fun z0 z1 z4 z11 z12 z13 z14 z15 h => n14 z0 z1 z4 z11 z12 z13 z14 z15 Kn Kr h) g' h' := hq
      obtain ⟨y0, y1, y4, y11, y12, y13, y14, y15, hg', hq⟩ := D12_ok hq
      exact n14_ok y0 y1 y4 y11 y12 y13 y14 y15 Kn Kr g' hg' h' hq
    | _ => exact hq
def Q4 (Kn : T11) (Kr : T0) : XPost
  | .normal, g, h => D11 Kn g h
  | .ret, g, h => D0 Kr g h
  | _, _, _ => False
abbrev n12 (x0 : List UInt8) (x1 : Int) (x4 : Addr) (x6 : Int) (x9 : Bool) (x10 : Bool) (x11 : Bool) (x12 : Bool) (x13 : Bool) (Kn : T0) (Kr : T0) (h : H) : Prop :=
  cond x9 (n13 x0 x1 x4 x6 x11 x12 x13 false Kn Kr h) (cond x11 (cond x10 (n13 x0 x1 x4 x6 x11 x12 x13 true Kn Kr h) (cond x12 (n13 x0 x1 x4 x6 x11 x12 x13 true Kn Kr h) (n13 x0 x1 x4 x6 x11 x12 x13 false Kn Kr h))) (n13 x0 x1 x4 x6 x11 x12 x13 true Kn Kr h))
theorem n12_ok (x0 : List UInt8) (x1 : Int) (x4 : Addr) (x6 : Int) (x9 : Bool) (x10 : Bool) (x11 : Bool) (x12 : Bool) (x13 : Bool) (Kn : T0) (Kr : T0) (g : Env) (hg : E10 g x0 x1 x4 x6 x9 x10 x11 x12 x13) (h : H) (hS : n12 x0 x1 x4 x6 x9 x10 x11 x12 x13 Kn Kr h) : wpC none Tryd.prog 127 n11_c2 (Q0 Kn Kr) g h := by
  obtain ⟨hg0, hg1, hg4, hg6, hg9, hg10, hg11, hg12, hg13, hds⟩ := hg
  refine wpC_seq' (x := n12_c1) (y := n12_c2) (Q' := (Q4 (fun z0 z1 z4 z6 z11 z12 z13 z14 h => n13 z0 z1 z4 z6 z11 z12 z13 z14 Kn Kr h) Kr)) (by kernel_rfl) ?_ ?_
  · refine wpC_of_wpx (by kernel_rfl) (by kernel_rfl) (g' := (((((((((⟨g.v, []⟩ : Env).upd (some 0) (S x0)).upd (some 1) (.int .i64 x1)).upd (some 4) (.pointer (some x4))).upd (some 6) (.int .i64 x6)).upd (some 9) (.bool x9)).upd (some 10) (.bool x10)).upd (some 11) (.bool x11)).upd (some 12) (.bool x12)).upd (some 13) (.bool x13)) (by rw [env_ds hds, upd_self hg0, upd_self hg1, upd_self hg4, upd_self hg6, upd_self hg9, upd_self hg10, upd_self hg11, upd_self hg12, upd_self hg13]) ?_
    have e : (n12 x0 x1 x4 x6 x9 x10 x11 x12 x13 Kn Kr h) = wpx none Tryd.prog 127 n12_c1 (Q4 (fun z0 z1 z4 z6 z11 z12 z13 z14 h => n13 z0 z1 z4 z6 z11 z12 z13 z14 Kn Kr h) Kr) ((((((((((⟨g.v, []⟩ : Env).upd (some 0) (S x0)).upd (some 1) (.int .i64 x1)).upd (some 4) (.pointer (some x4))).upd (some 6) (.int .i64 x6)).upd (some 9) (.bool x9)).upd (some 10) (.bool x10)).upd (some 11) (.bool x11)).upd (some 12) (.bool x12)).upd (some 13) (.bool x13)) h := by kernel_rfl
    exact e ▸ hS
  · intro e g' h' hq
    cases e with
    | normal =>
      have hq : D11 (fun z0 z1 z4 z6 z11 z12 z13 z14 h => n13 z0 z1 z4 z6 z11 z12 z13 z14 Kn Kr h) g' h' := hq
      obtain ⟨y0, y1, y4, y6, y11, y12, y13, y14, hg', hq⟩ := D11_ok hq
      exact n13_ok y0 y1 y4 y6 y11 y12 y13 y14 Kn Kr g' hg' h' hq
    | _ => exact hq
def Q5 (Kn : T10) (Kr : T0) : XPost
  | .normal, g, h => D10 Kn g h
  | .ret, g, h => D0 Kr g h
  | _, _, _ => False
abbrev n11 (x0 : List UInt8) (x1 : Int) (x4 : Addr) (x6 : Int) (x9 : Bool) (x10 : Bool) (x11 : Bool) (x12 : Bool) (Kn : T0) (Kr : T0) (h : H) : Prop :=
  cond x10 (n12 x0 x1 x4 x6 x9 x10 x11 x12 false Kn Kr h) (cond x12 (cond x9 (n12 x0 x1 x4 x6 x9 x10 x11 x12 true Kn Kr h) (cond x11 (n12 x0 x1 x4 x6 x9 x10 x11 x12 true Kn Kr h) (n12 x0 x1 x4 x6 x9 x10 x11 x12 false Kn Kr h))) (n12 x0 x1 x4 x6 x9 x10 x11 x12 true Kn Kr h))
theorem n11_ok (x0 : List UInt8) (x1 : Int) (x4 : Addr) (x6 : Int) (x9 : Bool) (x10 : Bool) (x11 : Bool) (x12 : Bool) (Kn : T0) (Kr : T0) (g : Env) (hg : E9 g x0 x1 x4 x6 x9 x10 x11 x12) (h : H) (hS : n11 x0 x1 x4 x6 x9 x10 x11 x12 Kn Kr h) : wpC none Tryd.prog 127 n10_c2 (Q0 Kn Kr) g h := by
  obtain ⟨hg0, hg1, hg4, hg6, hg9, hg10, hg11, hg12, hds⟩ := hg
  refine wpC_seq' (x := n11_c1) (y := n11_c2) (Q' := (Q5 (fun z0 z1 z4 z6 z9 z10 z11 z12 z13 h => n12 z0 z1 z4 z6 z9 z10 z11 z12 z13 Kn Kr h) Kr)) (by kernel_rfl) ?_ ?_
  · refine wpC_of_wpx (by kernel_rfl) (by kernel_rfl) (g' := ((((((((⟨g.v, []⟩ : Env).upd (some 0) (S x0)).upd (some 1) (.int .i64 x1)).upd (some 4) (.pointer (some x4))).upd (some 6) (.int .i64 x6)).upd (some 9) (.bool x9)).upd (some 10) (.bool x10)).upd (some 11) (.bool x11)).upd (some 12) (.bool x12)) (by rw [env_ds hds, upd_self hg0, upd_self hg1, upd_self hg4, upd_self hg6, upd_self hg9, upd_self hg10, upd_self hg11, upd_self hg12]) ?_
    have e : (n11 x0 x1 x4 x6 x9 x10 x11 x12 Kn Kr h) = wpx none Tryd.prog 127 n11_c1 (Q5 (fun z0 z1 z4 z6 z9 z10 z11 z12 z13 h => n12 z0 z1 z4 z6 z9 z10 z11 z12 z13 Kn Kr h) Kr) (((((((((⟨g.v, []⟩ : Env).upd (some 0) (S x0)).upd (some 1) (.int .i64 x1)).upd (some 4) (.pointer (some x4))).upd (some 6) (.int .i64 x6)).upd (some 9) (.bool x9)).upd (some 10) (.bool x10)).upd (some 11) (.bool x11)).upd (some 12) (.bool x12)) h := by kernel_rfl
    exact e ▸ hS
  · intro e g' h' hq
    cases e with
    | normal =>
      have hq : D10 (fun z0 z1 z4 z6 z9 z10 z11 z12 z13 h => n12 z0 z1 z4 z6 z9 z10 z11 z12 z13 Kn Kr h) g' h' := hq
      obtain ⟨y0, y1, y4, y6, y9, y10, y11, y12, y13, hg', hq⟩ := D10_ok hq
      exact n12_ok y0 y1 y4 y6 y9 y10 y11 y12 y13 Kn Kr g' hg' h' hq
    | _ => exact hq
def Q6 (Kn : T9) (Kr : T0) : XPost
  | .normal, g, h => D9 Kn g h
  | .ret, g, h => D0 Kr g h
  | _, _, _ => False
abbrev n10 (x0 : List UInt8) (x1 : Int) (x4 : Addr) (x6 : Int) (x8 : Int) (x9 : Bool) (x10 : Bool) (x11 : Bool) (Kn : T0) (Kr : T0) (h : H) : Prop :=
  HCalls Tryd.prog 23 ⟨[(.int .i32 x8)]⟩ h fun v387 h388 => vBool v387 fun b389 => cond b389 (n11 x0 x1 x4 x6 x9 x10 x11 true Kn Kr h388) (n11 x0 x1 x4 x6 x9 x10 x11 false Kn Kr h388)
theorem n10_ok (x0 : List UInt8) (x1 : Int) (x4 : Addr) (x6 : Int) (x8 : Int) (x9 : Bool) (x10 : Bool) (x11 : Bool) (Kn : T0) (Kr : T0) (g : Env) (hg : E8 g x0 x1 x4 x6 x8 x9 x10 x11) (h : H) (hS : n10 x0 x1 x4 x6 x8 x9 x10 x11 Kn Kr h) : wpC none Tryd.prog 127 n9_c2 (Q0 Kn Kr) g h := by
  obtain ⟨hg0, hg1, hg4, hg6, hg8, hg9, hg10, hg11, hds⟩ := hg
  refine wpC_seq' (x := n10_c1) (y := n10_c2) (Q' := (Q6 (fun z0 z1 z4 z6 z9 z10 z11 z12 h => n11 z0 z1 z4 z6 z9 z10 z11 z12 Kn Kr h) Kr)) (by kernel_rfl) ?_ ?_
  · refine wpC_of_wpx (by kernel_rfl) (by kernel_rfl) (g' := ((((((((⟨g.v, []⟩ : Env).upd (some 0) (S x0)).upd (some 1) (.int .i64 x1)).upd (some 4) (.pointer (some x4))).upd (some 6) (.int .i64 x6)).upd (some 8) (.int .i32 x8)).upd (some 9) (.bool x9)).upd (some 10) (.bool x10)).upd (some 11) (.bool x11)) (by rw [env_ds hds, upd_self hg0, upd_self hg1, upd_self hg4, upd_self hg6, upd_self hg8, upd_self hg9, upd_self hg10, upd_self hg11]) ?_
    have e : (n10 x0 x1 x4 x6 x8 x9 x10 x11 Kn Kr h) = wpx none Tryd.prog 127 n10_c1 (Q6 (fun z0 z1 z4 z6 z9 z10 z11 z12 h => n11 z0 z1 z4 z6 z9 z10 z11 z12 Kn Kr h) Kr) (((((((((⟨g.v, []⟩ : Env).upd (some 0) (S x0)).upd (some 1) (.int .i64 x1)).upd (some 4) (.pointer (some x4))).upd (some 6) (.int .i64 x6)).upd (some 8) (.int .i32 x8)).upd (some 9) (.bool x9)).upd (some 10) (.bool x10)).upd (some 11) (.bool x11)) h := by kernel_rfl
    exact e ▸ hS
  · intro e g' h' hq
    cases e with
    | normal =>
      have hq : D9 (fun z0 z1 z4 z6 z9 z10 z11 z12 h => n11 z0 z1 z4 z6 z9 z10 z11 z12 Kn Kr h) g' h' := hq
      obtain ⟨y0, y1, y4, y6, y9, y10, y11, y12, hg', hq⟩ := D9_ok hq
      exact n11_ok y0 y1 y4 y6 y9 y10 y11 y12 Kn Kr g' hg' h' hq
    | _ => exact hq
def Q7 (Kn : T8) (Kr : T0) : XPost
  | .normal, g, h => D8 Kn g h
  | .ret, g, h => D0 Kr g h
  | _, _, _ => False
abbrev n9 (x0 : List UInt8) (x1 : Int) (x4 : Addr) (x6 : Int) (x7 : Int) (x8 : Int) (x9 : Bool) (x10 : Bool) (Kn : T0) (Kr : T0) (h : H) : Prop :=
  HCalls Tryd.prog 23 ⟨[(.int .i32 x7)]⟩ h fun v390 h391 => vBool v390 fun b392 => cond b392 (n10 x0 x1 x4 x6 x8 x9 x10 true Kn Kr h391) (n10 x0 x1 x4 x6 x8 x9 x10 false Kn Kr h391)
theorem n9_ok (x0 : List UInt8) (x1 : Int) (x4 : Addr) (x6 : Int) (x7 : Int) (x8 : Int) (x9 : Bool) (x10 : Bool) (Kn : T0) (Kr : T0) (g : Env) (hg : E7 g x0 x1 x4 x6 x7 x8 x9 x10) (h : H) (hS : n9 x0 x1 x4 x6 x7 x8 x9 x10 Kn Kr h) : wpC none Tryd.prog 127 n8_c2 (Q0 Kn Kr) g h := by
  obtain ⟨hg0, hg1, hg4, hg6, hg7, hg8, hg9, hg10, hds⟩ := hg
  refine wpC_seq' (x := n9_c1) (y := n9_c2) (Q' := (Q7 (fun z0 z1 z4 z6 z8 z9 z10 z11 h => n10 z0 z1 z4 z6 z8 z9 z10 z11 Kn Kr h) Kr)) (by kernel_rfl) ?_ ?_
  · refine wpC_of_wpx (by kernel_rfl) (by kernel_rfl) (g' := ((((((((⟨g.v, []⟩ : Env).upd (some 0) (S x0)).upd (some 1) (.int .i64 x1)).upd (some 4) (.pointer (some x4))).upd (some 6) (.int .i64 x6)).upd (some 7) (.int .i32 x7)).upd (some 8) (.int .i32 x8)).upd (some 9) (.bool x9)).upd (some 10) (.bool x10)) (by rw [env_ds hds, upd_self hg0, upd_self hg1, upd_self hg4, upd_self hg6, upd_self hg7, upd_self hg8, upd_self hg9, upd_self hg10]) ?_
    have e : (n9 x0 x1 x4 x6 x7 x8 x9 x10 Kn Kr h) = wpx none Tryd.prog 127 n9_c1 (Q7 (fun z0 z1 z4 z6 z8 z9 z10 z11 h => n10 z0 z1 z4 z6 z8 z9 z10 z11 Kn Kr h) Kr) (((((((((⟨g.v, []⟩ : Env).upd (some 0) (S x0)).upd (some 1) (.int .i64 x1)).upd (some 4) (.pointer (some x4))).upd (some 6) (.int .i64 x6)).upd (some 7) (.int .i32 x7)).upd (some 8) (.int .i32 x8)).upd (some 9) (.bool x9)).upd (some 10) (.bool x10)) h := by kernel_rfl
    exact e ▸ hS
  · intro e g' h' hq
    cases e with
    | normal =>
      have hq : D8 (fun z0 z1 z4 z6 z8 z9 z10 z11 h => n10 z0 z1 z4 z6 z8 z9 z10 z11 Kn Kr h) g' h' := hq
      obtain ⟨y0, y1, y4, y6, y8, y9, y10, y11, hg', hq⟩ := D8_ok hq
      exact n10_ok y0 y1 y4 y6 y8 y9 y10 y11 Kn Kr g' hg' h' hq
    | _ => exact hq
def Q8 (Kn : T7) (Kr : T0) : XPost
  | .normal, g, h => D7 Kn g h
  | .ret, g, h => D0 Kr g h
  | _, _, _ => False
abbrev n8 (x0 : List UInt8) (x1 : Int) (x4 : Addr) (x6 : Int) (x7 : Int) (x8 : Int) (x9 : Bool) (Kn : T0) (Kr : T0) (h : H) : Prop :=
  HCalls Tryd.prog 22 ⟨[(.int .i32 x8)]⟩ h fun v393 h394 => vBool v393 fun b395 => cond b395 (n9 x0 x1 x4 x6 x7 x8 x9 true Kn Kr h394) (n9 x0 x1 x4 x6 x7 x8 x9 false Kn Kr h394)
theorem n8_ok (x0 : List UInt8) (x1 : Int) (x4 : Addr) (x6 : Int) (x7 : Int) (x8 : Int) (x9 : Bool) (Kn : T0) (Kr : T0) (g : Env) (hg : E6 g x0 x1 x4 x6 x7 x8 x9) (h : H) (hS : n8 x0 x1 x4 x6 x7 x8 x9 Kn Kr h) : wpC none Tryd.prog 127 n7_c2 (Q0 Kn Kr) g h := by
  obtain ⟨hg0, hg1, hg4, hg6, hg7, hg8, hg9, hds⟩ := hg
  refine wpC_seq' (x := n8_c1) (y := n8_c2) (Q' := (Q8 (fun z0 z1 z4 z6 z7 z8 z9 z10 h => n9 z0 z1 z4 z6 z7 z8 z9 z10 Kn Kr h) Kr)) (by kernel_rfl) ?_ ?_
  · refine wpC_of_wpx (by kernel_rfl) (by kernel_rfl) (g' := (((((((⟨g.v, []⟩ : Env).upd (some 0) (S x0)).upd (some 1) (.int .i64 x1)).upd (some 4) (.pointer (some x4))).upd (some 6) (.int .i64 x6)).upd (some 7) (.int .i32 x7)).upd (some 8) (.int .i32 x8)).upd (some 9) (.bool x9)) (by rw [env_ds hds, upd_self hg0, upd_self hg1, upd_self hg4, upd_self hg6, upd_self hg7, upd_self hg8, upd_self hg9]) ?_
    have e : (n8 x0 x1 x4 x6 x7 x8 x9 Kn Kr h) = wpx none Tryd.prog 127 n8_c1 (Q8 (fun z0 z1 z4 z6 z7 z8 z9 z10 h => n9 z0 z1 z4 z6 z7 z8 z9 z10 Kn Kr h) Kr) ((((((((⟨g.v, []⟩ : Env).upd (some 0) (S x0)).upd (some 1) (.int .i64 x1)).upd (some 4) (.pointer (some x4))).upd (some 6) (.int .i64 x6)).upd (some 7) (.int .i32 x7)).upd (some 8) (.int .i32 x8)).upd (some 9) (.bool x9)) h := by kernel_rfl
    exact e ▸ hS
  · intro e g' h' hq
    cases e with
    | normal =>
      have hq : D7 (fun z0 z1 z4 z6 z7 z8 z9 z10 h => n9 z0 z1 z4 z6 z7 z8 z9 z10 Kn Kr h) g' h' := hq
      obtain ⟨y0, y1, y4, y6, y7, y8, y9, y10, hg', hq⟩ := D7_ok hq
      exact n9_ok y0 y1 y4 y6 y7 y8 y9 y10 Kn Kr g' hg' h' hq
    | _ => exact hq
def Q9 (Kn : T6) (Kr : T0) : XPost
  | .normal, g, h => D6 Kn g h
  | .ret, g, h => D0 Kr g h
  | _, _, _ => False
abbrev n7 (x0 : List UInt8) (x1 : Int) (x4 : Addr) (x6 : Int) (x7 : Int) (x8 : Int) (Kn : T0) (Kr : T0) (h : H) : Prop :=
  HCalls Tryd.prog 22 ⟨[(.int .i32 x7)]⟩ h fun v396 h397 => vBool v396 fun b398 => cond b398 (n8 x0 x1 x4 x6 x7 x8 true Kn Kr h397) (n8 x0 x1 x4 x6 x7 x8 false Kn Kr h397)
theorem n7_ok (x0 : List UInt8) (x1 : Int) (x4 : Addr) (x6 : Int) (x7 : Int) (x8 : Int) (Kn : T0) (Kr : T0) (g : Env) (hg : E5 g x0 x1 x4 x6 x7 x8) (h : H) (hS : n7 x0 x1 x4 x6 x7 x8 Kn Kr h) : wpC none Tryd.prog 127 n6_c2 (Q0 Kn Kr) g h := by
  obtain ⟨hg0, hg1, hg4, hg6, hg7, hg8, hds⟩ := hg
  refine wpC_seq' (x := n7_c1) (y := n7_c2) (Q' := (Q9 (fun z0 z1 z4 z6 z7 z8 z9 h => n8 z0 z1 z4 z6 z7 z8 z9 Kn Kr h) Kr)) (by kernel_rfl) ?_ ?_
  · refine wpC_of_wpx (by kernel_rfl) (by kernel_rfl) (g' := ((((((⟨g.v, []⟩ : Env).upd (some 0) (S x0)).upd (some 1) (.int .i64 x1)).upd (some 4) (.pointer (some x4))).upd (some 6) (.int .i64 x6)).upd (some 7) (.int .i32 x7)).upd (some 8) (.int .i32 x8)) (by rw [env_ds hds, upd_self hg0, upd_self hg1, upd_self hg4, upd_self hg6, upd_self hg7, upd_self hg8]) ?_
    have e : (n7 x0 x1 x4 x6 x7 x8 Kn Kr h) = wpx none Tryd.prog 127 n7_c1 (Q9 (fun z0 z1 z4 z6 z7 z8 z9 h => n8 z0 z1 z4 z6 z7 z8 z9 Kn Kr h) Kr) (((((((⟨g.v, []⟩ : Env).upd (some 0) (S x0)).upd (some 1) (.int .i64 x1)).upd (some 4) (.pointer (some x4))).upd (some 6) (.int .i64 x6)).upd (some 7) (.int .i32 x7)).upd (some 8) (.int .i32 x8)) h := by kernel_rfl
    exact e ▸ hS
  · intro e g' h' hq
    cases e with
    | normal =>
      have hq : D6 (fun z0 z1 z4 z6 z7 z8 z9 h => n8 z0 z1 z4 z6 z7 z8 z9 Kn Kr h) g' h' := hq
      obtain ⟨y0, y1, y4, y6, y7, y8, y9, hg', hq⟩ := D6_ok hq
      exact n8_ok y0 y1 y4 y6 y7 y8 y9 Kn Kr g' hg' h' hq
    | _ => exact hq
def Q10 (Kn : T5) (Kr : T0) : XPost
  | .normal, g, h => D5 Kn g h
  | .ret, g, h => D0 Kr g h
  | _, _, _ => False
abbrev n6 (x0 : List UInt8) (x1 : Int) (x4 : Addr) (x6 : Int) (x7 : Int) (Kn : T0) (Kr : T0) (h : H) : Prop :=
  Rng .i64 (x1 + x6) ∧ (HCalls Tryd.prog 21 ⟨[(S x0), (.int .i64 (x1 + x6))]⟩ h fun v399 h400 => vInt .i32 v399 fun i401 => n7 x0 x1 x4 x6 x7 i401 Kn Kr h400)
theorem n6_ok (x0 : List UInt8) (x1 : Int) (x4 : Addr) (x6 : Int) (x7 : Int) (Kn : T0) (Kr : T0) (g : Env) (hg : E4 g x0 x1 x4 x6 x7) (h : H) (hS : n6 x0 x1 x4 x6 x7 Kn Kr h) : wpC none Tryd.prog 127 n5_c2 (Q0 Kn Kr) g h := by
  obtain ⟨hg0, hg1, hg4, hg6, hg7, hds⟩ := hg
  refine wpC_seq' (x := n6_c1) (y := n6_c2) (Q' := (Q10 (fun z0 z1 z4 z6 z7 z8 h => n7 z0 z1 z4 z6 z7 z8 Kn Kr h) Kr)) (by kernel_rfl) ?_ ?_
  · refine wpC_of_wpx (by kernel_rfl) (by kernel_rfl) (g' := (((((⟨g.v, []⟩ : Env).upd (some 0) (S x0)).upd (some 1) (.int .i64 x1)).upd (some 4) (.pointer (some x4))).upd (some 6) (.int .i64 x6)).upd (some 7) (.int .i32 x7)) (by rw [env_ds hds, upd_self hg0, upd_self hg1, upd_self hg4, upd_self hg6, upd_self hg7]) ?_
    have e : (n6 x0 x1 x4 x6 x7 Kn Kr h) = wpx none Tryd.prog 127 n6_c1 (Q10 (fun z0 z1 z4 z6 z7 z8 h => n7 z0 z1 z4 z6 z7 z8 Kn Kr h) Kr) ((((((⟨g.v, []⟩ : Env).upd (some 0) (S x0)).upd (some 1) (.int .i64 x1)).upd (some 4) (.pointer (some x4))).upd (some 6) (.int .i64 x6)).upd (some 7) (.int .i32 x7)) h := by kernel_rfl
    exact e ▸ hS
  · intro e g' h' hq
    cases e with
    | normal =>
      have hq : D5 (fun z0 z1 z4 z6 z7 z8 h => n7 z0 z1 z4 z6 z7 z8 Kn Kr h) g' h' := hq
      obtain ⟨y0, y1, y4, y6, y7, y8, hg', hq⟩ := D5_ok hq
      exact n7_ok y0 y1 y4 y6 y7 y8 Kn Kr g' hg' h' hq
    | _ => exact hq
def Q11 (Kn : T4) (Kr : T0) : XPost
  | .normal, g, h => D4 Kn g h
  | .ret, g, h => D0 Kr g h
  | _, _, _ => False
abbrev n5 (x0 : List UInt8) (x1 : Int) (x4 : Addr) (x6 : Int) (Kn : T0) (Kr : T0) (h : H) : Prop :=
  HCalls Tryd.prog 20 ⟨[(S x0), (.int .i64 x1)]⟩ h fun v402 h403 => vInt .i32 v402 fun i404 => n6 x0 x1 x4 x6 i404 Kn Kr h403
theorem n5_ok (x0 : List UInt8) (x1 : Int) (x4 : Addr) (x6 : Int) (Kn : T0) (Kr : T0) (g : Env) (hg : E3 g x0 x1 x4 x6) (h : H) (hS : n5 x0 x1 x4 x6 Kn Kr h) : wpC none Tryd.prog 127 n4_c2 (Q0 Kn Kr) g h := by
  obtain ⟨hg0, hg1, hg4, hg6, hds⟩ := hg
  refine wpC_seq' (x := n5_c1) (y := n5_c2) (Q' := (Q11 (fun z0 z1 z4 z6 z7 h => n6 z0 z1 z4 z6 z7 Kn Kr h) Kr)) (by kernel_rfl) ?_ ?_
  · refine wpC_of_wpx (by kernel_rfl) (by kernel_rfl) (g' := ((((⟨g.v, []⟩ : Env).upd (some 0) (S x0)).upd (some 1) (.int .i64 x1)).upd (some 4) (.pointer (some x4))).upd (some 6) (.int .i64 x6)) (by rw [env_ds hds, upd_self hg0, upd_self hg1, upd_self hg4, upd_self hg6]) ?_
    have e : (n5 x0 x1 x4 x6 Kn Kr h) = wpx none Tryd.prog 127 n5_c1 (Q11 (fun z0 z1 z4 z6 z7 h => n6 z0 z1 z4 z6 z7 Kn Kr h) Kr) (((((⟨g.v, []⟩ : Env).upd (some 0) (S x0)).upd (some 1) (.int .i64 x1)).upd (some 4) (.pointer (some x4))).upd (some 6) (.int .i64 x6)) h := by kernel_rfl
    exact e ▸ hS
  · intro e g' h' hq
    cases e with
    | normal =>
      have hq : D4 (fun z0 z1 z4 z6 z7 h => n6 z0 z1 z4 z6 z7 Kn Kr h) g' h' := hq
      obtain ⟨y0, y1, y4, y6, y7, hg', hq⟩ := D4_ok hq
      exact n6_ok y0 y1 y4 y6 y7 Kn Kr g' hg' h' hq
    | _ => exact hq
def Q12 (Kn : T3) (Kr : T0) : XPost
  | .normal, g, h => D3 Kn g h
  | .ret, g, h => D0 Kr g h
  | _, _, _ => False
noncomputable def n18_c1 : Code := cFst n4_c1
def Q13 (Kn : T3) (Ke0 : T3) (Kr : T0) : XPost
  | .normal, g, h => D3 Kn g h
  | .ret, g, h => D0 Kr g h
  | .exit id, g, h => cond (Nat.beq id 0) (D3 Ke0 g h) (False)
  | _, _, _ => False
noncomputable def n19_c1 : Code := cFst n18_c1
def n19_L (Kn : T3) (Ke0 : T3) (Kr : T0) : Nat → (List UInt8) → Int → Addr → Int → H → Prop
  | 0 => fun _ _ _ _ _ => False
  | N + 1 => fun x0 x1 x4 x6 h => Rng .i64 (x1 + x6) ∧ (Spl ((x1 + x6) < (x0.length : Int)) (Rng .i64 (x1 + x6) ∧ ((0 ≤ (x1 + x6) ∧ (x1 + x6) < (x0.length : Int)) ∧ ((0 ≤ x1 ∧ x1 < (x0.length : Int)) ∧ (Spl (((List.getD x0 (Int.toNat (x1 + x6)) 0).toNat : Int) = ((List.getD x0 (Int.toNat x1) 0).toNat : Int)) (Rng .i64 (x6 + (1 : Int)) ∧ (n19_L Kn Ke0 Kr N x0 x1 x4 (x6 + (1 : Int)) h)) (Ke0 x0 x1 x4 x6 h))))) (Ke0 x0 x1 x4 x6 h))
abbrev n19 (x0 : List UInt8) (x1 : Int) (x4 : Addr) (x6 : Int) (Kn : T3) (Ke0 : T3) (Kr : T0) (h : H) : Prop := ∃ N, n19_L Kn Ke0 Kr N x0 x1 x4 x6 h
theorem n19_ok (x0 : List UInt8) (x1 : Int) (x4 : Addr) (x6 : Int) (Kn : T3) (Ke0 : T3) (Kr : T0) (g : Env) (hg : E3 g x0 x1 x4 x6) (h : H) (hS : n19 x0 x1 x4 x6 Kn Ke0 Kr h) : wpC none Tryd.prog 127 n18_c1 (Q13 Kn Ke0 Kr) g h := by
  obtain ⟨N0, hS⟩ := hS
  refine wpC_loop' (x := n19_c1) (by kernel_rfl) (fun k g h => ∃ (x0 : List UInt8) (x1 : Int) (x4 : Addr) (x6 : Int), E3 g x0 x1 x4 x6 ∧ n19_L Kn Ke0 Kr k x0 x1 x4 x6 h) (fun g h hr => ?_) (fun N g h hr => ?_) N0 ⟨x0, x1, x4, x6, hg, hS⟩
  · obtain ⟨x0, x1, x4, x6, hg, hS⟩ := hr
    exact hS.elim
  · obtain ⟨x0, x1, x4, x6, hg, hS⟩ := hr
    have hw : wpC none Tryd.prog 127 n19_c1 (Q13 (fun z0 z1 z4 z6 h => n19_L Kn Ke0 Kr N z0 z1 z4 z6 h) Ke0 Kr) g h := by
      obtain ⟨hg0, hg1, hg4, hg6, hds⟩ := hg
      refine wpC_of_wpx (by kernel_rfl) (by kernel_rfl) (g' := ((((⟨g.v, []⟩ : Env).upd (some 0) (S x0)).upd (some 1) (.int .i64 x1)).upd (some 4) (.pointer (some x4))).upd (some 6) (.int .i64 x6)) (by rw [env_ds hds, upd_self hg0, upd_self hg1, upd_self hg4, upd_self hg6]) ?_
      have e : (n19_L Kn Ke0 Kr (N + 1) x0 x1 x4 x6 h) = wpx none Tryd.prog 127 n19_c1 (Q13 (fun z0 z1 z4 z6 h => n19_L Kn Ke0 Kr N z0 z1 z4 z6 h) Ke0 Kr) (((((⟨g.v, []⟩ : Env).upd (some 0) (S x0)).upd (some 1) (.int .i64 x1)).upd (some 4) (.pointer (some x4))).upd (some 6) (.int .i64 x6)) h := by kernel_rfl
      exact e ▸ hS
    refine hw.mono ?_
    intro e g' h' hq
    cases e with
    | normal => exact D3_ok (K := (fun z0 z1 z4 z6 h => n19_L Kn Ke0 Kr N z0 z1 z4 z6 h)) hq
    | _ => exact hq
abbrev n18 (x0 : List UInt8) (x1 : Int) (x4 : Addr) (x6 : Int) (Kn : T3) (Kr : T0) (h : H) : Prop := n19 x0 x1 x4 x6 Kn Kn Kr h
theorem n18_ok (x0 : List UInt8) (x1 : Int) (x4 : Addr) (x6 : Int) (Kn : T3) (Kr : T0) (g : Env) (hg : E3 g x0 x1 x4 x6) (h : H) (hS : n18 x0 x1 x4 x6 Kn Kr h) : wpC none Tryd.prog 127 n4_c1 (Q12 Kn Kr) g h := by
  refine wpC_block' (id := 0) (x := n18_c1) (by kernel_rfl) (n19_ok x0 x1 x4 x6 Kn Kn Kr g hg h hS) ?_
  intro e g' h' hq
  cases e <;> exact hq
abbrev n4 (x0 : List UInt8) (x1 : Int) (x4 : Addr) (x6 : Int) (Kn : T0) (Kr : T0) (h : H) : Prop := n18 x0 x1 x4 x6 (fun z0 z1 z4 z6 h => n5 z0 z1 z4 z6 Kn Kr h) Kr h
theorem n4_ok (x0 : List UInt8) (x1 : Int) (x4 : Addr) (x6 : Int) (Kn : T0) (Kr : T0) (g : Env) (hg : E3 g x0 x1 x4 x6) (h : H) (hS : n4 x0 x1 x4 x6 Kn Kr h) : wpC none Tryd.prog 127 n3_c2 (Q0 Kn Kr) g h := by
  refine wpC_seq' (x := n4_c1) (y := n4_c2) (by kernel_rfl) (n18_ok x0 x1 x4 x6 (fun z0 z1 z4 z6 h => n5 z0 z1 z4 z6 Kn Kr h) Kr g hg h hS) ?_
  intro e g' h' hq
  cases e with
  | normal =>
    have hq : D3 (fun z0 z1 z4 z6 h => n5 z0 z1 z4 z6 Kn Kr h) g' h' := hq
    obtain ⟨y0, y1, y4, y6, hg', hq⟩ := D3_ok hq
    exact n5_ok y0 y1 y4 y6 Kn Kr g' hg' h' hq
  | _ => exact hq
abbrev n3 (x0 : List UInt8) (x1 : Int) (x4 : Addr) (Kn : T0) (Kr : T0) (h : H) : Prop :=
  n4 x0 x1 x4 (0 : Int) Kn Kr h
theorem n3_ok (x0 : List UInt8) (x1 : Int) (x4 : Addr) (Kn : T0) (Kr : T0) (g : Env) (hg : E2 g x0 x1 x4) (h : H) (hS : n3 x0 x1 x4 Kn Kr h) : wpC none Tryd.prog 127 n2_c2 (Q0 Kn Kr) g h := by
  obtain ⟨hg0, hg1, hg4, hds⟩ := hg
  refine wpC_seq' (x := n3_c1) (y := n3_c2) (Q' := (Q12 (fun z0 z1 z4 z6 h => n4 z0 z1 z4 z6 Kn Kr h) Kr)) (by kernel_rfl) ?_ ?_
  · refine wpC_of_wpx (by kernel_rfl) (by kernel_rfl) (g' := (((⟨g.v, []⟩ : Env).upd (some 0) (S x0)).upd (some 1) (.int .i64 x1)).upd (some 4) (.pointer (some x4))) (by rw [env_ds hds, upd_self hg0, upd_self hg1, upd_self hg4]) ?_
    have e : (n3 x0 x1 x4 Kn Kr h) = wpx none Tryd.prog 127 n3_c1 (Q12 (fun z0 z1 z4 z6 h => n4 z0 z1 z4 z6 Kn Kr h) Kr) ((((⟨g.v, []⟩ : Env).upd (some 0) (S x0)).upd (some 1) (.int .i64 x1)).upd (some 4) (.pointer (some x4))) h := by kernel_rfl
    exact e ▸ hS
  · intro e g' h' hq
    cases e with
    | normal =>
      have hq : D3 (fun z0 z1 z4 z6 h => n4 z0 z1 z4 z6 Kn Kr h) g' h' := hq
      obtain ⟨y0, y1, y4, y6, hg', hq⟩ := D3_ok hq
      exact n4_ok y0 y1 y4 y6 Kn Kr g' hg' h' hq
    | _ => exact hq
def Q14 (Kn : T2) (Kr : T0) : XPost
  | .normal, g, h => D2 Kn g h
  | .ret, g, h => D0 Kr g h
  | _, _, _ => False
abbrev n2 (x0 : List UInt8) (x1 : Int) (x4 : Addr) (Kn : T0) (Kr : T0) (h : H) : Prop :=
  Spl (x1 < (0 : Int)) (stL x4 [(.int .u8 (0 : Int)), (.int .i64 (0 : Int)), (.int .i64 (0 : Int)), (.bool false), (.bool false)] 0 h fun h405 => Kr x4 false h405) (Spl (x1 ≥ (x0.length : Int)) (stL x4 [(.int .u8 (0 : Int)), (.int .i64 (0 : Int)), (.int .i64 (0 : Int)), (.bool false), (.bool false)] 0 h fun h406 => Kr x4 false h406) ((0 ≤ x1 ∧ x1 < (x0.length : Int)) ∧ (Spl (((List.getD x0 (Int.toNat x1) 0).toNat : Int) = (42 : Int)) (n3 x0 x1 x4 Kn Kr h) ((0 ≤ x1 ∧ x1 < (x0.length : Int)) ∧ (Spl (((List.getD x0 (Int.toNat x1) 0).toNat : Int) = (95 : Int)) (n3 x0 x1 x4 Kn Kr h) (stL x4 [(.int .u8 (0 : Int)), (.int .i64 (0 : Int)), (.int .i64 (0 : Int)), (.bool false), (.bool false)] 0 h fun h407 => Kr x4 false h407))))))
theorem n2_ok (x0 : List UInt8) (x1 : Int) (x4 : Addr) (Kn : T0) (Kr : T0) (g : Env) (hg : E2 g x0 x1 x4) (h : H) (hS : n2 x0 x1 x4 Kn Kr h) : wpC none Tryd.prog 127 n1_c2 (Q0 Kn Kr) g h := by
  obtain ⟨hg0, hg1, hg4, hds⟩ := hg
  refine wpC_seq' (x := n2_c1) (y := n2_c2) (Q' := (Q14 (fun z0 z1 z4 h => n3 z0 z1 z4 Kn Kr h) Kr)) (by kernel_rfl) ?_ ?_
  · refine wpC_of_wpx (by kernel_rfl) (by kernel_rfl) (g' := (((⟨g.v, []⟩ : Env).upd (some 0) (S x0)).upd (some 1) (.int .i64 x1)).upd (some 4) (.pointer (some x4))) (by rw [env_ds hds, upd_self hg0, upd_self hg1, upd_self hg4]) ?_
    have e : (n2 x0 x1 x4 Kn Kr h) = wpx none Tryd.prog 127 n2_c1 (Q14 (fun z0 z1 z4 h => n3 z0 z1 z4 Kn Kr h) Kr) ((((⟨g.v, []⟩ : Env).upd (some 0) (S x0)).upd (some 1) (.int .i64 x1)).upd (some 4) (.pointer (some x4))) h := by kernel_rfl
    exact e ▸ hS
  · intro e g' h' hq
    cases e with
    | normal =>
      have hq : D2 (fun z0 z1 z4 h => n3 z0 z1 z4 Kn Kr h) g' h' := hq
      obtain ⟨y0, y1, y4, hg', hq⟩ := D2_ok hq
      exact n3_ok y0 y1 y4 Kn Kr g' hg' h' hq
    | _ => exact hq
abbrev n1 (x0 : List UInt8) (x1 : Int) (Kn : T0) (Kr : T0) (h : H) : Prop :=
  newx h ⟨[(.int .u8 (0 : Int)), (.int .i64 (0 : Int)), (.int .i64 (0 : Int)), (.bool false), (.bool false)]⟩ 25 fun a408 h409 => n2 x0 x1 a408 Kn Kr h409
theorem n1_ok (x0 : List UInt8) (x1 : Int) (Kn : T0) (Kr : T0) (g : Env) (hg : E1 g x0 x1) (h : H) (hS : n1 x0 x1 Kn Kr h) : wpC none Tryd.prog 127 code (Q0 Kn Kr) g h := by
  obtain ⟨hg0, hg1, hds⟩ := hg
  refine wpC_seq' (x := n1_c1) (y := n1_c2) (Q' := (Q14 (fun z0 z1 z4 h => n2 z0 z1 z4 Kn Kr h) Kr)) (by kernel_rfl) ?_ ?_
  · refine wpC_of_wpx (by kernel_rfl) (by kernel_rfl) (g' := ((⟨g.v, []⟩ : Env).upd (some 0) (S x0)).upd (some 1) (.int .i64 x1)) (by rw [env_ds hds, upd_self hg0, upd_self hg1]) ?_
    have e : (n1 x0 x1 Kn Kr h) = wpx none Tryd.prog 127 n1_c1 (Q14 (fun z0 z1 z4 h => n2 z0 z1 z4 Kn Kr h) Kr) (((⟨g.v, []⟩ : Env).upd (some 0) (S x0)).upd (some 1) (.int .i64 x1)) h := by kernel_rfl
    exact e ▸ hS
  · intro e g' h' hq
    cases e with
    | normal =>
      have hq : D2 (fun z0 z1 z4 h => n2 z0 z1 z4 Kn Kr h) g' h' := hq
      obtain ⟨y0, y1, y4, hg', hq⟩ := D2_ok hq
      exact n2_ok y0 y1 y4 Kn Kr g' hg' h' hq
    | _ => exact hq
/-- WHAT tympan/tympanref27.Read ASKS -/
abbrev asks (x0 : List UInt8) (x1 : Int) (K : Value → H → Prop) (h : H) : Prop := n1 x0 x1 (fun y4 y5 h => ∃ i410, cell h ((y4).add 0) = some (.int .u8 i410) ∧ (∃ i411, cell h ((y4).add 1) = some (.int .i64 i411) ∧ (∃ i412, cell h ((y4).add 2) = some (.int .i64 i412) ∧ (∃ b413, cell h ((y4).add 3) = some (.bool b413) ∧ (∃ b414, cell h ((y4).add 4) = some (.bool b414) ∧ (K (.tuple ⟨[(.agg ⟨[(.int .u8 i410), (.int .i64 i411), (.int .i64 i412), (.bool b413), (.bool b414)]⟩), (.bool y5)]⟩) h)))))) (fun y4 y5 h => ∃ i410, cell h ((y4).add 0) = some (.int .u8 i410) ∧ (∃ i411, cell h ((y4).add 1) = some (.int .i64 i411) ∧ (∃ i412, cell h ((y4).add 2) = some (.int .i64 i412) ∧ (∃ b413, cell h ((y4).add 3) = some (.bool b413) ∧ (∃ b414, cell h ((y4).add 4) = some (.bool b414) ∧ (K (.tuple ⟨[(.agg ⟨[(.int .u8 i410), (.int .i64 i411), (.int .i64 i412), (.bool b413), (.bool b414)]⟩), (.bool y5)]⟩) h)))))) h
theorem ok (x0 : List UInt8) (x1 : Int) (K : Value → H → Prop) (h : H) (hS : asks x0 x1 K h) : HCalls Tryd.prog 8 ⟨[(S x0), (.int .i64 x1)]⟩ h K := by
  refine calls_of_wpC (c := code) Tryd.func8 (by kernel_rfl) (Nat.le_of_ble_eq_true (by kernel_rfl)) ?_
  refine (n1_ok x0 x1 (fun y4 y5 h => ∃ i410, cell h ((y4).add 0) = some (.int .u8 i410) ∧ (∃ i411, cell h ((y4).add 1) = some (.int .i64 i411) ∧ (∃ i412, cell h ((y4).add 2) = some (.int .i64 i412) ∧ (∃ b413, cell h ((y4).add 3) = some (.bool b413) ∧ (∃ b414, cell h ((y4).add 4) = some (.bool b414) ∧ (K (.tuple ⟨[(.agg ⟨[(.int .u8 i410), (.int .i64 i411), (.int .i64 i412), (.bool b413), (.bool b414)]⟩), (.bool y5)]⟩) h)))))) (fun y4 y5 h => ∃ i410, cell h ((y4).add 0) = some (.int .u8 i410) ∧ (∃ i411, cell h ((y4).add 1) = some (.int .i64 i411) ∧ (∃ i412, cell h ((y4).add 2) = some (.int .i64 i412) ∧ (∃ b413, cell h ((y4).add 3) = some (.bool b413) ∧ (∃ b414, cell h ((y4).add 4) = some (.bool b414) ∧ (K (.tuple ⟨[(.agg ⟨[(.int .u8 i410), (.int .i64 i411), (.int .i64 i412), (.bool b413), (.bool b414)]⟩), (.bool y5)]⟩) h)))))) (env0 [(S x0), (.int .i64 x1)]) ⟨rfl, rfl, rfl⟩ h hS).mono ?_
  intro e g' h' hq
  cases e with
  | normal =>
    have hq : D0 (fun y4 y5 h => ∃ i410, cell h ((y4).add 0) = some (.int .u8 i410) ∧ (∃ i411, cell h ((y4).add 1) = some (.int .i64 i411) ∧ (∃ i412, cell h ((y4).add 2) = some (.int .i64 i412) ∧ (∃ b413, cell h ((y4).add 3) = some (.bool b413) ∧ (∃ b414, cell h ((y4).add 4) = some (.bool b414) ∧ (K (.tuple ⟨[(.agg ⟨[(.int .u8 i410), (.int .i64 i411), (.int .i64 i412), (.bool b413), (.bool b414)]⟩), (.bool y5)]⟩) h)))))) g' h' := hq
    obtain ⟨y4, y5, ⟨hg4, hg5, hd⟩, hq⟩ := D0_ok hq
    show leaveX g'.ds h' _
    rw [hd]
    show vAddr (g'.v 4) fun a415 => ldx Tryd.prog 25 a415 h' fun v416 => K (.tuple ⟨[v416, (g'.v 5)]⟩) h'
    rw [hg4, hg5]
    exact hq
  | ret =>
    have hq : D0 (fun y4 y5 h => ∃ i410, cell h ((y4).add 0) = some (.int .u8 i410) ∧ (∃ i411, cell h ((y4).add 1) = some (.int .i64 i411) ∧ (∃ i412, cell h ((y4).add 2) = some (.int .i64 i412) ∧ (∃ b413, cell h ((y4).add 3) = some (.bool b413) ∧ (∃ b414, cell h ((y4).add 4) = some (.bool b414) ∧ (K (.tuple ⟨[(.agg ⟨[(.int .u8 i410), (.int .i64 i411), (.int .i64 i412), (.bool b413), (.bool b414)]⟩), (.bool y5)]⟩) h)))))) g' h' := hq
    obtain ⟨y4, y5, ⟨hg4, hg5, hd⟩, hq⟩ := D0_ok hq
    show leaveX g'.ds h' _
    rw [hd]
    show vAddr (g'.v 4) fun a415 => ldx Tryd.prog 25 a415 h' fun v416 => K (.tuple ⟨[v416, (g'.v 5)]⟩) h'
    rw [hg4, hg5]
    exact hq
  | _ => exact hq
end Sx.r27_Read

/-! ### tympan/tympanlaw27.known -/
namespace Sx.l27_known
noncomputable def code : Code := bodyOf Tryd.f9
abbrev T0 := Bool → H → Prop
def E0 (g : Env) (x0 : Bool) : Prop := g.v 0 = (.bool x0) ∧ g.ds = []
def D0 (K : T0) (g : Env) (h : H) : Prop := nilDs g.ds (vBool (g.v 0) fun b1 => K b1 h)
theorem D0_ok {K : T0} {g : Env} {h : H} (hq : D0 K g h) : ∃ (x0 : Bool), E0 g x0 ∧ K x0 h := by
  obtain ⟨hd, hq⟩ := nilDs_ok hq
  obtain ⟨y3, e2, q4⟩ := vBool_ok hq
  exact ⟨y3, ⟨e2, hd⟩, q4⟩
def Q0 (Kn : T0) (Kr : T0) : XPost
  | .normal, g, h => D0 Kn g h
  | .ret, g, h => D0 Kr g h
  | _, _, _ => False
abbrev T1 := H → Prop
def E1 (g : Env)  : Prop := g.ds = []
def D1 (K : T1) (g : Env) (h : H) : Prop := nilDs g.ds (K h)
theorem D1_ok {K : T1} {g : Env} {h : H} (hq : D1 K g h) : E1 g  ∧ K  h := by
  obtain ⟨hd, hq⟩ := nilDs_ok hq
  skip
  exact ⟨hd, hq⟩
noncomputable def n1_c1 : Code := cFst code
noncomputable def n1_c2 : Code := cSnd code
noncomputable def n2_c1 : Code := cFst n1_c2
noncomputable def n2_c2 : Code := cSnd n1_c2
abbrev T2 := (Option Addr) → Nat → Nat → H → Prop
def E2 (g : Env) (x1b : Option Addr) (x1n : Nat) (x1c : Nat) : Prop := g.v 1 = (.slice x1b x1n x1c) ∧ g.ds = []
def D2 (K : T2) (g : Env) (h : H) : Prop := nilDs g.ds (vSlice (g.v 1) fun s5b s5n s5c => K s5b s5n s5c h)
theorem D2_ok {K : T2} {g : Env} {h : H} (hq : D2 K g h) : ∃ (x1b : Option Addr) (x1n : Nat) (x1c : Nat), E2 g x1b x1n x1c ∧ K x1b x1n x1c h := by
  obtain ⟨hd, hq⟩ := nilDs_ok hq
  obtain ⟨y7b, y7n, y7c, e6, q8⟩ := vSlice_ok hq
  exact ⟨y7b, y7n, y7c, ⟨e6, hd⟩, q8⟩
noncomputable def n3_c1 : Code := cFst n2_c2
noncomputable def n3_c2 : Code := cSnd n2_c2
abbrev T3 := (Option Addr) → Nat → Nat → Addr → Bool → H → Prop
def E3 (g : Env) (x1b : Option Addr) (x1n : Nat) (x1c : Nat) (x2 : Addr) (x3 : Bool) : Prop := g.v 1 = (.slice x1b x1n x1c) ∧ g.v 2 = (.pointer (some x2)) ∧ g.v 3 = (.bool x3) ∧ g.ds = []
def D3 (K : T3) (g : Env) (h : H) : Prop := nilDs g.ds (vSlice (g.v 1) fun s9b s9n s9c => vAddr (g.v 2) fun a10 => vBool (g.v 3) fun b11 => K s9b s9n s9c a10 b11 h)
theorem D3_ok {K : T3} {g : Env} {h : H} (hq : D3 K g h) : ∃ (x1b : Option Addr) (x1n : Nat) (x1c : Nat) (x2 : Addr) (x3 : Bool), E3 g x1b x1n x1c x2 x3 ∧ K x1b x1n x1c x2 x3 h := by
  obtain ⟨hd, hq⟩ := nilDs_ok hq
  obtain ⟨y13b, y13n, y13c, e12, q14⟩ := vSlice_ok hq
  obtain ⟨y16, e15, q17⟩ := vAddr_ok q14
  obtain ⟨y19, e18, q20⟩ := vBool_ok q17
  exact ⟨y13b, y13n, y13c, y16, y19, ⟨e12, e15, e18, hd⟩, q20⟩
noncomputable def n4_c1 : Code := cFst n3_c2
noncomputable def n4_c2 : Code := cSnd n3_c2
abbrev T4 := (Option Addr) → Nat → Nat → Addr → Bool → Addr → H → Prop
def E4 (g : Env) (x1b : Option Addr) (x1n : Nat) (x1c : Nat) (x2 : Addr) (x3 : Bool) (x4 : Addr) : Prop := g.v 1 = (.slice x1b x1n x1c) ∧ g.v 2 = (.pointer (some x2)) ∧ g.v 3 = (.bool x3) ∧ g.v 4 = (.pointer (some x4)) ∧ g.ds = []
def D4 (K : T4) (g : Env) (h : H) : Prop := nilDs g.ds (vSlice (g.v 1) fun s21b s21n s21c => vAddr (g.v 2) fun a22 => vBool (g.v 3) fun b23 => vAddr (g.v 4) fun a24 => K s21b s21n s21c a22 b23 a24 h)
theorem D4_ok {K : T4} {g : Env} {h : H} (hq : D4 K g h) : ∃ (x1b : Option Addr) (x1n : Nat) (x1c : Nat) (x2 : Addr) (x3 : Bool) (x4 : Addr), E4 g x1b x1n x1c x2 x3 x4 ∧ K x1b x1n x1c x2 x3 x4 h := by
  obtain ⟨hd, hq⟩ := nilDs_ok hq
  obtain ⟨y26b, y26n, y26c, e25, q27⟩ := vSlice_ok hq
  obtain ⟨y29, e28, q30⟩ := vAddr_ok q27
  obtain ⟨y32, e31, q33⟩ := vBool_ok q30
  obtain ⟨y35, e34, q36⟩ := vAddr_ok q33
  exact ⟨y26b, y26n, y26c, y29, y32, y35, ⟨e25, e28, e31, e34, hd⟩, q36⟩
abbrev n5 (x1b : Option Addr) (x1n : Nat) (x1c : Nat) (x2 : Addr) (x3 : Bool) (x4 : Addr) (Kn : T0) (Kr : T0) (h : H) : Prop :=
  Spl ((x1n : Int) = (2 : Int)) ((0 ≤ (0 : Int) ∧ (0 : Int) < (x1n : Int)) ∧ (vSome x1b fun a37 => ∃ i38, cell h (((a37.add (Int.toNat (0 : Int) * 3))).add 0) = some (.int .i64 i38) ∧ (∃ i39, cell h (((a37.add (Int.toNat (0 : Int) * 3))).add 1) = some (.int .i64 i39) ∧ (∃ i40, cell h (((a37.add (Int.toNat (0 : Int) * 3))).add 2) = some (.int .i64 i40) ∧ (SemH Tryd.prog (binS .eql 35 (.tmp 24) (.tmp 25) (.agg ⟨[(.int .i64 i38), (.int .i64 i39), (.int .i64 i40)]⟩) (.agg ⟨[(.int .i64 (1 : Int)), (.int .i64 (6 : Int)), (.int .i64 (2 : Int))]⟩)) h fun v41 h42 => vBool v41 fun b43 => cond b43 ((0 ≤ (1 : Int) ∧ (1 : Int) < (x1n : Int)) ∧ (vSome x1b fun a44 => ∃ i45, cell h42 (((a44.add (Int.toNat (1 : Int) * 3))).add 0) = some (.int .i64 i45) ∧ (∃ i46, cell h42 (((a44.add (Int.toNat (1 : Int) * 3))).add 1) = some (.int .i64 i46) ∧ (∃ i47, cell h42 (((a44.add (Int.toNat (1 : Int) * 3))).add 2) = some (.int .i64 i47) ∧ (SemH Tryd.prog (binS .eql 35 (.tmp 31) (.tmp 32) (.agg ⟨[(.int .i64 i45), (.int .i64 i46), (.int .i64 i47)]⟩) (.agg ⟨[(.int .i64 (0 : Int)), (.int .i64 (7 : Int)), (.int .i64 (1 : Int))]⟩)) h42 fun v48 h49 => vBool v48 fun b50 => cond b50 (cond x3 (∃ b51, cell h49 (x2.add 3) = some (.bool b51) ∧ (cond b51 (Kr false h49) (∃ b52, cell h49 (x2.add 4) = some (.bool b52) ∧ (cond b52 (Kr false h49) (∃ b53, cell h49 (x4.add 3) = some (.bool b53) ∧ (cond b53 (∃ b54, cell h49 (x4.add 4) = some (.bool b54) ∧ (cond b54 (Kr false h49) (Kr true h49))) (Kr false h49))))))) (Kr false h49)) (Kr false h49)))))) (Kr false h42)))))) (Kr false h)
theorem n5_ok (x1b : Option Addr) (x1n : Nat) (x1c : Nat) (x2 : Addr) (x3 : Bool) (x4 : Addr) (Kn : T0) (Kr : T0) (g : Env) (hg : E4 g x1b x1n x1c x2 x3 x4) (h : H) (hS : n5 x1b x1n x1c x2 x3 x4 Kn Kr h) : wpC none Tryd.prog 57 n4_c2 (Q0 Kn Kr) g h := by
  obtain ⟨hg1, hg2, hg3, hg4, hds⟩ := hg
  refine wpC_of_wpx (by kernel_rfl) (by kernel_rfl) (g' := ((((⟨g.v, []⟩ : Env).upd (some 1) (.slice x1b x1n x1c)).upd (some 2) (.pointer (some x2))).upd (some 3) (.bool x3)).upd (some 4) (.pointer (some x4))) (by rw [env_ds hds, upd_self hg1, upd_self hg2, upd_self hg3, upd_self hg4]) ?_
  have e : (n5 x1b x1n x1c x2 x3 x4 Kn Kr h) = wpx none Tryd.prog 57 n4_c2 (Q0 Kn Kr) (((((⟨g.v, []⟩ : Env).upd (some 1) (.slice x1b x1n x1c)).upd (some 2) (.pointer (some x2))).upd (some 3) (.bool x3)).upd (some 4) (.pointer (some x4))) h := by kernel_rfl
  exact e ▸ hS
def Q1 (Kn : T4) (Kr : T0) : XPost
  | .normal, g, h => D4 Kn g h
  | .ret, g, h => D0 Kr g h
  | _, _, _ => False
abbrev n4 (x1b : Option Addr) (x1n : Nat) (x1c : Nat) (x2 : Addr) (x3 : Bool) (Kn : T0) (Kr : T0) (h : H) : Prop :=
  HCalls Tryd.prog 7 ⟨[(S ([42, 97] : List UInt8)), (.int .i64 (0 : Int))]⟩ h fun v55 h56 => vTup v55 fun l57 => uncons l57 fun e58 l59 => vAgg e58 fun l60 => uncons l60 fun e61 l62 => vInt .u8 e61 fun i63 => uncons l62 fun e64 l65 => vInt .i64 e64 fun i66 => uncons l65 fun e67 l68 => vInt .i64 e67 fun i69 => uncons l68 fun e70 l71 => vBool e70 fun b72 => uncons l71 fun e73 l74 => vBool e73 fun b75 => unnil l74 (uncons l59 fun e76 l77 => vBool e76 fun b78 => unnil l77 (cond b78 (newx h56 ⟨[(.int .u8 (0 : Int)), (.int .i64 (0 : Int)), (.int .i64 (0 : Int)), (.bool false), (.bool false)]⟩ 25 fun a79 h80 => stL a79 [(.int .u8 i63), (.int .i64 i66), (.int .i64 i69), (.bool b72), (.bool b75)] 0 h80 fun h81 => n5 x1b x1n x1c x2 x3 a79 Kn Kr h81) (newx h56 ⟨[(.int .u8 (0 : Int)), (.int .i64 (0 : Int)), (.int .i64 (0 : Int)), (.bool false), (.bool false)]⟩ 25 fun a82 h83 => stL a82 [(.int .u8 i63), (.int .i64 i66), (.int .i64 i69), (.bool b72), (.bool b75)] 0 h83 fun h84 => n5 x1b x1n x1c x2 x3 a82 Kn Kr h84)))
theorem n4_ok (x1b : Option Addr) (x1n : Nat) (x1c : Nat) (x2 : Addr) (x3 : Bool) (Kn : T0) (Kr : T0) (g : Env) (hg : E3 g x1b x1n x1c x2 x3) (h : H) (hS : n4 x1b x1n x1c x2 x3 Kn Kr h) : wpC none Tryd.prog 57 n3_c2 (Q0 Kn Kr) g h := by
  obtain ⟨hg1, hg2, hg3, hds⟩ := hg
  refine wpC_seq' (x := n4_c1) (y := n4_c2) (Q' := (Q1 (fun z1b z1n z1c z2 z3 z4 h => n5 z1b z1n z1c z2 z3 z4 Kn Kr h) Kr)) (by kernel_rfl) ?_ ?_
  · refine wpC_of_wpx (by kernel_rfl) (by kernel_rfl) (g' := (((⟨g.v, []⟩ : Env).upd (some 1) (.slice x1b x1n x1c)).upd (some 2) (.pointer (some x2))).upd (some 3) (.bool x3)) (by rw [env_ds hds, upd_self hg1, upd_self hg2, upd_self hg3]) ?_
    have e : (n4 x1b x1n x1c x2 x3 Kn Kr h) = wpx none Tryd.prog 57 n4_c1 (Q1 (fun z1b z1n z1c z2 z3 z4 h => n5 z1b z1n z1c z2 z3 z4 Kn Kr h) Kr) ((((⟨g.v, []⟩ : Env).upd (some 1) (.slice x1b x1n x1c)).upd (some 2) (.pointer (some x2))).upd (some 3) (.bool x3)) h := by kernel_rfl
    exact e ▸ hS
  · intro e g' h' hq
    cases e with
    | normal =>
      have hq : D4 (fun z1b z1n z1c z2 z3 z4 h => n5 z1b z1n z1c z2 z3 z4 Kn Kr h) g' h' := hq
      obtain ⟨y1b, y1n, y1c, y2, y3, y4, hg', hq⟩ := D4_ok hq
      exact n5_ok y1b y1n y1c y2 y3 y4 Kn Kr g' hg' h' hq
    | _ => exact hq
def Q2 (Kn : T3) (Kr : T0) : XPost
  | .normal, g, h => D3 Kn g h
  | .ret, g, h => D0 Kr g h
  | _, _, _ => False
abbrev n3 (x1b : Option Addr) (x1n : Nat) (x1c : Nat) (Kn : T0) (Kr : T0) (h : H) : Prop :=
  HCalls Tryd.prog 7 ⟨[(S ([97, 95, 98] : List UInt8)), (.int .i64 (1 : Int))]⟩ h fun v85 h86 => vTup v85 fun l87 => uncons l87 fun e88 l89 => vAgg e88 fun l90 => uncons l90 fun e91 l92 => vInt .u8 e91 fun i93 => uncons l92 fun e94 l95 => vInt .i64 e94 fun i96 => uncons l95 fun e97 l98 => vInt .i64 e97 fun i99 => uncons l98 fun e100 l101 => vBool e100 fun b102 => uncons l101 fun e103 l104 => vBool e103 fun b105 => unnil l104 (uncons l89 fun e106 l107 => vBool e106 fun b108 => unnil l107 (cond b108 (newx h86 ⟨[(.int .u8 (0 : Int)), (.int .i64 (0 : Int)), (.int .i64 (0 : Int)), (.bool false), (.bool false)]⟩ 25 fun a109 h110 => stL a109 [(.int .u8 i93), (.int .i64 i96), (.int .i64 i99), (.bool b102), (.bool b105)] 0 h110 fun h111 => n4 x1b x1n x1c a109 true Kn Kr h111) (newx h86 ⟨[(.int .u8 (0 : Int)), (.int .i64 (0 : Int)), (.int .i64 (0 : Int)), (.bool false), (.bool false)]⟩ 25 fun a112 h113 => stL a112 [(.int .u8 i93), (.int .i64 i96), (.int .i64 i99), (.bool b102), (.bool b105)] 0 h113 fun h114 => n4 x1b x1n x1c a112 false Kn Kr h114)))
theorem n3_ok (x1b : Option Addr) (x1n : Nat) (x1c : Nat) (Kn : T0) (Kr : T0) (g : Env) (hg : E2 g x1b x1n x1c) (h : H) (hS : n3 x1b x1n x1c Kn Kr h) : wpC none Tryd.prog 57 n2_c2 (Q0 Kn Kr) g h := by
  obtain ⟨hg1, hds⟩ := hg
  refine wpC_seq' (x := n3_c1) (y := n3_c2) (Q' := (Q2 (fun z1b z1n z1c z2 z3 h => n4 z1b z1n z1c z2 z3 Kn Kr h) Kr)) (by kernel_rfl) ?_ ?_
  · refine wpC_of_wpx (by kernel_rfl) (by kernel_rfl) (g' := (⟨g.v, []⟩ : Env).upd (some 1) (.slice x1b x1n x1c)) (by rw [env_ds hds, upd_self hg1]) ?_
    have e : (n3 x1b x1n x1c Kn Kr h) = wpx none Tryd.prog 57 n3_c1 (Q2 (fun z1b z1n z1c z2 z3 h => n4 z1b z1n z1c z2 z3 Kn Kr h) Kr) ((⟨g.v, []⟩ : Env).upd (some 1) (.slice x1b x1n x1c)) h := by kernel_rfl
    exact e ▸ hS
  · intro e g' h' hq
    cases e with
    | normal =>
      have hq : D3 (fun z1b z1n z1c z2 z3 h => n4 z1b z1n z1c z2 z3 Kn Kr h) g' h' := hq
      obtain ⟨y1b, y1n, y1c, y2, y3, hg', hq⟩ := D3_ok hq
      exact n4_ok y1b y1n y1c y2 y3 Kn Kr g' hg' h' hq
    | _ => exact hq
def Q3 (Kn : T2) (Kr : T0) : XPost
  | .normal, g, h => D2 Kn g h
  | .ret, g, h => D0 Kr g h
  | _, _, _ => False
abbrev n2  (Kn : T0) (Kr : T0) (h : H) : Prop :=
  newx h #[(.int .u8 (42 : Int)), (.int .i64 (0 : Int)), (.int .i64 (3 : Int)), (.bool true), (.bool false), (.int .u8 (42 : Int)), (.int .i64 (4 : Int)), (.int .i64 (3 : Int)), (.bool false), (.bool true)] 25 fun a115 h116 => HCalls Tryd.prog 11 ⟨[(.slice (some a115) 2 2)]⟩ h116 fun v117 h118 => vSlice v117 fun s119b s119n s119c => n3 s119b s119n s119c Kn Kr h118
theorem n2_ok  (Kn : T0) (Kr : T0) (g : Env) (hg : E1 g ) (h : H) (hS : n2  Kn Kr h) : wpC none Tryd.prog 57 n1_c2 (Q0 Kn Kr) g h := by
  have hds : g.ds = [] := hg
  refine wpC_seq' (x := n2_c1) (y := n2_c2) (Q' := (Q3 (fun z1b z1n z1c h => n3 z1b z1n z1c Kn Kr h) Kr)) (by kernel_rfl) ?_ ?_
  · refine wpC_of_wpx (by kernel_rfl) (by kernel_rfl) (g' := ⟨g.v, []⟩) (by rw [env_ds hds]) ?_
    have e : (n2  Kn Kr h) = wpx none Tryd.prog 57 n2_c1 (Q3 (fun z1b z1n z1c h => n3 z1b z1n z1c Kn Kr h) Kr) (⟨g.v, []⟩) h := by kernel_rfl
    exact e ▸ hS
  · intro e g' h' hq
    cases e with
    | normal =>
      have hq : D2 (fun z1b z1n z1c h => n3 z1b z1n z1c Kn Kr h) g' h' := hq
      obtain ⟨y1b, y1n, y1c, hg', hq⟩ := D2_ok hq
      exact n3_ok y1b y1n y1c Kn Kr g' hg' h' hq
    | _ => exact hq
def Q4 (Kn : T1) (Kr : T0) : XPost
  | .normal, g, h => D1 Kn g h
  | .ret, g, h => D0 Kr g h
  | _, _, _ => False
abbrev n1  (Kn : T0) (Kr : T0) (h : H) : Prop :=
  n2 Kn Kr h
theorem n1_ok  (Kn : T0) (Kr : T0) (g : Env) (hg : E1 g ) (h : H) (hS : n1  Kn Kr h) : wpC none Tryd.prog 57 code (Q0 Kn Kr) g h := by
  have hds : g.ds = [] := hg
  refine wpC_seq' (x := n1_c1) (y := n1_c2) (Q' := (Q4 (fun  h => n2 Kn Kr h) Kr)) (by kernel_rfl) ?_ ?_
  · refine wpC_of_wpx (by kernel_rfl) (by kernel_rfl) (g' := ⟨g.v, []⟩) (by rw [env_ds hds]) ?_
    have e : (n1  Kn Kr h) = wpx none Tryd.prog 57 n1_c1 (Q4 (fun  h => n2 Kn Kr h) Kr) (⟨g.v, []⟩) h := by kernel_rfl
    exact e ▸ hS
  · intro e g' h' hq
    cases e with
    | normal =>
      have hq : D1 (fun  h => n2 Kn Kr h) g' h' := hq
      obtain ⟨hg', hq⟩ := D1_ok hq
      exact n2_ok  Kn Kr g' hg' h' hq
    | _ => exact hq
/-- WHAT tympan/tympanlaw27.known ASKS -/
abbrev asks  (K : Value → H → Prop) (h : H) : Prop := n1  (fun y0 h => K (.bool y0) h) (fun y0 h => K (.bool y0) h) h
theorem ok  (K : Value → H → Prop) (h : H) (hS : asks  K h) : HCalls Tryd.prog 9 ⟨[]⟩ h K := by
  refine calls_of_wpC (c := code) Tryd.func9 (by kernel_rfl) (Nat.le_of_ble_eq_true (by kernel_rfl)) ?_
  refine (n1_ok  (fun y0 h => K (.bool y0) h) (fun y0 h => K (.bool y0) h) (env0 []) rfl h hS).mono ?_
  intro e g' h' hq
  cases e with
  | normal =>
    have hq : D0 (fun y0 h => K (.bool y0) h) g' h' := hq
    obtain ⟨y0, ⟨hg0, hd⟩, hq⟩ := D0_ok hq
    show leaveX g'.ds h' _
    rw [hd]
    show K (g'.v 0) h'
    rw [hg0]
    exact hq
  | ret =>
    have hq : D0 (fun y0 h => K (.bool y0) h) g' h' := hq
    obtain ⟨y0, ⟨hg0, hd⟩, hq⟩ := D0_ok hq
    show leaveX g'.ds h' _
    rw [hd]
    show K (g'.v 0) h'
    rw [hg0]
    exact hq
  | _ => exact hq
end Sx.l27_known

/-! ### tympan/tympanlaw27.heavy -/
namespace Sx.l27_heavy
noncomputable def code : Code := bodyOf Tryd.f10
abbrev T0 := Bool → H → Prop
def E0 (g : Env) (x2 : Bool) : Prop := g.v 2 = (.bool x2) ∧ g.ds = []
def D0 (K : T0) (g : Env) (h : H) : Prop := nilDs g.ds (vBool (g.v 2) fun b1 => K b1 h)
theorem D0_ok {K : T0} {g : Env} {h : H} (hq : D0 K g h) : ∃ (x2 : Bool), E0 g x2 ∧ K x2 h := by
  obtain ⟨hd, hq⟩ := nilDs_ok hq
  obtain ⟨y3, e2, q4⟩ := vBool_ok hq
  exact ⟨y3, ⟨e2, hd⟩, q4⟩
def Q0 (Kn : T0) (Kr : T0) : XPost
  | .normal, g, h => D0 Kn g h
  | .ret, g, h => D0 Kr g h
  | _, _, _ => False
abbrev T1 := (Option Addr) → Nat → Nat → H → Prop
def E1 (g : Env) (x0b : Option Addr) (x0n : Nat) (x0c : Nat) : Prop := g.v 0 = (.slice x0b x0n x0c) ∧ g.ds = []
def D1 (K : T1) (g : Env) (h : H) : Prop := nilDs g.ds (vSlice (g.v 0) fun s5b s5n s5c => K s5b s5n s5c h)
theorem D1_ok {K : T1} {g : Env} {h : H} (hq : D1 K g h) : ∃ (x0b : Option Addr) (x0n : Nat) (x0c : Nat), E1 g x0b x0n x0c ∧ K x0b x0n x0c h := by
  obtain ⟨hd, hq⟩ := nilDs_ok hq
  obtain ⟨y7b, y7n, y7c, e6, q8⟩ := vSlice_ok hq
  exact ⟨y7b, y7n, y7c, ⟨e6, hd⟩, q8⟩
noncomputable def n1_c1 : Code := cFst code
noncomputable def n1_c2 : Code := cSnd code
noncomputable def n2_c1 : Code := cFst n1_c2
noncomputable def n2_c2 : Code := cSnd n1_c2
abbrev T2 := (Option Addr) → Nat → Nat → Int → H → Prop
def E2 (g : Env) (x0b : Option Addr) (x0n : Nat) (x0c : Nat) (x3 : Int) : Prop := g.v 0 = (.slice x0b x0n x0c) ∧ g.v 3 = (.int .i64 x3) ∧ g.ds = []
def D2 (K : T2) (g : Env) (h : H) : Prop := nilDs g.ds (vSlice (g.v 0) fun s9b s9n s9c => vInt .i64 (g.v 3) fun i10 => K s9b s9n s9c i10 h)
theorem D2_ok {K : T2} {g : Env} {h : H} (hq : D2 K g h) : ∃ (x0b : Option Addr) (x0n : Nat) (x0c : Nat) (x3 : Int), E2 g x0b x0n x0c x3 ∧ K x0b x0n x0c x3 h := by
  obtain ⟨hd, hq⟩ := nilDs_ok hq
  obtain ⟨y12b, y12n, y12c, e11, q13⟩ := vSlice_ok hq
  obtain ⟨y15, e14, q16⟩ := vInt_ok q13
  exact ⟨y12b, y12n, y12c, y15, ⟨e11, e14, hd⟩, q16⟩
noncomputable def n3_c1 : Code := cFst n2_c2
noncomputable def n3_c2 : Code := cSnd n2_c2
abbrev T3 := Int → H → Prop
def E3 (g : Env) (x3 : Int) : Prop := g.v 3 = (.int .i64 x3) ∧ g.ds = []
def D3 (K : T3) (g : Env) (h : H) : Prop := nilDs g.ds (vInt .i64 (g.v 3) fun i17 => K i17 h)
theorem D3_ok {K : T3} {g : Env} {h : H} (hq : D3 K g h) : ∃ (x3 : Int), E3 g x3 ∧ K x3 h := by
  obtain ⟨hd, hq⟩ := nilDs_ok hq
  obtain ⟨y19, e18, q20⟩ := vInt_ok hq
  exact ⟨y19, ⟨e18, hd⟩, q20⟩
abbrev n4 (x3 : Int) (Kn : T0) (Kr : T0) (h : H) : Prop :=
  Spl (x3 > (1000 : Int)) (Kr true h) (Kr false h)
theorem n4_ok (x3 : Int) (Kn : T0) (Kr : T0) (g : Env) (hg : E3 g x3) (h : H) (hS : n4 x3 Kn Kr h) : wpC none Tryd.prog 28 n3_c2 (Q0 Kn Kr) g h := by
  obtain ⟨hg3, hds⟩ := hg
  refine wpC_of_wpx (by kernel_rfl) (by kernel_rfl) (g' := (⟨g.v, []⟩ : Env).upd (some 3) (.int .i64 x3)) (by rw [env_ds hds, upd_self hg3]) ?_
  have e : (n4 x3 Kn Kr h) = wpx none Tryd.prog 28 n3_c2 (Q0 Kn Kr) ((⟨g.v, []⟩ : Env).upd (some 3) (.int .i64 x3)) h := by kernel_rfl
  exact e ▸ hS
def Q1 (Kn : T3) (Kr : T0) : XPost
  | .normal, g, h => D3 Kn g h
  | .ret, g, h => D0 Kr g h
  | _, _, _ => False
noncomputable def n5_c1 : Code := cFst n3_c1
noncomputable def n5_c2 : Code := cSnd n3_c1
abbrev T4 := (Option Addr) → Nat → Nat → Int → Int → H → Prop
def E4 (g : Env) (x0b : Option Addr) (x0n : Nat) (x0c : Nat) (x3 : Int) (x4 : Int) : Prop := g.v 0 = (.slice x0b x0n x0c) ∧ g.v 3 = (.int .i64 x3) ∧ g.v 4 = (.int .i64 x4) ∧ g.ds = []
def D4 (K : T4) (g : Env) (h : H) : Prop := nilDs g.ds (vSlice (g.v 0) fun s21b s21n s21c => vInt .i64 (g.v 3) fun i22 => vInt .i64 (g.v 4) fun i23 => K s21b s21n s21c i22 i23 h)
theorem D4_ok {K : T4} {g : Env} {h : H} (hq : D4 K g h) : ∃ (x0b : Option Addr) (x0n : Nat) (x0c : Nat) (x3 : Int) (x4 : Int), E4 g x0b x0n x0c x3 x4 ∧ K x0b x0n x0c x3 x4 h := by
  obtain ⟨hd, hq⟩ := nilDs_ok hq
  obtain ⟨y25b, y25n, y25c, e24, q26⟩ := vSlice_ok hq
  obtain ⟨y28, e27, q29⟩ := vInt_ok q26
  obtain ⟨y31, e30, q32⟩ := vInt_ok q29
  exact ⟨y25b, y25n, y25c, y28, y31, ⟨e24, e27, e30, hd⟩, q32⟩
noncomputable def n6_c1 : Code := cFst n5_c2
def Q2 (Kn : T3) (Ke0 : T3) (Kr : T0) : XPost
  | .normal, g, h => D3 Kn g h
  | .ret, g, h => D0 Kr g h
  | .exit id, g, h => cond (Nat.beq id 0) (D3 Ke0 g h) (False)
  | _, _, _ => False
noncomputable def n7_c1 : Code := cFst n6_c1
def Q3 (Kn : T4) (Ke0 : T3) (Kr : T0) : XPost
  | .normal, g, h => D4 Kn g h
  | .ret, g, h => D0 Kr g h
  | .exit id, g, h => cond (Nat.beq id 0) (D3 Ke0 g h) (False)
  | _, _, _ => False
def n7_L (Kn : T3) (Ke0 : T3) (Kr : T0) : Nat → (Option Addr) → Nat → Nat → Int → Int → H → Prop
  | 0 => fun _ _ _ _ _ _ => False
  | N + 1 => fun x0b x0n x0c x3 x4 h => Spl (x4 < (x0n : Int)) (Spl (x3 ≤ (1000 : Int)) ((0 ≤ x4 ∧ x4 < (x0n : Int)) ∧ (vSome x0b fun a33 => ∃ i34, cell h ((a33.add (Int.toNat x4 * 5)).add 2) = some (.int .i64 i34) ∧ (Rng .i64 (x3 + (if (1001 : Int) < (if (0 : Int) > i34 then (0 : Int) else i34) then (1001 : Int) else (if (0 : Int) > i34 then (0 : Int) else i34))) ∧ (Rng .i64 (x4 + (1 : Int)) ∧ (n7_L Kn Ke0 Kr N x0b x0n x0c (x3 + (if (1001 : Int) < (if (0 : Int) > i34 then (0 : Int) else i34) then (1001 : Int) else (if (0 : Int) > i34 then (0 : Int) else i34))) (x4 + (1 : Int)) h))))) (Ke0 x3 h)) (Ke0 x3 h)
abbrev n7 (x0b : Option Addr) (x0n : Nat) (x0c : Nat) (x3 : Int) (x4 : Int) (Kn : T3) (Ke0 : T3) (Kr : T0) (h : H) : Prop := ∃ N, n7_L Kn Ke0 Kr N x0b x0n x0c x3 x4 h
theorem n7_ok (x0b : Option Addr) (x0n : Nat) (x0c : Nat) (x3 : Int) (x4 : Int) (Kn : T3) (Ke0 : T3) (Kr : T0) (g : Env) (hg : E4 g x0b x0n x0c x3 x4) (h : H) (hS : n7 x0b x0n x0c x3 x4 Kn Ke0 Kr h) : wpC none Tryd.prog 28 n6_c1 (Q2 Kn Ke0 Kr) g h := by
  obtain ⟨N0, hS⟩ := hS
  refine wpC_loop' (x := n7_c1) (by kernel_rfl) (fun k g h => ∃ (x0b : Option Addr) (x0n : Nat) (x0c : Nat) (x3 : Int) (x4 : Int), E4 g x0b x0n x0c x3 x4 ∧ n7_L Kn Ke0 Kr k x0b x0n x0c x3 x4 h) (fun g h hr => ?_) (fun N g h hr => ?_) N0 ⟨x0b, x0n, x0c, x3, x4, hg, hS⟩
  · obtain ⟨x0b, x0n, x0c, x3, x4, hg, hS⟩ := hr
    exact hS.elim
  · obtain ⟨x0b, x0n, x0c, x3, x4, hg, hS⟩ := hr
    have hw : wpC none Tryd.prog 28 n7_c1 (Q3 (fun z0b z0n z0c z3 z4 h => n7_L Kn Ke0 Kr N z0b z0n z0c z3 z4 h) Ke0 Kr) g h := by
      obtain ⟨hg0, hg3, hg4, hds⟩ := hg
      refine wpC_of_wpx (by kernel_rfl) (by kernel_rfl) (g' := (((⟨g.v, []⟩ : Env).upd (some 0) (.slice x0b x0n x0c)).upd (some 3) (.int .i64 x3)).upd (some 4) (.int .i64 x4)) (by rw [env_ds hds, upd_self hg0, upd_self hg3, upd_self hg4]) ?_
      have e : (n7_L Kn Ke0 Kr (N + 1) x0b x0n x0c x3 x4 h) = wpx none Tryd.prog 28 n7_c1 (Q3 (fun z0b z0n z0c z3 z4 h => n7_L Kn Ke0 Kr N z0b z0n z0c z3 z4 h) Ke0 Kr) ((((⟨g.v, []⟩ : Env).upd (some 0) (.slice x0b x0n x0c)).upd (some 3) (.int .i64 x3)).upd (some 4) (.int .i64 x4)) h := by kernel_rfl
      exact e ▸ hS
    refine hw.mono ?_
    intro e g' h' hq
    cases e with
    | normal => exact D4_ok (K := (fun z0b z0n z0c z3 z4 h => n7_L Kn Ke0 Kr N z0b z0n z0c z3 z4 h)) hq
    | _ => exact hq
abbrev n6 (x0b : Option Addr) (x0n : Nat) (x0c : Nat) (x3 : Int) (x4 : Int) (Kn : T3) (Kr : T0) (h : H) : Prop := n7 x0b x0n x0c x3 x4 Kn Kn Kr h
theorem n6_ok (x0b : Option Addr) (x0n : Nat) (x0c : Nat) (x3 : Int) (x4 : Int) (Kn : T3) (Kr : T0) (g : Env) (hg : E4 g x0b x0n x0c x3 x4) (h : H) (hS : n6 x0b x0n x0c x3 x4 Kn Kr h) : wpC none Tryd.prog 28 n5_c2 (Q1 Kn Kr) g h := by
  refine wpC_block' (id := 0) (x := n6_c1) (by kernel_rfl) (n7_ok x0b x0n x0c x3 x4 Kn Kn Kr g hg h hS) ?_
  intro e g' h' hq
  cases e <;> exact hq
def Q4 (Kn : T4) (Kr : T0) : XPost
  | .normal, g, h => D4 Kn g h
  | .ret, g, h => D0 Kr g h
  | _, _, _ => False
abbrev n5 (x0b : Option Addr) (x0n : Nat) (x0c : Nat) (x3 : Int) (Kn : T3) (Kr : T0) (h : H) : Prop :=
  n6 x0b x0n x0c x3 (0 : Int) Kn Kr h
theorem n5_ok (x0b : Option Addr) (x0n : Nat) (x0c : Nat) (x3 : Int) (Kn : T3) (Kr : T0) (g : Env) (hg : E2 g x0b x0n x0c x3) (h : H) (hS : n5 x0b x0n x0c x3 Kn Kr h) : wpC none Tryd.prog 28 n3_c1 (Q1 Kn Kr) g h := by
  obtain ⟨hg0, hg3, hds⟩ := hg
  refine wpC_seq' (x := n5_c1) (y := n5_c2) (Q' := (Q4 (fun z0b z0n z0c z3 z4 h => n6 z0b z0n z0c z3 z4 Kn Kr h) Kr)) (by kernel_rfl) ?_ ?_
  · refine wpC_of_wpx (by kernel_rfl) (by kernel_rfl) (g' := ((⟨g.v, []⟩ : Env).upd (some 0) (.slice x0b x0n x0c)).upd (some 3) (.int .i64 x3)) (by rw [env_ds hds, upd_self hg0, upd_self hg3]) ?_
    have e : (n5 x0b x0n x0c x3 Kn Kr h) = wpx none Tryd.prog 28 n5_c1 (Q4 (fun z0b z0n z0c z3 z4 h => n6 z0b z0n z0c z3 z4 Kn Kr h) Kr) (((⟨g.v, []⟩ : Env).upd (some 0) (.slice x0b x0n x0c)).upd (some 3) (.int .i64 x3)) h := by kernel_rfl
    exact e ▸ hS
  · intro e g' h' hq
    cases e with
    | normal =>
      have hq : D4 (fun z0b z0n z0c z3 z4 h => n6 z0b z0n z0c z3 z4 Kn Kr h) g' h' := hq
      obtain ⟨y0b, y0n, y0c, y3, y4, hg', hq⟩ := D4_ok hq
      exact n6_ok y0b y0n y0c y3 y4 Kn Kr g' hg' h' hq
    | _ => exact hq
abbrev n3 (x0b : Option Addr) (x0n : Nat) (x0c : Nat) (x3 : Int) (Kn : T0) (Kr : T0) (h : H) : Prop := n5 x0b x0n x0c x3 (fun z3 h => n4 z3 Kn Kr h) Kr h
theorem n3_ok (x0b : Option Addr) (x0n : Nat) (x0c : Nat) (x3 : Int) (Kn : T0) (Kr : T0) (g : Env) (hg : E2 g x0b x0n x0c x3) (h : H) (hS : n3 x0b x0n x0c x3 Kn Kr h) : wpC none Tryd.prog 28 n2_c2 (Q0 Kn Kr) g h := by
  refine wpC_seq' (x := n3_c1) (y := n3_c2) (by kernel_rfl) (n5_ok x0b x0n x0c x3 (fun z3 h => n4 z3 Kn Kr h) Kr g hg h hS) ?_
  intro e g' h' hq
  cases e with
  | normal =>
    have hq : D3 (fun z3 h => n4 z3 Kn Kr h) g' h' := hq
    obtain ⟨y3, hg', hq⟩ := D3_ok hq
    exact n4_ok y3 Kn Kr g' hg' h' hq
  | _ => exact hq
def Q5 (Kn : T2) (Kr : T0) : XPost
  | .normal, g, h => D2 Kn g h
  | .ret, g, h => D0 Kr g h
  | _, _, _ => False
abbrev n2 (x0b : Option Addr) (x0n : Nat) (x0c : Nat) (Kn : T0) (Kr : T0) (h : H) : Prop :=
  n3 x0b x0n x0c (x0n : Int) Kn Kr h
theorem n2_ok (x0b : Option Addr) (x0n : Nat) (x0c : Nat) (Kn : T0) (Kr : T0) (g : Env) (hg : E1 g x0b x0n x0c) (h : H) (hS : n2 x0b x0n x0c Kn Kr h) : wpC none Tryd.prog 28 n1_c2 (Q0 Kn Kr) g h := by
  obtain ⟨hg0, hds⟩ := hg
  refine wpC_seq' (x := n2_c1) (y := n2_c2) (Q' := (Q5 (fun z0b z0n z0c z3 h => n3 z0b z0n z0c z3 Kn Kr h) Kr)) (by kernel_rfl) ?_ ?_
  · refine wpC_of_wpx (by kernel_rfl) (by kernel_rfl) (g' := (⟨g.v, []⟩ : Env).upd (some 0) (.slice x0b x0n x0c)) (by rw [env_ds hds, upd_self hg0]) ?_
    have e : (n2 x0b x0n x0c Kn Kr h) = wpx none Tryd.prog 28 n2_c1 (Q5 (fun z0b z0n z0c z3 h => n3 z0b z0n z0c z3 Kn Kr h) Kr) ((⟨g.v, []⟩ : Env).upd (some 0) (.slice x0b x0n x0c)) h := by kernel_rfl
    exact e ▸ hS
  · intro e g' h' hq
    cases e with
    | normal =>
      have hq : D2 (fun z0b z0n z0c z3 h => n3 z0b z0n z0c z3 Kn Kr h) g' h' := hq
      obtain ⟨y0b, y0n, y0c, y3, hg', hq⟩ := D2_ok hq
      exact n3_ok y0b y0n y0c y3 Kn Kr g' hg' h' hq
    | _ => exact hq
def Q6 (Kn : T1) (Kr : T0) : XPost
  | .normal, g, h => D1 Kn g h
  | .ret, g, h => D0 Kr g h
  | _, _, _ => False
abbrev n1 (x0b : Option Addr) (x0n : Nat) (x0c : Nat) (Kn : T0) (Kr : T0) (h : H) : Prop :=
  n2 x0b x0n x0c Kn Kr h
theorem n1_ok (x0b : Option Addr) (x0n : Nat) (x0c : Nat) (Kn : T0) (Kr : T0) (g : Env) (hg : E1 g x0b x0n x0c) (h : H) (hS : n1 x0b x0n x0c Kn Kr h) : wpC none Tryd.prog 28 code (Q0 Kn Kr) g h := by
  obtain ⟨hg0, hds⟩ := hg
  refine wpC_seq' (x := n1_c1) (y := n1_c2) (Q' := (Q6 (fun z0b z0n z0c h => n2 z0b z0n z0c Kn Kr h) Kr)) (by kernel_rfl) ?_ ?_
  · refine wpC_of_wpx (by kernel_rfl) (by kernel_rfl) (g' := (⟨g.v, []⟩ : Env).upd (some 0) (.slice x0b x0n x0c)) (by rw [env_ds hds, upd_self hg0]) ?_
    have e : (n1 x0b x0n x0c Kn Kr h) = wpx none Tryd.prog 28 n1_c1 (Q6 (fun z0b z0n z0c h => n2 z0b z0n z0c Kn Kr h) Kr) ((⟨g.v, []⟩ : Env).upd (some 0) (.slice x0b x0n x0c)) h := by kernel_rfl
    exact e ▸ hS
  · intro e g' h' hq
    cases e with
    | normal =>
      have hq : D1 (fun z0b z0n z0c h => n2 z0b z0n z0c Kn Kr h) g' h' := hq
      obtain ⟨y0b, y0n, y0c, hg', hq⟩ := D1_ok hq
      exact n2_ok y0b y0n y0c Kn Kr g' hg' h' hq
    | _ => exact hq
/-- WHAT tympan/tympanlaw27.heavy ASKS -/
abbrev asks (x0b : Option Addr) (x0n : Nat) (x0c : Nat) (K : Value → H → Prop) (h : H) : Prop := n1 x0b x0n x0c (fun y2 h => K (.bool y2) h) (fun y2 h => K (.bool y2) h) h
theorem ok (x0b : Option Addr) (x0n : Nat) (x0c : Nat) (K : Value → H → Prop) (h : H) (hS : asks x0b x0n x0c K h) : HCalls Tryd.prog 10 ⟨[(.slice x0b x0n x0c)]⟩ h K := by
  refine calls_of_wpC (c := code) Tryd.func10 (by kernel_rfl) (Nat.le_of_ble_eq_true (by kernel_rfl)) ?_
  refine (n1_ok x0b x0n x0c (fun y2 h => K (.bool y2) h) (fun y2 h => K (.bool y2) h) (env0 [(.slice x0b x0n x0c)]) ⟨rfl, rfl⟩ h hS).mono ?_
  intro e g' h' hq
  cases e with
  | normal =>
    have hq : D0 (fun y2 h => K (.bool y2) h) g' h' := hq
    obtain ⟨y2, ⟨hg2, hd⟩, hq⟩ := D0_ok hq
    show leaveX g'.ds h' _
    rw [hd]
    show K (g'.v 2) h'
    rw [hg2]
    exact hq
  | ret =>
    have hq : D0 (fun y2 h => K (.bool y2) h) g' h' := hq
    obtain ⟨y2, ⟨hg2, hd⟩, hq⟩ := D0_ok hq
    show leaveX g'.ds h' _
    rw [hd]
    show K (g'.v 2) h'
    rw [hg2]
    exact hq
  | _ => exact hq
end Sx.l27_heavy

/-! ### tympan/class.Prev -/
namespace Sx.class_Prev
noncomputable def code : Code := bodyOf Tryd.f15
abbrev T0 := Int → H → Prop
def E0 (g : Env) (x4 : Int) : Prop := g.v 4 = (.int .i32 x4) ∧ g.ds = []
def D0 (K : T0) (g : Env) (h : H) : Prop := nilDs g.ds (vInt .i32 (g.v 4) fun i1 => K i1 h)
theorem D0_ok {K : T0} {g : Env} {h : H} (hq : D0 K g h) : ∃ (x4 : Int), E0 g x4 ∧ K x4 h := by
  obtain ⟨hd, hq⟩ := nilDs_ok hq
  obtain ⟨y3, e2, q4⟩ := vInt_ok hq
  exact ⟨y3, ⟨e2, hd⟩, q4⟩
def Q0 (Kn : T0) (Kr : T0) : XPost
  | .normal, g, h => D0 Kn g h
  | .ret, g, h => D0 Kr g h
  | _, _, _ => False
abbrev T1 := (List UInt8) → Int → H → Prop
def E1 (g : Env) (x0 : List UInt8) (x1 : Int) : Prop := g.v 0 = (S x0) ∧ g.v 1 = (.int .i64 x1) ∧ g.ds = []
def D1 (K : T1) (g : Env) (h : H) : Prop := nilDs g.ds (vStr (g.v 0) fun s5 => vInt .i64 (g.v 1) fun i6 => K s5 i6 h)
theorem D1_ok {K : T1} {g : Env} {h : H} (hq : D1 K g h) : ∃ (x0 : List UInt8) (x1 : Int), E1 g x0 x1 ∧ K x0 x1 h := by
  obtain ⟨hd, hq⟩ := nilDs_ok hq
  obtain ⟨y8, e7, q9⟩ := vStr_ok hq
  obtain ⟨y11, e10, q12⟩ := vInt_ok q9
  exact ⟨y8, y11, ⟨e7, e10, hd⟩, q12⟩
abbrev n1 (x0 : List UInt8) (x1 : Int) (Kn : T0) (Kr : T0) (h : H) : Prop :=
  Spl (x1 ≤ (0 : Int)) (Kr (10 : Int) h) (Spl (x1 > (x0.length : Int)) (Kr (10 : Int) h) ((0 ≤ (0 : Int) ∧ (0 : Int) ≤ x1 ∧ x1 ≤ (x0.length : Int)) ∧ (HCalls Tryd.prog 33 ⟨[(S (sub x0 (0 : Int) x1))]⟩ h fun v13 h14 => vTup v13 fun l15 => uncons l15 fun e16 l17 => vInt .i32 e16 fun i18 => uncons l17 fun e19 l20 => vInt .i64 e19 fun i21 => unnil l20 (Kr i18 h14))))
theorem n1_ok (x0 : List UInt8) (x1 : Int) (Kn : T0) (Kr : T0) (g : Env) (hg : E1 g x0 x1) (h : H) (hS : n1 x0 x1 Kn Kr h) : wpC none Tryd.prog 23 code (Q0 Kn Kr) g h := by
  obtain ⟨hg0, hg1, hds⟩ := hg
  refine wpC_of_wpx (by kernel_rfl) (by kernel_rfl) (g' := ((⟨g.v, []⟩ : Env).upd (some 0) (S x0)).upd (some 1) (.int .i64 x1)) (by rw [env_ds hds, upd_self hg0, upd_self hg1]) ?_
  have e : (n1 x0 x1 Kn Kr h) = wpx none Tryd.prog 23 code (Q0 Kn Kr) (((⟨g.v, []⟩ : Env).upd (some 0) (S x0)).upd (some 1) (.int .i64 x1)) h := by kernel_rfl
  exact e ▸ hS
/-- WHAT tympan/class.Prev ASKS -/
abbrev asks (x0 : List UInt8) (x1 : Int) (K : Value → H → Prop) (h : H) : Prop := n1 x0 x1 (fun y4 h => K (.int .i32 y4) h) (fun y4 h => K (.int .i32 y4) h) h
theorem ok (x0 : List UInt8) (x1 : Int) (K : Value → H → Prop) (h : H) (hS : asks x0 x1 K h) : HCalls Tryd.prog 15 ⟨[(S x0), (.int .i64 x1)]⟩ h K := by
  refine calls_of_wpC (c := code) Tryd.func15 (by kernel_rfl) (Nat.le_of_ble_eq_true (by kernel_rfl)) ?_
  refine (n1_ok x0 x1 (fun y4 h => K (.int .i32 y4) h) (fun y4 h => K (.int .i32 y4) h) (env0 [(S x0), (.int .i64 x1)]) ⟨rfl, rfl, rfl⟩ h hS).mono ?_
  intro e g' h' hq
  cases e with
  | normal =>
    have hq : D0 (fun y4 h => K (.int .i32 y4) h) g' h' := hq
    obtain ⟨y4, ⟨hg4, hd⟩, hq⟩ := D0_ok hq
    show leaveX g'.ds h' _
    rw [hd]
    show K (g'.v 4) h'
    rw [hg4]
    exact hq
  | ret =>
    have hq : D0 (fun y4 h => K (.int .i32 y4) h) g' h' := hq
    obtain ⟨y4, ⟨hg4, hd⟩, hq⟩ := D0_ok hq
    show leaveX g'.ds h' _
    rw [hd]
    show K (g'.v 4) h'
    rw [hg4]
    exact hq
  | _ => exact hq
end Sx.class_Prev

/-! ### tympan/class.Next -/
namespace Sx.class_Next
noncomputable def code : Code := bodyOf Tryd.f16
abbrev T0 := Int → H → Prop
def E0 (g : Env) (x4 : Int) : Prop := g.v 4 = (.int .i32 x4) ∧ g.ds = []
def D0 (K : T0) (g : Env) (h : H) : Prop := nilDs g.ds (vInt .i32 (g.v 4) fun i1 => K i1 h)
theorem D0_ok {K : T0} {g : Env} {h : H} (hq : D0 K g h) : ∃ (x4 : Int), E0 g x4 ∧ K x4 h := by
  obtain ⟨hd, hq⟩ := nilDs_ok hq
  obtain ⟨y3, e2, q4⟩ := vInt_ok hq
  exact ⟨y3, ⟨e2, hd⟩, q4⟩
def Q0 (Kn : T0) (Kr : T0) : XPost
  | .normal, g, h => D0 Kn g h
  | .ret, g, h => D0 Kr g h
  | _, _, _ => False
abbrev T1 := (List UInt8) → Int → H → Prop
def E1 (g : Env) (x0 : List UInt8) (x1 : Int) : Prop := g.v 0 = (S x0) ∧ g.v 1 = (.int .i64 x1) ∧ g.ds = []
def D1 (K : T1) (g : Env) (h : H) : Prop := nilDs g.ds (vStr (g.v 0) fun s5 => vInt .i64 (g.v 1) fun i6 => K s5 i6 h)
theorem D1_ok {K : T1} {g : Env} {h : H} (hq : D1 K g h) : ∃ (x0 : List UInt8) (x1 : Int), E1 g x0 x1 ∧ K x0 x1 h := by
  obtain ⟨hd, hq⟩ := nilDs_ok hq
  obtain ⟨y8, e7, q9⟩ := vStr_ok hq
  obtain ⟨y11, e10, q12⟩ := vInt_ok q9
  exact ⟨y8, y11, ⟨e7, e10, hd⟩, q12⟩
abbrev n1 (x0 : List UInt8) (x1 : Int) (Kn : T0) (Kr : T0) (h : H) : Prop :=
  Spl (x1 < (0 : Int)) (Kr (10 : Int) h) (Spl (x1 ≥ (x0.length : Int)) (Kr (10 : Int) h) ((0 ≤ x1 ∧ x1 ≤ (x0.length : Int) ∧ (x0.length : Int) ≤ (x0.length : Int)) ∧ (HCalls Tryd.prog 34 ⟨[(S (sub x0 x1 (x0.length : Int)))]⟩ h fun v13 h14 => vTup v13 fun l15 => uncons l15 fun e16 l17 => vInt .i32 e16 fun i18 => uncons l17 fun e19 l20 => vInt .i64 e19 fun i21 => unnil l20 (Kr i18 h14))))
theorem n1_ok (x0 : List UInt8) (x1 : Int) (Kn : T0) (Kr : T0) (g : Env) (hg : E1 g x0 x1) (h : H) (hS : n1 x0 x1 Kn Kr h) : wpC none Tryd.prog 23 code (Q0 Kn Kr) g h := by
  obtain ⟨hg0, hg1, hds⟩ := hg
  refine wpC_of_wpx (by kernel_rfl) (by kernel_rfl) (g' := ((⟨g.v, []⟩ : Env).upd (some 0) (S x0)).upd (some 1) (.int .i64 x1)) (by rw [env_ds hds, upd_self hg0, upd_self hg1]) ?_
  have e : (n1 x0 x1 Kn Kr h) = wpx none Tryd.prog 23 code (Q0 Kn Kr) (((⟨g.v, []⟩ : Env).upd (some 0) (S x0)).upd (some 1) (.int .i64 x1)) h := by kernel_rfl
  exact e ▸ hS
/-- WHAT tympan/class.Next ASKS -/
abbrev asks (x0 : List UInt8) (x1 : Int) (K : Value → H → Prop) (h : H) : Prop := n1 x0 x1 (fun y4 h => K (.int .i32 y4) h) (fun y4 h => K (.int .i32 y4) h) h
theorem ok (x0 : List UInt8) (x1 : Int) (K : Value → H → Prop) (h : H) (hS : asks x0 x1 K h) : HCalls Tryd.prog 16 ⟨[(S x0), (.int .i64 x1)]⟩ h K := by
  refine calls_of_wpC (c := code) Tryd.func16 (by kernel_rfl) (Nat.le_of_ble_eq_true (by kernel_rfl)) ?_
  refine (n1_ok x0 x1 (fun y4 h => K (.int .i32 y4) h) (fun y4 h => K (.int .i32 y4) h) (env0 [(S x0), (.int .i64 x1)]) ⟨rfl, rfl, rfl⟩ h hS).mono ?_
  intro e g' h' hq
  cases e with
  | normal =>
    have hq : D0 (fun y4 h => K (.int .i32 y4) h) g' h' := hq
    obtain ⟨y4, ⟨hg4, hd⟩, hq⟩ := D0_ok hq
    show leaveX g'.ds h' _
    rw [hd]
    show K (g'.v 4) h'
    rw [hg4]
    exact hq
  | ret =>
    have hq : D0 (fun y4 h => K (.int .i32 y4) h) g' h' := hq
    obtain ⟨y4, ⟨hg4, hd⟩, hq⟩ := D0_ok hq
    show leaveX g'.ds h' _
    rw [hd]
    show K (g'.v 4) h'
    rw [hg4]
    exact hq
  | _ => exact hq
end Sx.class_Next

/-! ### tympan/stars.Read$1 -/
namespace Sx.stars_Read_1
noncomputable def code : Code := bodyOf Tryd.f17
abbrev T0 := Bool → H → Prop
def E0 (g : Env) (x4 : Bool) : Prop := g.v 4 = (.bool x4) ∧ g.ds = []
def D0 (K : T0) (g : Env) (h : H) : Prop := nilDs g.ds (vBool (g.v 4) fun b1 => K b1 h)
theorem D0_ok {K : T0} {g : Env} {h : H} (hq : D0 K g h) : ∃ (x4 : Bool), E0 g x4 ∧ K x4 h := by
  obtain ⟨hd, hq⟩ := nilDs_ok hq
  obtain ⟨y3, e2, q4⟩ := vBool_ok hq
  exact ⟨y3, ⟨e2, hd⟩, q4⟩
def Q0 (Kn : T0) (Kr : T0) : XPost
  | .normal, g, h => D0 Kn g h
  | .ret, g, h => D0 Kr g h
  | _, _, _ => False
abbrev T1 := Int → Int → H → Prop
def E1 (g : Env) (x0 : Int) (x1 : Int) : Prop := g.v 0 = (.int .i32 x0) ∧ g.v 1 = (.int .i32 x1) ∧ g.ds = []
def D1 (K : T1) (g : Env) (h : H) : Prop := nilDs g.ds (vInt .i32 (g.v 0) fun i5 => vInt .i32 (g.v 1) fun i6 => K i5 i6 h)
theorem D1_ok {K : T1} {g : Env} {h : H} (hq : D1 K g h) : ∃ (x0 : Int) (x1 : Int), E1 g x0 x1 ∧ K x0 x1 h := by
  obtain ⟨hd, hq⟩ := nilDs_ok hq
  obtain ⟨y8, e7, q9⟩ := vInt_ok hq
  obtain ⟨y11, e10, q12⟩ := vInt_ok q9
  exact ⟨y8, y11, ⟨e7, e10, hd⟩, q12⟩
abbrev n1 (x0 : Int) (x1 : Int) (Kn : T0) (Kr : T0) (h : H) : Prop :=
  HCalls Tryd.prog 18 ⟨[(.int .i32 x0)]⟩ h fun v13 h14 => vBool v13 fun b15 => cond b15 (Kr false h14) (HCalls Tryd.prog 19 ⟨[(.int .i32 x0)]⟩ h14 fun v16 h17 => vBool v16 fun b18 => cond b18 (HCalls Tryd.prog 18 ⟨[(.int .i32 x1)]⟩ h17 fun v19 h20 => vBool v19 fun b21 => cond b21 (Kr true h20) (HCalls Tryd.prog 19 ⟨[(.int .i32 x1)]⟩ h20 fun v22 h23 => vBool v22 fun b24 => cond b24 (Kr true h23) (Kr false h23))) (Kr true h17))
theorem n1_ok (x0 : Int) (x1 : Int) (Kn : T0) (Kr : T0) (g : Env) (hg : E1 g x0 x1) (h : H) (hS : n1 x0 x1 Kn Kr h) : wpC none Tryd.prog 21 code (Q0 Kn Kr) g h := by
  obtain ⟨hg0, hg1, hds⟩ := hg
  refine wpC_of_wpx (by kernel_rfl) (by kernel_rfl) (g' := ((⟨g.v, []⟩ : Env).upd (some 0) (.int .i32 x0)).upd (some 1) (.int .i32 x1)) (by rw [env_ds hds, upd_self hg0, upd_self hg1]) ?_
  have e : (n1 x0 x1 Kn Kr h) = wpx none Tryd.prog 21 code (Q0 Kn Kr) (((⟨g.v, []⟩ : Env).upd (some 0) (.int .i32 x0)).upd (some 1) (.int .i32 x1)) h := by kernel_rfl
  exact e ▸ hS
/-- WHAT tympan/stars.Read$1 ASKS -/
abbrev asks (x0 : Int) (x1 : Int) (K : Value → H → Prop) (h : H) : Prop := n1 x0 x1 (fun y4 h => K (.bool y4) h) (fun y4 h => K (.bool y4) h) h
theorem ok (x0 : Int) (x1 : Int) (K : Value → H → Prop) (h : H) (hS : asks x0 x1 K h) : HCalls Tryd.prog 17 ⟨[(.int .i32 x0), (.int .i32 x1)]⟩ h K := by
  refine calls_of_wpC (c := code) Tryd.func17 (by kernel_rfl) (Nat.le_of_ble_eq_true (by kernel_rfl)) ?_
  refine (n1_ok x0 x1 (fun y4 h => K (.bool y4) h) (fun y4 h => K (.bool y4) h) (env0 [(.int .i32 x0), (.int .i32 x1)]) ⟨rfl, rfl, rfl⟩ h hS).mono ?_
  intro e g' h' hq
  cases e with
  | normal =>
    have hq : D0 (fun y4 h => K (.bool y4) h) g' h' := hq
    obtain ⟨y4, ⟨hg4, hd⟩, hq⟩ := D0_ok hq
    show leaveX g'.ds h' _
    rw [hd]
    show K (g'.v 4) h'
    rw [hg4]
    exact hq
  | ret =>
    have hq : D0 (fun y4 h => K (.bool y4) h) g' h' := hq
    obtain ⟨y4, ⟨hg4, hd⟩, hq⟩ := D0_ok hq
    show leaveX g'.ds h' _
    rw [hd]
    show K (g'.v 4) h'
    rw [hg4]
    exact hq
  | _ => exact hq
end Sx.stars_Read_1

/-! ### tympan/tympanref02.Prev -/
namespace Sx.r02_Prev
noncomputable def code : Code := bodyOf Tryd.f20
abbrev T0 := Int → H → Prop
def E0 (g : Env) (x4 : Int) : Prop := g.v 4 = (.int .i32 x4) ∧ g.ds = []
def D0 (K : T0) (g : Env) (h : H) : Prop := nilDs g.ds (vInt .i32 (g.v 4) fun i1 => K i1 h)
theorem D0_ok {K : T0} {g : Env} {h : H} (hq : D0 K g h) : ∃ (x4 : Int), E0 g x4 ∧ K x4 h := by
  obtain ⟨hd, hq⟩ := nilDs_ok hq
  obtain ⟨y3, e2, q4⟩ := vInt_ok hq
  exact ⟨y3, ⟨e2, hd⟩, q4⟩
def Q0 (Kn : T0) (Kr : T0) : XPost
  | .normal, g, h => D0 Kn g h
  | .ret, g, h => D0 Kr g h
  | _, _, _ => False
abbrev T1 := (List UInt8) → Int → H → Prop
def E1 (g : Env) (x0 : List UInt8) (x1 : Int) : Prop := g.v 0 = (S x0) ∧ g.v 1 = (.int .i64 x1) ∧ g.ds = []
def D1 (K : T1) (g : Env) (h : H) : Prop := nilDs g.ds (vStr (g.v 0) fun s5 => vInt .i64 (g.v 1) fun i6 => K s5 i6 h)
theorem D1_ok {K : T1} {g : Env} {h : H} (hq : D1 K g h) : ∃ (x0 : List UInt8) (x1 : Int), E1 g x0 x1 ∧ K x0 x1 h := by
  obtain ⟨hd, hq⟩ := nilDs_ok hq
  obtain ⟨y8, e7, q9⟩ := vStr_ok hq
  obtain ⟨y11, e10, q12⟩ := vInt_ok q9
  exact ⟨y8, y11, ⟨e7, e10, hd⟩, q12⟩
abbrev n1 (x0 : List UInt8) (x1 : Int) (Kn : T0) (Kr : T0) (h : H) : Prop :=
  Spl (x1 ≤ (0 : Int)) (Kr (10 : Int) h) (Spl (x1 > (x0.length : Int)) (Kr (10 : Int) h) ((0 ≤ (0 : Int) ∧ (0 : Int) ≤ x1 ∧ x1 ≤ (x0.length : Int)) ∧ (SemH Tryd.prog (convert 9 65 (S (sub x0 (0 : Int) x1))) h fun v13 h14 => vSlice v13 fun s15b s15n s15c => Rng .i64 ((s15n : Int) - (1 : Int)) ∧ ((0 ≤ ((s15n : Int) - (1 : Int)) ∧ ((s15n : Int) - (1 : Int)) < (s15n : Int)) ∧ (vSome s15b fun a16 => ∃ i17, cell h14 (a16.add (Int.toNat ((s15n : Int) - (1 : Int)) * 1)) = some (.int .i32 i17) ∧ (Kr i17 h14))))))
theorem n1_ok (x0 : List UInt8) (x1 : Int) (Kn : T0) (Kr : T0) (g : Env) (hg : E1 g x0 x1) (h : H) (hS : n1 x0 x1 Kn Kr h) : wpC none Tryd.prog 24 code (Q0 Kn Kr) g h := by
  obtain ⟨hg0, hg1, hds⟩ := hg
  refine wpC_of_wpx (by kernel_rfl) (by kernel_rfl) (g' := ((⟨g.v, []⟩ : Env).upd (some 0) (S x0)).upd (some 1) (.int .i64 x1)) (by rw [env_ds hds, upd_self hg0, upd_self hg1]) ?_
  have e : (n1 x0 x1 Kn Kr h) = wpx none Tryd.prog 24 code (Q0 Kn Kr) (((⟨g.v, []⟩ : Env).upd (some 0) (S x0)).upd (some 1) (.int .i64 x1)) h := by kernel_rfl
  exact e ▸ hS
/-- WHAT tympan/tympanref02.Prev ASKS -/
abbrev asks (x0 : List UInt8) (x1 : Int) (K : Value → H → Prop) (h : H) : Prop := n1 x0 x1 (fun y4 h => K (.int .i32 y4) h) (fun y4 h => K (.int .i32 y4) h) h
theorem ok (x0 : List UInt8) (x1 : Int) (K : Value → H → Prop) (h : H) (hS : asks x0 x1 K h) : HCalls Tryd.prog 20 ⟨[(S x0), (.int .i64 x1)]⟩ h K := by
  refine calls_of_wpC (c := code) Tryd.func20 (by kernel_rfl) (Nat.le_of_ble_eq_true (by kernel_rfl)) ?_
  refine (n1_ok x0 x1 (fun y4 h => K (.int .i32 y4) h) (fun y4 h => K (.int .i32 y4) h) (env0 [(S x0), (.int .i64 x1)]) ⟨rfl, rfl, rfl⟩ h hS).mono ?_
  intro e g' h' hq
  cases e with
  | normal =>
    have hq : D0 (fun y4 h => K (.int .i32 y4) h) g' h' := hq
    obtain ⟨y4, ⟨hg4, hd⟩, hq⟩ := D0_ok hq
    show leaveX g'.ds h' _
    rw [hd]
    show K (g'.v 4) h'
    rw [hg4]
    exact hq
  | ret =>
    have hq : D0 (fun y4 h => K (.int .i32 y4) h) g' h' := hq
    obtain ⟨y4, ⟨hg4, hd⟩, hq⟩ := D0_ok hq
    show leaveX g'.ds h' _
    rw [hd]
    show K (g'.v 4) h'
    rw [hg4]
    exact hq
  | _ => exact hq
end Sx.r02_Prev

/-! ### tympan/tympanref02.Next -/
namespace Sx.r02_Next
noncomputable def code : Code := bodyOf Tryd.f21
abbrev T0 := Int → H → Prop
def E0 (g : Env) (x4 : Int) : Prop := g.v 4 = (.int .i32 x4) ∧ g.ds = []
def D0 (K : T0) (g : Env) (h : H) : Prop := nilDs g.ds (vInt .i32 (g.v 4) fun i1 => K i1 h)
theorem D0_ok {K : T0} {g : Env} {h : H} (hq : D0 K g h) : ∃ (x4 : Int), E0 g x4 ∧ K x4 h := by
  obtain ⟨hd, hq⟩ := nilDs_ok hq
  obtain ⟨y3, e2, q4⟩ := vInt_ok hq
  exact ⟨y3, ⟨e2, hd⟩, q4⟩
def Q0 (Kn : T0) (Kr : T0) : XPost
  | .normal, g, h => D0 Kn g h
  | .ret, g, h => D0 Kr g h
  | _, _, _ => False
abbrev T1 := (List UInt8) → Int → H → Prop
def E1 (g : Env) (x0 : List UInt8) (x1 : Int) : Prop := g.v 0 = (S x0) ∧ g.v 1 = (.int .i64 x1) ∧ g.ds = []
def D1 (K : T1) (g : Env) (h : H) : Prop := nilDs g.ds (vStr (g.v 0) fun s5 => vInt .i64 (g.v 1) fun i6 => K s5 i6 h)
theorem D1_ok {K : T1} {g : Env} {h : H} (hq : D1 K g h) : ∃ (x0 : List UInt8) (x1 : Int), E1 g x0 x1 ∧ K x0 x1 h := by
  obtain ⟨hd, hq⟩ := nilDs_ok hq
  obtain ⟨y8, e7, q9⟩ := vStr_ok hq
  obtain ⟨y11, e10, q12⟩ := vInt_ok q9
  exact ⟨y8, y11, ⟨e7, e10, hd⟩, q12⟩
abbrev n1 (x0 : List UInt8) (x1 : Int) (Kn : T0) (Kr : T0) (h : H) : Prop :=
  Spl (x1 < (0 : Int)) (Kr (10 : Int) h) (Spl (x1 ≥ (x0.length : Int)) (Kr (10 : Int) h) ((0 ≤ x1 ∧ x1 ≤ (x0.length : Int) ∧ (x0.length : Int) ≤ (x0.length : Int)) ∧ (SemH Tryd.prog (convert 9 65 (S (sub x0 x1 (x0.length : Int)))) h fun v13 h14 => vSlice v13 fun s15b s15n s15c => (0 ≤ (0 : Int) ∧ (0 : Int) < (s15n : Int)) ∧ (vSome s15b fun a16 => ∃ i17, cell h14 (a16.add (Int.toNat (0 : Int) * 1)) = some (.int .i32 i17) ∧ (Kr i17 h14)))))
theorem n1_ok (x0 : List UInt8) (x1 : Int) (Kn : T0) (Kr : T0) (g : Env) (hg : E1 g x0 x1) (h : H) (hS : n1 x0 x1 Kn Kr h) : wpC none Tryd.prog 21 code (Q0 Kn Kr) g h := by
  obtain ⟨hg0, hg1, hds⟩ := hg
  refine wpC_of_wpx (by kernel_rfl) (by kernel_rfl) (g' := ((⟨g.v, []⟩ : Env).upd (some 0) (S x0)).upd (some 1) (.int .i64 x1)) (by rw [env_ds hds, upd_self hg0, upd_self hg1]) ?_
  have e : (n1 x0 x1 Kn Kr h) = wpx none Tryd.prog 21 code (Q0 Kn Kr) (((⟨g.v, []⟩ : Env).upd (some 0) (S x0)).upd (some 1) (.int .i64 x1)) h := by kernel_rfl
  exact e ▸ hS
/-- WHAT tympan/tympanref02.Next ASKS -/
abbrev asks (x0 : List UInt8) (x1 : Int) (K : Value → H → Prop) (h : H) : Prop := n1 x0 x1 (fun y4 h => K (.int .i32 y4) h) (fun y4 h => K (.int .i32 y4) h) h
theorem ok (x0 : List UInt8) (x1 : Int) (K : Value → H → Prop) (h : H) (hS : asks x0 x1 K h) : HCalls Tryd.prog 21 ⟨[(S x0), (.int .i64 x1)]⟩ h K := by
  refine calls_of_wpC (c := code) Tryd.func21 (by kernel_rfl) (Nat.le_of_ble_eq_true (by kernel_rfl)) ?_
  refine (n1_ok x0 x1 (fun y4 h => K (.int .i32 y4) h) (fun y4 h => K (.int .i32 y4) h) (env0 [(S x0), (.int .i64 x1)]) ⟨rfl, rfl, rfl⟩ h hS).mono ?_
  intro e g' h' hq
  cases e with
  | normal =>
    have hq : D0 (fun y4 h => K (.int .i32 y4) h) g' h' := hq
    obtain ⟨y4, ⟨hg4, hd⟩, hq⟩ := D0_ok hq
    show leaveX g'.ds h' _
    rw [hd]
    show K (g'.v 4) h'
    rw [hg4]
    exact hq
  | ret =>
    have hq : D0 (fun y4 h => K (.int .i32 y4) h) g' h' := hq
    obtain ⟨y4, ⟨hg4, hd⟩, hq⟩ := D0_ok hq
    show leaveX g'.ds h' _
    rw [hd]
    show K (g'.v 4) h'
    rw [hg4]
    exact hq
  | _ => exact hq
end Sx.r02_Next

/-! ### tympan/tympanref02.Punct -/
namespace Sx.r02_Punct
noncomputable def code : Code := bodyOf Tryd.f23
abbrev T0 := Bool → H → Prop
def E0 (g : Env) (x2 : Bool) : Prop := g.v 2 = (.bool x2) ∧ g.ds = []
def D0 (K : T0) (g : Env) (h : H) : Prop := nilDs g.ds (vBool (g.v 2) fun b1 => K b1 h)
theorem D0_ok {K : T0} {g : Env} {h : H} (hq : D0 K g h) : ∃ (x2 : Bool), E0 g x2 ∧ K x2 h := by
  obtain ⟨hd, hq⟩ := nilDs_ok hq
  obtain ⟨y3, e2, q4⟩ := vBool_ok hq
  exact ⟨y3, ⟨e2, hd⟩, q4⟩
def Q0 (Kn : T0) (Kr : T0) : XPost
  | .normal, g, h => D0 Kn g h
  | .ret, g, h => D0 Kr g h
  | _, _, _ => False
abbrev T1 := Int → H → Prop
def E1 (g : Env) (x0 : Int) : Prop := g.v 0 = (.int .i32 x0) ∧ g.ds = []
def D1 (K : T1) (g : Env) (h : H) : Prop := nilDs g.ds (vInt .i32 (g.v 0) fun i5 => K i5 h)
theorem D1_ok {K : T1} {g : Env} {h : H} (hq : D1 K g h) : ∃ (x0 : Int), E1 g x0 ∧ K x0 h := by
  obtain ⟨hd, hq⟩ := nilDs_ok hq
  obtain ⟨y7, e6, q8⟩ := vInt_ok hq
  exact ⟨y7, ⟨e6, hd⟩, q8⟩
noncomputable def n1_c1 : Code := cFst code
noncomputable def n1_c2 : Code := cSnd code
noncomputable def n2_c1 : Code := cFst n1_c2
noncomputable def n2_c2 : Code := cSnd n1_c2
abbrev T2 := Int → (Option Addr) → Nat → Nat → H → Prop
def E2 (g : Env) (x0 : Int) (x3b : Option Addr) (x3n : Nat) (x3c : Nat) : Prop := g.v 0 = (.int .i32 x0) ∧ g.v 3 = (.slice x3b x3n x3c) ∧ g.ds = []
def D2 (K : T2) (g : Env) (h : H) : Prop := nilDs g.ds (vInt .i32 (g.v 0) fun i9 => vSlice (g.v 3) fun s10b s10n s10c => K i9 s10b s10n s10c h)
theorem D2_ok {K : T2} {g : Env} {h : H} (hq : D2 K g h) : ∃ (x0 : Int) (x3b : Option Addr) (x3n : Nat) (x3c : Nat), E2 g x0 x3b x3n x3c ∧ K x0 x3b x3n x3c h := by
  obtain ⟨hd, hq⟩ := nilDs_ok hq
  obtain ⟨y12, e11, q13⟩ := vInt_ok hq
  obtain ⟨y15b, y15n, y15c, e14, q16⟩ := vSlice_ok q13
  exact ⟨y12, y15b, y15n, y15c, ⟨e11, e14, hd⟩, q16⟩
noncomputable def n3_c1 : Code := cFst n2_c2
noncomputable def n3_c2 : Code := cSnd n2_c2
abbrev T3 := Int → (Option Addr) → Nat → Nat → (Option Addr) → Nat → Nat → H → Prop
def E3 (g : Env) (x0 : Int) (x3b : Option Addr) (x3n : Nat) (x3c : Nat) (x4b : Option Addr) (x4n : Nat) (x4c : Nat) : Prop := g.v 0 = (.int .i32 x0) ∧ g.v 3 = (.slice x3b x3n x3c) ∧ g.v 4 = (.slice x4b x4n x4c) ∧ g.ds = []
def D3 (K : T3) (g : Env) (h : H) : Prop := nilDs g.ds (vInt .i32 (g.v 0) fun i17 => vSlice (g.v 3) fun s18b s18n s18c => vSlice (g.v 4) fun s19b s19n s19c => K i17 s18b s18n s18c s19b s19n s19c h)
theorem D3_ok {K : T3} {g : Env} {h : H} (hq : D3 K g h) : ∃ (x0 : Int) (x3b : Option Addr) (x3n : Nat) (x3c : Nat) (x4b : Option Addr) (x4n : Nat) (x4c : Nat), E3 g x0 x3b x3n x3c x4b x4n x4c ∧ K x0 x3b x3n x3c x4b x4n x4c h := by
  obtain ⟨hd, hq⟩ := nilDs_ok hq
  obtain ⟨y21, e20, q22⟩ := vInt_ok hq
  obtain ⟨y24b, y24n, y24c, e23, q25⟩ := vSlice_ok q22
  obtain ⟨y27b, y27n, y27c, e26, q28⟩ := vSlice_ok q25
  exact ⟨y21, y24b, y24n, y24c, y27b, y27n, y27c, ⟨e20, e23, e26, hd⟩, q28⟩
noncomputable def n4_c1 : Code := cFst n3_c2
noncomputable def n4_c2 : Code := cSnd n3_c2
noncomputable def n5_c1 : Code := cFst n4_c2
noncomputable def n5_c2 : Code := cSnd n4_c2
noncomputable def n6_c1 : Code := cFst n5_c2
noncomputable def n6_c2 : Code := cSnd n5_c2
abbrev T4 := H → Prop
def E4 (g : Env)  : Prop := g.ds = []
def D4 (K : T4) (g : Env) (h : H) : Prop := nilDs g.ds (K h)
theorem D4_ok {K : T4} {g : Env} {h : H} (hq : D4 K g h) : E4 g  ∧ K  h := by
  obtain ⟨hd, hq⟩ := nilDs_ok hq
  skip
  exact ⟨hd, hq⟩
abbrev n7  (Kn : T0) (Kr : T0) (h : H) : Prop :=
  Kr false h
theorem n7_ok  (Kn : T0) (Kr : T0) (g : Env) (hg : E4 g ) (h : H) (hS : n7  Kn Kr h) : wpC none Tryd.prog 35 n6_c2 (Q0 Kn Kr) g h := by
  have hds : g.ds = [] := hg
  refine wpC_of_wpx (by kernel_rfl) (by kernel_rfl) (g' := ⟨g.v, []⟩) (by rw [env_ds hds]) ?_
  have e : (n7  Kn Kr h) = wpx none Tryd.prog 35 n6_c2 (Q0 Kn Kr) (⟨g.v, []⟩) h := by kernel_rfl
  exact e ▸ hS
def Q1 (Kn : T4) (Kr : T0) : XPost
  | .normal, g, h => D4 Kn g h
  | .ret, g, h => D0 Kr g h
  | _, _, _ => False
noncomputable def n8_c1 : Code := cFst n6_c1
noncomputable def n8_c2 : Code := cSnd n6_c1
abbrev T5 := Int → (Option Addr) → Nat → Nat → Int → H → Prop
def E5 (g : Env) (x0 : Int) (x3b : Option Addr) (x3n : Nat) (x3c : Nat) (x5 : Int) : Prop := g.v 0 = (.int .i32 x0) ∧ g.v 3 = (.slice x3b x3n x3c) ∧ g.v 5 = (.int .i64 x5) ∧ g.ds = []
def D5 (K : T5) (g : Env) (h : H) : Prop := nilDs g.ds (vInt .i32 (g.v 0) fun i29 => vSlice (g.v 3) fun s30b s30n s30c => vInt .i64 (g.v 5) fun i31 => K i29 s30b s30n s30c i31 h)
theorem D5_ok {K : T5} {g : Env} {h : H} (hq : D5 K g h) : ∃ (x0 : Int) (x3b : Option Addr) (x3n : Nat) (x3c : Nat) (x5 : Int), E5 g x0 x3b x3n x3c x5 ∧ K x0 x3b x3n x3c x5 h := by
  obtain ⟨hd, hq⟩ := nilDs_ok hq
  obtain ⟨y33, e32, q34⟩ := vInt_ok hq
  obtain ⟨y36b, y36n, y36c, e35, q37⟩ := vSlice_ok q34
  obtain ⟨y39, e38, q40⟩ := vInt_ok q37
  exact ⟨y33, y36b, y36n, y36c, y39, ⟨e32, e35, e38, hd⟩, q40⟩
noncomputable def n9_c1 : Code := cFst n8_c2
def Q2 (Kn : T4) (Ke0 : T4) (Kr : T0) : XPost
  | .normal, g, h => D4 Kn g h
  | .ret, g, h => D0 Kr g h
  | .exit id, g, h => cond (Nat.beq id 0) (D4 Ke0 g h) (False)
  | _, _, _ => False
noncomputable def n10_c1 : Code := cFst n9_c1
def Q3 (Kn : T5) (Ke0 : T4) (Kr : T0) : XPost
  | .normal, g, h => D5 Kn g h
  | .ret, g, h => D0 Kr g h
  | .exit id, g, h => cond (Nat.beq id 0) (D4 Ke0 g h) (False)
  | _, _, _ => False
def n10_L (Kn : T4) (Ke0 : T4) (Kr : T0) : Nat → Int → (Option Addr) → Nat → Nat → Int → H → Prop
  | 0 => fun _ _ _ _ _ _ => False
  | N + 1 => fun x0 x3b x3n x3c x5 h => Spl (x5 < (x3n : Int)) ((0 ≤ x5 ∧ x5 < (x3n : Int)) ∧ (vSome x3b fun a41 => ∃ i42, cell h (a41.add (Int.toNat x5 * 1)) = some (.int .i32 i42) ∧ (Spl (x0 ≥ i42) (Rng .i64 (x5 + (1 : Int)) ∧ ((0 ≤ (x5 + (1 : Int)) ∧ (x5 + (1 : Int)) < (x3n : Int)) ∧ (vSome x3b fun a43 => ∃ i44, cell h (a43.add (Int.toNat (x5 + (1 : Int)) * 1)) = some (.int .i32 i44) ∧ (Spl (x0 ≤ i44) (Kr true h) (Rng .i64 (x5 + (2 : Int)) ∧ (n10_L Kn Ke0 Kr N x0 x3b x3n x3c (x5 + (2 : Int)) h)))))) (Rng .i64 (x5 + (2 : Int)) ∧ (n10_L Kn Ke0 Kr N x0 x3b x3n x3c (x5 + (2 : Int)) h))))) (Ke0 h)
abbrev n10 (x0 : Int) (x3b : Option Addr) (x3n : Nat) (x3c : Nat) (x5 : Int) (Kn : T4) (Ke0 : T4) (Kr : T0) (h : H) : Prop := ∃ N, n10_L Kn Ke0 Kr N x0 x3b x3n x3c x5 h
theorem n10_ok (x0 : Int) (x3b : Option Addr) (x3n : Nat) (x3c : Nat) (x5 : Int) (Kn : T4) (Ke0 : T4) (Kr : T0) (g : Env) (hg : E5 g x0 x3b x3n x3c x5) (h : H) (hS : n10 x0 x3b x3n x3c x5 Kn Ke0 Kr h) : wpC none Tryd.prog 35 n9_c1 (Q2 Kn Ke0 Kr) g h := by
  obtain ⟨N0, hS⟩ := hS
  refine wpC_loop' (x := n10_c1) (by kernel_rfl) (fun k g h => ∃ (x0 : Int) (x3b : Option Addr) (x3n : Nat) (x3c : Nat) (x5 : Int), E5 g x0 x3b x3n x3c x5 ∧ n10_L Kn Ke0 Kr k x0 x3b x3n x3c x5 h) (fun g h hr => ?_) (fun N g h hr => ?_) N0 ⟨x0, x3b, x3n, x3c, x5, hg, hS⟩
  · obtain ⟨x0, x3b, x3n, x3c, x5, hg, hS⟩ := hr
    exact hS.elim
  · obtain ⟨x0, x3b, x3n, x3c, x5, hg, hS⟩ := hr
    have hw : wpC none Tryd.prog 35 n10_c1 (Q3 (fun z0 z3b z3n z3c z5 h => n10_L Kn Ke0 Kr N z0 z3b z3n z3c z5 h) Ke0 Kr) g h := by
      obtain ⟨hg0, hg3, hg5, hds⟩ := hg
      refine wpC_of_wpx (by kernel_rfl) (by kernel_rfl) (g' := (((⟨g.v, []⟩ : Env).upd (some 0) (.int .i32 x0)).upd (some 3) (.slice x3b x3n x3c)).upd (some 5) (.int .i64 x5)) (by rw [env_ds hds, upd_self hg0, upd_self hg3, upd_self hg5]) ?_
      have e : (n10_L Kn Ke0 Kr (N + 1) x0 x3b x3n x3c x5 h) = wpx none Tryd.prog 35 n10_c1 (Q3 (fun z0 z3b z3n z3c z5 h => n10_L Kn Ke0 Kr N z0 z3b z3n z3c z5 h) Ke0 Kr) ((((⟨g.v, []⟩ : Env).upd (some 0) (.int .i32 x0)).upd (some 3) (.slice x3b x3n x3c)).upd (some 5) (.int .i64 x5)) h := by kernel_rfl
      exact e ▸ hS
    refine hw.mono ?_
    intro e g' h' hq
    cases e with
    | normal => exact D5_ok (K := (fun z0 z3b z3n z3c z5 h => n10_L Kn Ke0 Kr N z0 z3b z3n z3c z5 h)) hq
    | _ => exact hq
abbrev n9 (x0 : Int) (x3b : Option Addr) (x3n : Nat) (x3c : Nat) (x5 : Int) (Kn : T4) (Kr : T0) (h : H) : Prop := n10 x0 x3b x3n x3c x5 Kn Kn Kr h
theorem n9_ok (x0 : Int) (x3b : Option Addr) (x3n : Nat) (x3c : Nat) (x5 : Int) (Kn : T4) (Kr : T0) (g : Env) (hg : E5 g x0 x3b x3n x3c x5) (h : H) (hS : n9 x0 x3b x3n x3c x5 Kn Kr h) : wpC none Tryd.prog 35 n8_c2 (Q1 Kn Kr) g h := by
  refine wpC_block' (id := 0) (x := n9_c1) (by kernel_rfl) (n10_ok x0 x3b x3n x3c x5 Kn Kn Kr g hg h hS) ?_
  intro e g' h' hq
  cases e <;> exact hq
def Q4 (Kn : T5) (Kr : T0) : XPost
  | .normal, g, h => D5 Kn g h
  | .ret, g, h => D0 Kr g h
  | _, _, _ => False
abbrev n8 (x0 : Int) (x3b : Option Addr) (x3n : Nat) (x3c : Nat) (Kn : T4) (Kr : T0) (h : H) : Prop :=
  n9 x0 x3b x3n x3c (0 : Int) Kn Kr h
theorem n8_ok (x0 : Int) (x3b : Option Addr) (x3n : Nat) (x3c : Nat) (Kn : T4) (Kr : T0) (g : Env) (hg : E2 g x0 x3b x3n x3c) (h : H) (hS : n8 x0 x3b x3n x3c Kn Kr h) : wpC none Tryd.prog 35 n6_c1 (Q1 Kn Kr) g h := by
  obtain ⟨hg0, hg3, hds⟩ := hg
  refine wpC_seq' (x := n8_c1) (y := n8_c2) (Q' := (Q4 (fun z0 z3b z3n z3c z5 h => n9 z0 z3b z3n z3c z5 Kn Kr h) Kr)) (by kernel_rfl) ?_ ?_
  · refine wpC_of_wpx (by kernel_rfl) (by kernel_rfl) (g' := ((⟨g.v, []⟩ : Env).upd (some 0) (.int .i32 x0)).upd (some 3) (.slice x3b x3n x3c)) (by rw [env_ds hds, upd_self hg0, upd_self hg3]) ?_
    have e : (n8 x0 x3b x3n x3c Kn Kr h) = wpx none Tryd.prog 35 n8_c1 (Q4 (fun z0 z3b z3n z3c z5 h => n9 z0 z3b z3n z3c z5 Kn Kr h) Kr) (((⟨g.v, []⟩ : Env).upd (some 0) (.int .i32 x0)).upd (some 3) (.slice x3b x3n x3c)) h := by kernel_rfl
    exact e ▸ hS
  · intro e g' h' hq
    cases e with
    | normal =>
      have hq : D5 (fun z0 z3b z3n z3c z5 h => n9 z0 z3b z3n z3c z5 Kn Kr h) g' h' := hq
      obtain ⟨y0, y3b, y3n, y3c, y5, hg', hq⟩ := D5_ok hq
      exact n9_ok y0 y3b y3n y3c y5 Kn Kr g' hg' h' hq
    | _ => exact hq
abbrev n6 (x0 : Int) (x3b : Option Addr) (x3n : Nat) (x3c : Nat) (Kn : T0) (Kr : T0) (h : H) : Prop := n8 x0 x3b x3n x3c (fun  h => n7 Kn Kr h) Kr h
theorem n6_ok (x0 : Int) (x3b : Option Addr) (x3n : Nat) (x3c : Nat) (Kn : T0) (Kr : T0) (g : Env) (hg : E2 g x0 x3b x3n x3c) (h : H) (hS : n6 x0 x3b x3n x3c Kn Kr h) : wpC none Tryd.prog 35 n5_c2 (Q0 Kn Kr) g h := by
  refine wpC_seq' (x := n6_c1) (y := n6_c2) (by kernel_rfl) (n8_ok x0 x3b x3n x3c (fun  h => n7 Kn Kr h) Kr g hg h hS) ?_
  intro e g' h' hq
  cases e with
  | normal =>
    have hq : D4 (fun  h => n7 Kn Kr h) g' h' := hq
    obtain ⟨hg', hq⟩ := D4_ok hq
    exact n7_ok  Kn Kr g' hg' h' hq
  | _ => exact hq
def Q5 (Kn : T2) (Kr : T0) : XPost
  | .normal, g, h => D2 Kn g h
  | .ret, g, h => D0 Kr g h
  | _, _, _ => False
abbrev n5 (x0 : Int) (x3b : Option Addr) (x3n : Nat) (x3c : Nat) (Kn : T0) (Kr : T0) (h : H) : Prop :=
  newx h #[(.int .i32 (65281 : Int)), (.int .i32 (65295 : Int)), (.int .i32 (65306 : Int)), (.int .i32 (65312 : Int)), (.int .i32 (65339 : Int)), (.int .i32 (65344 : Int)), (.int .i32 (65371 : Int)), (.int .i32 (65381 : Int)), (.int .i32 (127744 : Int)), (.int .i32 (129791 : Int))] 21 fun a45 h46 => SemH Tryd.prog (Builtin.append_ #[65, 65] 65 ⟨[(.slice x3b x3n x3c), (.slice (some a45) 10 10)]⟩) h46 fun v47 h48 => vSlice v47 fun s49b s49n s49c => n6 x0 s49b s49n s49c Kn Kr h48
theorem n5_ok (x0 : Int) (x3b : Option Addr) (x3n : Nat) (x3c : Nat) (Kn : T0) (Kr : T0) (g : Env) (hg : E2 g x0 x3b x3n x3c) (h : H) (hS : n5 x0 x3b x3n x3c Kn Kr h) : wpC none Tryd.prog 35 n4_c2 (Q0 Kn Kr) g h := by
  obtain ⟨hg0, hg3, hds⟩ := hg
  refine wpC_seq' (x := n5_c1) (y := n5_c2) (Q' := (Q5 (fun z0 z3b z3n z3c h => n6 z0 z3b z3n z3c Kn Kr h) Kr)) (by kernel_rfl) ?_ ?_
  · refine wpC_of_wpx (by kernel_rfl) (by kernel_rfl) (g' := ((⟨g.v, []⟩ : Env).upd (some 0) (.int .i32 x0)).upd (some 3) (.slice x3b x3n x3c)) (by rw [env_ds hds, upd_self hg0, upd_self hg3]) ?_
    have e : (n5 x0 x3b x3n x3c Kn Kr h) = wpx none Tryd.prog 35 n5_c1 (Q5 (fun z0 z3b z3n z3c h => n6 z0 z3b z3n z3c Kn Kr h) Kr) (((⟨g.v, []⟩ : Env).upd (some 0) (.int .i32 x0)).upd (some 3) (.slice x3b x3n x3c)) h := by kernel_rfl
    exact e ▸ hS
  · intro e g' h' hq
    cases e with
    | normal =>
      have hq : D2 (fun z0 z3b z3n z3c h => n6 z0 z3b z3n z3c Kn Kr h) g' h' := hq
      obtain ⟨y0, y3b, y3n, y3c, hg', hq⟩ := D2_ok hq
      exact n6_ok y0 y3b y3n y3c Kn Kr g' hg' h' hq
    | _ => exact hq
abbrev n4 (x0 : Int) (x3b : Option Addr) (x3n : Nat) (x3c : Nat) (x4b : Option Addr) (x4n : Nat) (x4c : Nat) (Kn : T0) (Kr : T0) (h : H) : Prop :=
  SemH Tryd.prog (Builtin.append_ #[65, 65] 65 ⟨[(.slice x3b x3n x3c), (.slice x4b x4n x4c)]⟩) h fun v50 h51 => vSlice v50 fun s52b s52n s52c => n5 x0 s52b s52n s52c Kn Kr h51
theorem n4_ok (x0 : Int) (x3b : Option Addr) (x3n : Nat) (x3c : Nat) (x4b : Option Addr) (x4n : Nat) (x4c : Nat) (Kn : T0) (Kr : T0) (g : Env) (hg : E3 g x0 x3b x3n x3c x4b x4n x4c) (h : H) (hS : n4 x0 x3b x3n x3c x4b x4n x4c Kn Kr h) : wpC none Tryd.prog 35 n3_c2 (Q0 Kn Kr) g h := by
  obtain ⟨hg0, hg3, hg4, hds⟩ := hg
  refine wpC_seq' (x := n4_c1) (y := n4_c2) (Q' := (Q5 (fun z0 z3b z3n z3c h => n5 z0 z3b z3n z3c Kn Kr h) Kr)) (by kernel_rfl) ?_ ?_
  · refine wpC_of_wpx (by kernel_rfl) (by kernel_rfl) (g' := (((⟨g.v, []⟩ : Env).upd (some 0) (.int .i32 x0)).upd (some 3) (.slice x3b x3n x3c)).upd (some 4) (.slice x4b x4n x4c)) (by rw [env_ds hds, upd_self hg0, upd_self hg3, upd_self hg4]) ?_
    have e : (n4 x0 x3b x3n x3c x4b x4n x4c Kn Kr h) = wpx none Tryd.prog 35 n4_c1 (Q5 (fun z0 z3b z3n z3c h => n5 z0 z3b z3n z3c Kn Kr h) Kr) ((((⟨g.v, []⟩ : Env).upd (some 0) (.int .i32 x0)).upd (some 3) (.slice x3b x3n x3c)).upd (some 4) (.slice x4b x4n x4c)) h := by kernel_rfl
    exact e ▸ hS
  · intro e g' h' hq
    cases e with
    | normal =>
      have hq : D2 (fun z0 z3b z3n z3c h => n5 z0 z3b z3n z3c Kn Kr h) g' h' := hq
      obtain ⟨y0, y3b, y3n, y3c, hg', hq⟩ := D2_ok hq
      exact n5_ok y0 y3b y3n y3c Kn Kr g' hg' h' hq
    | _ => exact hq
def Q6 (Kn : T3) (Kr : T0) : XPost
  | .normal, g, h => D3 Kn g h
  | .ret, g, h => D0 Kr g h
  | _, _, _ => False
abbrev n3 (x0 : Int) (x3b : Option Addr) (x3n : Nat) (x3c : Nat) (Kn : T0) (Kr : T0) (h : H) : Prop :=
  newx h #[(.int .i32 (8208 : Int)), (.int .i32 (8231 : Int)), (.int .i32 (8240 : Int)), (.int .i32 (8286 : Int)), (.int .i32 (8352 : Int)), (.int .i32 (8384 : Int)), (.int .i32 (8592 : Int)), (.int .i32 (9215 : Int)), (.int .i32 (9472 : Int)), (.int .i32 (10175 : Int)), (.int .i32 (11776 : Int)), (.int .i32 (11869 : Int)), (.int .i32 (12289 : Int)), (.int .i32 (12291 : Int)), (.int .i32 (12296 : Int)), (.int .i32 (12320 : Int)), (.int .i32 (65040 : Int)), (.int .i32 (65049 : Int)), (.int .i32 (65072 : Int)), (.int .i32 (65131 : Int))] 21 fun a53 h54 => n4 x0 x3b x3n x3c (some a53) 20 20 Kn Kr h54
theorem n3_ok (x0 : Int) (x3b : Option Addr) (x3n : Nat) (x3c : Nat) (Kn : T0) (Kr : T0) (g : Env) (hg : E2 g x0 x3b x3n x3c) (h : H) (hS : n3 x0 x3b x3n x3c Kn Kr h) : wpC none Tryd.prog 35 n2_c2 (Q0 Kn Kr) g h := by
  obtain ⟨hg0, hg3, hds⟩ := hg
  refine wpC_seq' (x := n3_c1) (y := n3_c2) (Q' := (Q6 (fun z0 z3b z3n z3c z4b z4n z4c h => n4 z0 z3b z3n z3c z4b z4n z4c Kn Kr h) Kr)) (by kernel_rfl) ?_ ?_
  · refine wpC_of_wpx (by kernel_rfl) (by kernel_rfl) (g' := ((⟨g.v, []⟩ : Env).upd (some 0) (.int .i32 x0)).upd (some 3) (.slice x3b x3n x3c)) (by rw [env_ds hds, upd_self hg0, upd_self hg3]) ?_
    have e : (n3 x0 x3b x3n x3c Kn Kr h) = wpx none Tryd.prog 35 n3_c1 (Q6 (fun z0 z3b z3n z3c z4b z4n z4c h => n4 z0 z3b z3n z3c z4b z4n z4c Kn Kr h) Kr) (((⟨g.v, []⟩ : Env).upd (some 0) (.int .i32 x0)).upd (some 3) (.slice x3b x3n x3c)) h := by kernel_rfl
    exact e ▸ hS
  · intro e g' h' hq
    cases e with
    | normal =>
      have hq : D3 (fun z0 z3b z3n z3c z4b z4n z4c h => n4 z0 z3b z3n z3c z4b z4n z4c Kn Kr h) g' h' := hq
      obtain ⟨y0, y3b, y3n, y3c, y4b, y4n, y4c, hg', hq⟩ := D3_ok hq
      exact n4_ok y0 y3b y3n y3c y4b y4n y4c Kn Kr g' hg' h' hq
    | _ => exact hq
abbrev n2 (x0 : Int) (Kn : T0) (Kr : T0) (h : H) : Prop :=
  newx h #[(.int .i32 (33 : Int)), (.int .i32 (47 : Int)), (.int .i32 (58 : Int)), (.int .i32 (64 : Int)), (.int .i32 (91 : Int)), (.int .i32 (96 : Int)), (.int .i32 (123 : Int)), (.int .i32 (126 : Int)), (.int .i32 (161 : Int)), (.int .i32 (169 : Int)), (.int .i32 (171 : Int)), (.int .i32 (172 : Int)), (.int .i32 (174 : Int)), (.int .i32 (177 : Int)), (.int .i32 (180 : Int)), (.int .i32 (180 : Int)), (.int .i32 (182 : Int)), (.int .i32 (184 : Int)), (.int .i32 (187 : Int)), (.int .i32 (187 : Int)), (.int .i32 (191 : Int)), (.int .i32 (191 : Int)), (.int .i32 (215 : Int)), (.int .i32 (215 : Int)), (.int .i32 (247 : Int)), (.int .i32 (247 : Int))] 21 fun a55 h56 => n3 x0 (some a55) 26 26 Kn Kr h56
theorem n2_ok (x0 : Int) (Kn : T0) (Kr : T0) (g : Env) (hg : E1 g x0) (h : H) (hS : n2 x0 Kn Kr h) : wpC none Tryd.prog 35 n1_c2 (Q0 Kn Kr) g h := by
  obtain ⟨hg0, hds⟩ := hg
  refine wpC_seq' (x := n2_c1) (y := n2_c2) (Q' := (Q5 (fun z0 z3b z3n z3c h => n3 z0 z3b z3n z3c Kn Kr h) Kr)) (by kernel_rfl) ?_ ?_
  · refine wpC_of_wpx (by kernel_rfl) (by kernel_rfl) (g' := (⟨g.v, []⟩ : Env).upd (some 0) (.int .i32 x0)) (by rw [env_ds hds, upd_self hg0]) ?_
    have e : (n2 x0 Kn Kr h) = wpx none Tryd.prog 35 n2_c1 (Q5 (fun z0 z3b z3n z3c h => n3 z0 z3b z3n z3c Kn Kr h) Kr) ((⟨g.v, []⟩ : Env).upd (some 0) (.int .i32 x0)) h := by kernel_rfl
    exact e ▸ hS
  · intro e g' h' hq
    cases e with
    | normal =>
      have hq : D2 (fun z0 z3b z3n z3c h => n3 z0 z3b z3n z3c Kn Kr h) g' h' := hq
      obtain ⟨y0, y3b, y3n, y3c, hg', hq⟩ := D2_ok hq
      exact n3_ok y0 y3b y3n y3c Kn Kr g' hg' h' hq
    | _ => exact hq
def Q7 (Kn : T1) (Kr : T0) : XPost
  | .normal, g, h => D1 Kn g h
  | .ret, g, h => D0 Kr g h
  | _, _, _ => False
abbrev n1 (x0 : Int) (Kn : T0) (Kr : T0) (h : H) : Prop :=
  n2 x0 Kn Kr h
theorem n1_ok (x0 : Int) (Kn : T0) (Kr : T0) (g : Env) (hg : E1 g x0) (h : H) (hS : n1 x0 Kn Kr h) : wpC none Tryd.prog 35 code (Q0 Kn Kr) g h := by
  obtain ⟨hg0, hds⟩ := hg
  refine wpC_seq' (x := n1_c1) (y := n1_c2) (Q' := (Q7 (fun z0 h => n2 z0 Kn Kr h) Kr)) (by kernel_rfl) ?_ ?_
  · refine wpC_of_wpx (by kernel_rfl) (by kernel_rfl) (g' := (⟨g.v, []⟩ : Env).upd (some 0) (.int .i32 x0)) (by rw [env_ds hds, upd_self hg0]) ?_
    have e : (n1 x0 Kn Kr h) = wpx none Tryd.prog 35 n1_c1 (Q7 (fun z0 h => n2 z0 Kn Kr h) Kr) ((⟨g.v, []⟩ : Env).upd (some 0) (.int .i32 x0)) h := by kernel_rfl
    exact e ▸ hS
  · intro e g' h' hq
    cases e with
    | normal =>
      have hq : D1 (fun z0 h => n2 z0 Kn Kr h) g' h' := hq
      obtain ⟨y0, hg', hq⟩ := D1_ok hq
      exact n2_ok y0 Kn Kr g' hg' h' hq
    | _ => exact hq
/-- WHAT tympan/tympanref02.Punct ASKS -/
abbrev asks (x0 : Int) (K : Value → H → Prop) (h : H) : Prop := n1 x0 (fun y2 h => K (.bool y2) h) (fun y2 h => K (.bool y2) h) h
theorem ok (x0 : Int) (K : Value → H → Prop) (h : H) (hS : asks x0 K h) : HCalls Tryd.prog 23 ⟨[(.int .i32 x0)]⟩ h K := by
  refine calls_of_wpC (c := code) Tryd.func23 (by kernel_rfl) (Nat.le_of_ble_eq_true (by kernel_rfl)) ?_
  refine (n1_ok x0 (fun y2 h => K (.bool y2) h) (fun y2 h => K (.bool y2) h) (env0 [(.int .i32 x0)]) ⟨rfl, rfl⟩ h hS).mono ?_
  intro e g' h' hq
  cases e with
  | normal =>
    have hq : D0 (fun y2 h => K (.bool y2) h) g' h' := hq
    obtain ⟨y2, ⟨hg2, hd⟩, hq⟩ := D0_ok hq
    show leaveX g'.ds h' _
    rw [hd]
    show K (g'.v 2) h'
    rw [hg2]
    exact hq
  | ret =>
    have hq : D0 (fun y2 h => K (.bool y2) h) g' h' := hq
    obtain ⟨y2, ⟨hg2, hd⟩, hq⟩ := D0_ok hq
    show leaveX g'.ds h' _
    rw [hd]
    show K (g'.v 2) h'
    rw [hg2]
    exact hq
  | _ => exact hq
end Sx.r02_Punct
end Go.Proofs
