/- The shallow forms of functions, printed by sh.py out of the translation; each with its proof. No condition. -/
import Derived.Test.YtpkicfcnhgnejaaDoorShJ
import Derived.Test.YtpkicfcnhgnejaaDoorProg
namespace Go.Proofs
open Go Go.Sh
set_option linter.unusedVariables false
set_option maxRecDepth 100000

/-! ### tympan/tympanref01.Text -/
namespace Sx.r01_Text
noncomputable def code : Code := bodyOf Tryd.f5
abbrev T0 := (List UInt8) → H → Prop
def E0 (g : Env) (x2 : List UInt8) : Prop := g.v 2 = (S x2) ∧ g.ds = []
def D0 (K : T0) (g : Env) (h : H) : Prop := nilDs g.ds (vStr (g.v 2) fun s1 => K s1 h)
theorem D0_ok {K : T0} {g : Env} {h : H} (hq : D0 K g h) : ∃ (x2 : List UInt8), E0 g x2 ∧ K x2 h := by
  obtain ⟨hd, hq⟩ := nilDs_ok hq
  obtain ⟨y3, e2, q4⟩ := vStr_ok hq
  exact ⟨y3, ⟨e2, hd⟩, q4⟩
def Q0 (Kn : T0) (Kr : T0) : XPost
  | .normal, g, h => D0 Kn g h
  | .ret, g, h => D0 Kr g h
  | _, _, _ => False
abbrev T1 := (Option Addr) → Nat → Nat → H → Prop
def E1 (g : Env) (x0b : Option Addr) (x0n : Nat) (x0c : Nat) : Prop := g.v 0 = (.slice x0b x0n x0c) ∧ g.ds = []
def D1 (K : T1) (g : Env) (h : H) : Prop := nilDs g.ds (vSlice (g.v 0) fun s5b s5n s5c => K s5b s5n s5c h)
theorem D1_ok {K : T1} {g : Env} {h : H} (hq : D1 K g h) : ∃ (x0b : Option Addr) (x0n : Nat) (x0c : Nat), E1 g x0b x0n x0c ∧ K x0b x0n x0c h := by
  obtain ⟨hd, hq⟩ := nilDs_ok hq
  obtain ⟨y7b, y7n, y7c, e6, q8⟩ := vSlice_ok hq
  exact ⟨y7b, y7n, y7c, ⟨e6, hd⟩, q8⟩
noncomputable def n1_c1 : Code := cFst code
noncomputable def n1_c2 : Code := cSnd code
noncomputable def n2_c1 : Code := cFst n1_c2
noncomputable def n2_c2 : Code := cSnd n1_c2
abbrev n3 (x0b : Option Addr) (x0n : Nat) (x0c : Nat) (Kn : T0) (Kr : T0) (h : H) : Prop :=
  HCalls Tryd.prog 9 ⟨[(.slice x0b x0n x0c)]⟩ h fun v9 h10 => vStr v9 fun s11 => Kr s11 h10
theorem n3_ok (x0b : Option Addr) (x0n : Nat) (x0c : Nat) (Kn : T0) (Kr : T0) (g : Env) (hg : E1 g x0b x0n x0c) (h : H) (hS : n3 x0b x0n x0c Kn Kr h) : wpC none Tryd.prog 28 n2_c2 (Q0 Kn Kr) g h := by
  obtain ⟨hg0, hds⟩ := hg
  refine wpC_of_wpx (by kernel_rfl) (by kernel_rfl) (g' := (⟨g.v, []⟩ : Env).upd (some 0) (.slice x0b x0n x0c)) (by rw [env_ds hds, upd_self hg0]) ?_
  have e : (n3 x0b x0n x0c Kn Kr h) = wpx none Tryd.prog 28 n2_c2 (Q0 Kn Kr) ((⟨g.v, []⟩ : Env).upd (some 0) (.slice x0b x0n x0c)) h := by kernel_rfl
  exact e ▸ hS
def Q1 (Kn : T1) (Kr : T0) : XPost
  | .normal, g, h => D1 Kn g h
  | .ret, g, h => D0 Kr g h
  | _, _, _ => False
abbrev n2 (x0b : Option Addr) (x0n : Nat) (x0c : Nat) (Kn : T0) (Kr : T0) (h : H) : Prop :=
  Spl ((x0n : Int) ≥ (3 : Int)) ((0 ≤ (0 : Int) ∧ (0 : Int) < (x0n : Int)) ∧ (vSome x0b fun a12 => ∃ i13, cell h (a12.add (Int.toNat (0 : Int) * 1)) = some (.int .u8 i13) ∧ (Spl (i13 = (239 : Int)) ((0 ≤ (1 : Int) ∧ (1 : Int) < (x0n : Int)) ∧ (vSome x0b fun a14 => ∃ i15, cell h (a14.add (Int.toNat (1 : Int) * 1)) = some (.int .u8 i15) ∧ (Spl (i15 = (187 : Int)) ((0 ≤ (2 : Int) ∧ (2 : Int) < (x0n : Int)) ∧ (vSome x0b fun a16 => ∃ i17, cell h (a16.add (Int.toNat (2 : Int) * 1)) = some (.int .u8 i17) ∧ (Spl (i17 = (191 : Int)) ((0 ≤ (3 : Int) ∧ (3 : Int) ≤ (x0n : Int) ∧ (x0n : Int) ≤ (x0c : Int)) ∧ (n3 (if x0c = Int.toNat (3 : Int) then x0b else Option.map (fun q => q.add (Int.toNat (3 : Int) * 1)) x0b) (Int.toNat (x0n : Int) - Int.toNat (3 : Int)) (x0c - Int.toNat (3 : Int)) Kn Kr h)) (n3 x0b x0n x0c Kn Kr h)))) (n3 x0b x0n x0c Kn Kr h)))) (n3 x0b x0n x0c Kn Kr h)))) (n3 x0b x0n x0c Kn Kr h)
theorem n2_ok (x0b : Option Addr) (x0n : Nat) (x0c : Nat) (Kn : T0) (Kr : T0) (g : Env) (hg : E1 g x0b x0n x0c) (h : H) (hS : n2 x0b x0n x0c Kn Kr h) : wpC none Tryd.prog 28 n1_c2 (Q0 Kn Kr) g h := by
  obtain ⟨hg0, hds⟩ := hg
  refine wpC_seq' (x := n2_c1) (y := n2_c2) (Q' := (Q1 (fun z0b z0n z0c h => n3 z0b z0n z0c Kn Kr h) Kr)) (by kernel_rfl) ?_ ?_
  · refine wpC_of_wpx (by kernel_rfl) (by kernel_rfl) (g' := (⟨g.v, []⟩ : Env).upd (some 0) (.slice x0b x0n x0c)) (by rw [env_ds hds, upd_self hg0]) ?_
    have e : (n2 x0b x0n x0c Kn Kr h) = wpx none Tryd.prog 28 n2_c1 (Q1 (fun z0b z0n z0c h => n3 z0b z0n z0c Kn Kr h) Kr) ((⟨g.v, []⟩ : Env).upd (some 0) (.slice x0b x0n x0c)) h := by kernel_rfl
    exact e ▸ hS
  · intro e g' h' hq
    cases e with
    | normal =>
      have hq : D1 (fun z0b z0n z0c h => n3 z0b z0n z0c Kn Kr h) g' h' := hq
      obtain ⟨y0b, y0n, y0c, hg', hq⟩ := D1_ok hq
      exact n3_ok y0b y0n y0c Kn Kr g' hg' h' hq
    | _ => exact hq
abbrev n1 (x0b : Option Addr) (x0n : Nat) (x0c : Nat) (Kn : T0) (Kr : T0) (h : H) : Prop :=
  n2 x0b x0n x0c Kn Kr h
theorem n1_ok (x0b : Option Addr) (x0n : Nat) (x0c : Nat) (Kn : T0) (Kr : T0) (g : Env) (hg : E1 g x0b x0n x0c) (h : H) (hS : n1 x0b x0n x0c Kn Kr h) : wpC none Tryd.prog 28 code (Q0 Kn Kr) g h := by
  obtain ⟨hg0, hds⟩ := hg
  refine wpC_seq' (x := n1_c1) (y := n1_c2) (Q' := (Q1 (fun z0b z0n z0c h => n2 z0b z0n z0c Kn Kr h) Kr)) (by kernel_rfl) ?_ ?_
  · refine wpC_of_wpx (by kernel_rfl) (by kernel_rfl) (g' := (⟨g.v, []⟩ : Env).upd (some 0) (.slice x0b x0n x0c)) (by rw [env_ds hds, upd_self hg0]) ?_
    have e : (n1 x0b x0n x0c Kn Kr h) = wpx none Tryd.prog 28 n1_c1 (Q1 (fun z0b z0n z0c h => n2 z0b z0n z0c Kn Kr h) Kr) ((⟨g.v, []⟩ : Env).upd (some 0) (.slice x0b x0n x0c)) h := by kernel_rfl
    exact e ▸ hS
  · intro e g' h' hq
    cases e with
    | normal =>
      have hq : D1 (fun z0b z0n z0c h => n2 z0b z0n z0c Kn Kr h) g' h' := hq
      obtain ⟨y0b, y0n, y0c, hg', hq⟩ := D1_ok hq
      exact n2_ok y0b y0n y0c Kn Kr g' hg' h' hq
    | _ => exact hq
/-- WHAT tympan/tympanref01.Text ASKS -/
abbrev asks (x0b : Option Addr) (x0n : Nat) (x0c : Nat) (K : Value → H → Prop) (h : H) : Prop := n1 x0b x0n x0c (fun y2 h => K (S y2) h) (fun y2 h => K (S y2) h) h
theorem ok (x0b : Option Addr) (x0n : Nat) (x0c : Nat) (K : Value → H → Prop) (h : H) (hS : asks x0b x0n x0c K h) : HCalls Tryd.prog 5 ⟨[(.slice x0b x0n x0c)]⟩ h K := by
  refine calls_of_wpC (c := code) Tryd.func5 (by kernel_rfl) (Nat.le_of_ble_eq_true (by kernel_rfl)) ?_
  refine (n1_ok x0b x0n x0c (fun y2 h => K (S y2) h) (fun y2 h => K (S y2) h) (env0 [(.slice x0b x0n x0c)]) ⟨rfl, rfl⟩ h hS).mono ?_
  intro e g' h' hq
  cases e with
  | normal =>
    have hq : D0 (fun y2 h => K (S y2) h) g' h' := hq
    obtain ⟨y2, ⟨hg2, hd⟩, hq⟩ := D0_ok hq
    show leaveX g'.ds h' _
    rw [hd]
    show K (g'.v 2) h'
    rw [hg2]
    exact hq
  | ret =>
    have hq : D0 (fun y2 h => K (S y2) h) g' h' := hq
    obtain ⟨y2, ⟨hg2, hd⟩, hq⟩ := D0_ok hq
    show leaveX g'.ds h' _
    rw [hd]
    show K (g'.v 2) h'
    rw [hg2]
    exact hq
  | _ => exact hq
end Sx.r01_Text

/-! ### tympan/tympanref01.plain -/
namespace Sx.r01_plain
noncomputable def code : Code := bodyOf Tryd.f9
abbrev T0 := (List UInt8) → H → Prop
def E0 (g : Env) (x2 : List UInt8) : Prop := g.v 2 = (S x2) ∧ g.ds = []
def D0 (K : T0) (g : Env) (h : H) : Prop := nilDs g.ds (vStr (g.v 2) fun s1 => K s1 h)
theorem D0_ok {K : T0} {g : Env} {h : H} (hq : D0 K g h) : ∃ (x2 : List UInt8), E0 g x2 ∧ K x2 h := by
  obtain ⟨hd, hq⟩ := nilDs_ok hq
  obtain ⟨y3, e2, q4⟩ := vStr_ok hq
  exact ⟨y3, ⟨e2, hd⟩, q4⟩
def Q0 (Kn : T0) (Kr : T0) : XPost
  | .normal, g, h => D0 Kn g h
  | .ret, g, h => D0 Kr g h
  | _, _, _ => False
abbrev T1 := (Option Addr) → Nat → Nat → H → Prop
def E1 (g : Env) (x0b : Option Addr) (x0n : Nat) (x0c : Nat) : Prop := g.v 0 = (.slice x0b x0n x0c) ∧ g.ds = []
def D1 (K : T1) (g : Env) (h : H) : Prop := nilDs g.ds (vSlice (g.v 0) fun s5b s5n s5c => K s5b s5n s5c h)
theorem D1_ok {K : T1} {g : Env} {h : H} (hq : D1 K g h) : ∃ (x0b : Option Addr) (x0n : Nat) (x0c : Nat), E1 g x0b x0n x0c ∧ K x0b x0n x0c h := by
  obtain ⟨hd, hq⟩ := nilDs_ok hq
  obtain ⟨y7b, y7n, y7c, e6, q8⟩ := vSlice_ok hq
  exact ⟨y7b, y7n, y7c, ⟨e6, hd⟩, q8⟩
noncomputable def n1_c1 : Code := cFst code
noncomputable def n1_c2 : Code := cSnd code
noncomputable def n2_c1 : Code := cFst n1_c2
noncomputable def n2_c2 : Code := cSnd n1_c2
abbrev T2 := (Option Addr) → Nat → Nat → (Option Addr) → Nat → Nat → H → Prop
def E2 (g : Env) (x0b : Option Addr) (x0n : Nat) (x0c : Nat) (x3b : Option Addr) (x3n : Nat) (x3c : Nat) : Prop := g.v 0 = (.slice x0b x0n x0c) ∧ g.v 3 = (.slice x3b x3n x3c) ∧ g.ds = []
def D2 (K : T2) (g : Env) (h : H) : Prop := nilDs g.ds (vSlice (g.v 0) fun s9b s9n s9c => vSlice (g.v 3) fun s10b s10n s10c => K s9b s9n s9c s10b s10n s10c h)
theorem D2_ok {K : T2} {g : Env} {h : H} (hq : D2 K g h) : ∃ (x0b : Option Addr) (x0n : Nat) (x0c : Nat) (x3b : Option Addr) (x3n : Nat) (x3c : Nat), E2 g x0b x0n x0c x3b x3n x3c ∧ K x0b x0n x0c x3b x3n x3c h := by
  obtain ⟨hd, hq⟩ := nilDs_ok hq
  obtain ⟨y12b, y12n, y12c, e11, q13⟩ := vSlice_ok hq
  obtain ⟨y15b, y15n, y15c, e14, q16⟩ := vSlice_ok q13
  exact ⟨y12b, y12n, y12c, y15b, y15n, y15c, ⟨e11, e14, hd⟩, q16⟩
noncomputable def n3_c1 : Code := cFst n2_c2
noncomputable def n3_c2 : Code := cSnd n2_c2
abbrev T3 := (Option Addr) → Nat → Nat → H → Prop
def E3 (g : Env) (x3b : Option Addr) (x3n : Nat) (x3c : Nat) : Prop := g.v 3 = (.slice x3b x3n x3c) ∧ g.ds = []
def D3 (K : T3) (g : Env) (h : H) : Prop := nilDs g.ds (vSlice (g.v 3) fun s17b s17n s17c => K s17b s17n s17c h)
theorem D3_ok {K : T3} {g : Env} {h : H} (hq : D3 K g h) : ∃ (x3b : Option Addr) (x3n : Nat) (x3c : Nat), E3 g x3b x3n x3c ∧ K x3b x3n x3c h := by
  obtain ⟨hd, hq⟩ := nilDs_ok hq
  obtain ⟨y19b, y19n, y19c, e18, q20⟩ := vSlice_ok hq
  exact ⟨y19b, y19n, y19c, ⟨e18, hd⟩, q20⟩
abbrev n4 (x3b : Option Addr) (x3n : Nat) (x3c : Nat) (Kn : T0) (Kr : T0) (h : H) : Prop :=
  SemH Tryd.prog (convert 22 9 (.slice x3b x3n x3c)) h fun v21 h22 => vStr v21 fun s23 => Kr s23 h22
theorem n4_ok (x3b : Option Addr) (x3n : Nat) (x3c : Nat) (Kn : T0) (Kr : T0) (g : Env) (hg : E3 g x3b x3n x3c) (h : H) (hS : n4 x3b x3n x3c Kn Kr h) : wpC none Tryd.prog 34 n3_c2 (Q0 Kn Kr) g h := by
  obtain ⟨hg3, hds⟩ := hg
  refine wpC_of_wpx (by kernel_rfl) (by kernel_rfl) (g' := (⟨g.v, []⟩ : Env).upd (some 3) (.slice x3b x3n x3c)) (by rw [env_ds hds, upd_self hg3]) ?_
  have e : (n4 x3b x3n x3c Kn Kr h) = wpx none Tryd.prog 34 n3_c2 (Q0 Kn Kr) ((⟨g.v, []⟩ : Env).upd (some 3) (.slice x3b x3n x3c)) h := by kernel_rfl
  exact e ▸ hS
def Q1 (Kn : T3) (Kr : T0) : XPost
  | .normal, g, h => D3 Kn g h
  | .ret, g, h => D0 Kr g h
  | _, _, _ => False
noncomputable def n5_c1 : Code := cFst n3_c1
def Q2 (Kn : T3) (Ke0 : T3) (Kr : T0) : XPost
  | .normal, g, h => D3 Kn g h
  | .ret, g, h => D0 Kr g h
  | .exit id, g, h => cond (Nat.beq id 0) (D3 Ke0 g h) (False)
  | _, _, _ => False
noncomputable def n6_c1 : Code := cFst n5_c1
def Q3 (Kn : T2) (Ke0 : T3) (Kr : T0) : XPost
  | .normal, g, h => D2 Kn g h
  | .ret, g, h => D0 Kr g h
  | .exit id, g, h => cond (Nat.beq id 0) (D3 Ke0 g h) (False)
  | _, _, _ => False
noncomputable def n7_c1 : Code := cFst n6_c1
noncomputable def n7_c2 : Code := cSnd n6_c1
noncomputable def n8_c1 : Code := cFst n7_c2
def Q4 (Kn : T2) (Ke1 : T2) (Ke0 : T3) (Kr : T0) : XPost
  | .normal, g, h => D2 Kn g h
  | .ret, g, h => D0 Kr g h
  | .exit id, g, h => cond (Nat.beq id 1) (D2 Ke1 g h) (cond (Nat.beq id 0) (D3 Ke0 g h) (False))
  | _, _, _ => False
noncomputable def n9_c1 : Code := cFst n8_c1
noncomputable def n9_c2 : Code := cSnd n8_c1
abbrev T4 := (Option Addr) → Nat → Nat → (Option Addr) → Nat → Nat → Int → Bool → H → Prop
def E4 (g : Env) (x0b : Option Addr) (x0n : Nat) (x0c : Nat) (x3b : Option Addr) (x3n : Nat) (x3c : Nat) (x4 : Int) (x5 : Bool) : Prop := g.v 0 = (.slice x0b x0n x0c) ∧ g.v 3 = (.slice x3b x3n x3c) ∧ g.v 4 = (.int .i64 x4) ∧ g.v 5 = (.bool x5) ∧ g.ds = []
def D4 (K : T4) (g : Env) (h : H) : Prop := nilDs g.ds (vSlice (g.v 0) fun s24b s24n s24c => vSlice (g.v 3) fun s25b s25n s25c => vInt .i64 (g.v 4) fun i26 => vBool (g.v 5) fun b27 => K s24b s24n s24c s25b s25n s25c i26 b27 h)
theorem D4_ok {K : T4} {g : Env} {h : H} (hq : D4 K g h) : ∃ (x0b : Option Addr) (x0n : Nat) (x0c : Nat) (x3b : Option Addr) (x3n : Nat) (x3c : Nat) (x4 : Int) (x5 : Bool), E4 g x0b x0n x0c x3b x3n x3c x4 x5 ∧ K x0b x0n x0c x3b x3n x3c x4 x5 h := by
  obtain ⟨hd, hq⟩ := nilDs_ok hq
  obtain ⟨y29b, y29n, y29c, e28, q30⟩ := vSlice_ok hq
  obtain ⟨y32b, y32n, y32c, e31, q33⟩ := vSlice_ok q30
  obtain ⟨y35, e34, q36⟩ := vInt_ok q33
  obtain ⟨y38, e37, q39⟩ := vBool_ok q36
  exact ⟨y29b, y29n, y29c, y32b, y32n, y32c, y35, y38, ⟨e28, e31, e34, e37, hd⟩, q39⟩
noncomputable def n10_c1 : Code := cFst n9_c2
noncomputable def n10_c2 : Code := cSnd n9_c2
abbrev T5 := (Option Addr) → Nat → Nat → (Option Addr) → Nat → Nat → Int → H → Prop
def E5 (g : Env) (x0b : Option Addr) (x0n : Nat) (x0c : Nat) (x3b : Option Addr) (x3n : Nat) (x3c : Nat) (x4 : Int) : Prop := g.v 0 = (.slice x0b x0n x0c) ∧ g.v 3 = (.slice x3b x3n x3c) ∧ g.v 4 = (.int .i64 x4) ∧ g.ds = []
def D5 (K : T5) (g : Env) (h : H) : Prop := nilDs g.ds (vSlice (g.v 0) fun s40b s40n s40c => vSlice (g.v 3) fun s41b s41n s41c => vInt .i64 (g.v 4) fun i42 => K s40b s40n s40c s41b s41n s41c i42 h)
theorem D5_ok {K : T5} {g : Env} {h : H} (hq : D5 K g h) : ∃ (x0b : Option Addr) (x0n : Nat) (x0c : Nat) (x3b : Option Addr) (x3n : Nat) (x3c : Nat) (x4 : Int), E5 g x0b x0n x0c x3b x3n x3c x4 ∧ K x0b x0n x0c x3b x3n x3c x4 h := by
  obtain ⟨hd, hq⟩ := nilDs_ok hq
  obtain ⟨y44b, y44n, y44c, e43, q45⟩ := vSlice_ok hq
  obtain ⟨y47b, y47n, y47c, e46, q48⟩ := vSlice_ok q45
  obtain ⟨y50, e49, q51⟩ := vInt_ok q48
  exact ⟨y44b, y44n, y44c, y47b, y47n, y47c, y50, ⟨e43, e46, e49, hd⟩, q51⟩
abbrev n11 (x0b : Option Addr) (x0n : Nat) (x0c : Nat) (x3b : Option Addr) (x3n : Nat) (x3c : Nat) (x4 : Int) (Kn : T2) (Ke1 : T2) (Ke0 : T3) (Kr : T0) (h : H) : Prop :=
  (0 ≤ x4 ∧ x4 ≤ (x0n : Int) ∧ (x0n : Int) ≤ (x0c : Int)) ∧ (Kn (if x0c = Int.toNat x4 then x0b else Option.map (fun q => q.add (Int.toNat x4 * 1)) x0b) (Int.toNat (x0n : Int) - Int.toNat x4) (x0c - Int.toNat x4) x3b x3n x3c h)
theorem n11_ok (x0b : Option Addr) (x0n : Nat) (x0c : Nat) (x3b : Option Addr) (x3n : Nat) (x3c : Nat) (x4 : Int) (Kn : T2) (Ke1 : T2) (Ke0 : T3) (Kr : T0) (g : Env) (hg : E5 g x0b x0n x0c x3b x3n x3c x4) (h : H) (hS : n11 x0b x0n x0c x3b x3n x3c x4 Kn Ke1 Ke0 Kr h) : wpC none Tryd.prog 34 n10_c2 (Q4 Kn Ke1 Ke0 Kr) g h := by
  obtain ⟨hg0, hg3, hg4, hds⟩ := hg
  refine wpC_of_wpx (by kernel_rfl) (by kernel_rfl) (g' := (((⟨g.v, []⟩ : Env).upd (some 0) (.slice x0b x0n x0c)).upd (some 3) (.slice x3b x3n x3c)).upd (some 4) (.int .i64 x4)) (by rw [env_ds hds, upd_self hg0, upd_self hg3, upd_self hg4]) ?_
  have e : (n11 x0b x0n x0c x3b x3n x3c x4 Kn Ke1 Ke0 Kr h) = wpx none Tryd.prog 34 n10_c2 (Q4 Kn Ke1 Ke0 Kr) ((((⟨g.v, []⟩ : Env).upd (some 0) (.slice x0b x0n x0c)).upd (some 3) (.slice x3b x3n x3c)).upd (some 4) (.int .i64 x4)) h := by kernel_rfl
  exact e ▸ hS
def Q5 (Kn : T5) (Ke1 : T2) (Ke0 : T3) (Kr : T0) : XPost
  | .normal, g, h => D5 Kn g h
  | .ret, g, h => D0 Kr g h
  | .exit id, g, h => cond (Nat.beq id 1) (D2 Ke1 g h) (cond (Nat.beq id 0) (D3 Ke0 g h) (False))
  | _, _, _ => False
abbrev n10 (x0b : Option Addr) (x0n : Nat) (x0c : Nat) (x3b : Option Addr) (x3n : Nat) (x3c : Nat) (x4 : Int) (x5 : Bool) (Kn : T2) (Ke1 : T2) (Ke0 : T3) (Kr : T0) (h : H) : Prop :=
  cond x5 ((0 ≤ (0 : Int) ∧ (0 : Int) < (x0n : Int)) ∧ (vSome x0b fun a52 => ∃ i53, cell h (a52.add (Int.toNat (0 : Int) * 1)) = some (.int .u8 i53) ∧ (Spl (i53 = (0 : Int)) (newx h #[(.int .u8 (239 : Int)), (.int .u8 (191 : Int)), (.int .u8 (189 : Int))] 5 fun a54 h55 => SemH Tryd.prog (Builtin.append_ #[22, 22] 22 ⟨[(.slice x3b x3n x3c), (.slice (some a54) 3 3)]⟩) h55 fun v56 h57 => vSlice v56 fun s58b s58n s58c => n11 x0b x0n x0c s58b s58n s58c x4 Kn Ke1 Ke0 Kr h57) ((0 ≤ (0 : Int) ∧ (0 : Int) ≤ x4 ∧ x4 ≤ (x0c : Int)) ∧ (SemH Tryd.prog (Builtin.append_ #[22, 22] 22 ⟨[(.slice x3b x3n x3c), (.slice (if x0c = Int.toNat (0 : Int) then x0b else Option.map (fun q => q.add (Int.toNat (0 : Int) * 1)) x0b) (Int.toNat x4 - Int.toNat (0 : Int)) (x0c - Int.toNat (0 : Int)))]⟩) h fun v59 h60 => vSlice v59 fun s61b s61n s61c => n11 x0b x0n x0c s61b s61n s61c x4 Kn Ke1 Ke0 Kr h60))))) (newx h #[(.int .u8 (239 : Int)), (.int .u8 (191 : Int)), (.int .u8 (189 : Int))] 5 fun a62 h63 => SemH Tryd.prog (Builtin.append_ #[22, 22] 22 ⟨[(.slice x3b x3n x3c), (.slice (some a62) 3 3)]⟩) h63 fun v64 h65 => vSlice v64 fun s66b s66n s66c => n11 x0b x0n x0c s66b s66n s66c x4 Kn Ke1 Ke0 Kr h65)
theorem n10_ok (x0b : Option Addr) (x0n : Nat) (x0c : Nat) (x3b : Option Addr) (x3n : Nat) (x3c : Nat) (x4 : Int) (x5 : Bool) (Kn : T2) (Ke1 : T2) (Ke0 : T3) (Kr : T0) (g : Env) (hg : E4 g x0b x0n x0c x3b x3n x3c x4 x5) (h : H) (hS : n10 x0b x0n x0c x3b x3n x3c x4 x5 Kn Ke1 Ke0 Kr h) : wpC none Tryd.prog 34 n9_c2 (Q4 Kn Ke1 Ke0 Kr) g h := by
  obtain ⟨hg0, hg3, hg4, hg5, hds⟩ := hg
  refine wpC_seq' (x := n10_c1) (y := n10_c2) (Q' := (Q5 (fun z0b z0n z0c z3b z3n z3c z4 h => n11 z0b z0n z0c z3b z3n z3c z4 Kn Ke1 Ke0 Kr h) Ke1 Ke0 Kr)) (by kernel_rfl) ?_ ?_
  · refine wpC_of_wpx (by kernel_rfl) (by kernel_rfl) (g' := ((((⟨g.v, []⟩ : Env).upd (some 0) (.slice x0b x0n x0c)).upd (some 3) (.slice x3b x3n x3c)).upd (some 4) (.int .i64 x4)).upd (some 5) (.bool x5)) (by rw [env_ds hds, upd_self hg0, upd_self hg3, upd_self hg4, upd_self hg5]) ?_
    have e : (n10 x0b x0n x0c x3b x3n x3c x4 x5 Kn Ke1 Ke0 Kr h) = wpx none Tryd.prog 34 n10_c1 (Q5 (fun z0b z0n z0c z3b z3n z3c z4 h => n11 z0b z0n z0c z3b z3n z3c z4 Kn Ke1 Ke0 Kr h) Ke1 Ke0 Kr) (((((⟨g.v, []⟩ : Env).upd (some 0) (.slice x0b x0n x0c)).upd (some 3) (.slice x3b x3n x3c)).upd (some 4) (.int .i64 x4)).upd (some 5) (.bool x5)) h := by kernel_rfl
    exact e ▸ hS
  · intro e g' h' hq
    cases e with
    | normal =>
      have hq : D5 (fun z0b z0n z0c z3b z3n z3c z4 h => n11 z0b z0n z0c z3b z3n z3c z4 Kn Ke1 Ke0 Kr h) g' h' := hq
      obtain ⟨y0b, y0n, y0c, y3b, y3n, y3c, y4, hg', hq⟩ := D5_ok hq
      exact n11_ok y0b y0n y0c y3b y3n y3c y4 Kn Ke1 Ke0 Kr g' hg' h' hq
    | _ => exact hq
def Q6 (Kn : T4) (Ke1 : T2) (Ke0 : T3) (Kr : T0) : XPost
  | .normal, g, h => D4 Kn g h
  | .ret, g, h => D0 Kr g h
  | .exit id, g, h => cond (Nat.beq id 1) (D2 Ke1 g h) (cond (Nat.beq id 0) (D3 Ke0 g h) (False))
  | _, _, _ => False
abbrev n9 (x0b : Option Addr) (x0n : Nat) (x0c : Nat) (x3b : Option Addr) (x3n : Nat) (x3c : Nat) (Kn : T2) (Ke1 : T2) (Ke0 : T3) (Kr : T0) (h : H) : Prop :=
  HCalls Tryd.prog 15 ⟨[(.slice x0b x0n x0c)]⟩ h fun v67 h68 => vTup v67 fun l69 => uncons l69 fun e70 l71 => vInt .i64 e70 fun i72 => uncons l71 fun e73 l74 => vBool e73 fun b75 => unnil l74 (cond b75 (n10 x0b x0n x0c x3b x3n x3c i72 true Kn Ke1 Ke0 Kr h68) (n10 x0b x0n x0c x3b x3n x3c i72 false Kn Ke1 Ke0 Kr h68))
theorem n9_ok (x0b : Option Addr) (x0n : Nat) (x0c : Nat) (x3b : Option Addr) (x3n : Nat) (x3c : Nat) (Kn : T2) (Ke1 : T2) (Ke0 : T3) (Kr : T0) (g : Env) (hg : E2 g x0b x0n x0c x3b x3n x3c) (h : H) (hS : n9 x0b x0n x0c x3b x3n x3c Kn Ke1 Ke0 Kr h) : wpC none Tryd.prog 34 n8_c1 (Q4 Kn Ke1 Ke0 Kr) g h := by
  obtain ⟨hg0, hg3, hds⟩ := hg
  refine wpC_seq' (x := n9_c1) (y := n9_c2) (Q' := (Q6 (fun z0b z0n z0c z3b z3n z3c z4 z5 h => n10 z0b z0n z0c z3b z3n z3c z4 z5 Kn Ke1 Ke0 Kr h) Ke1 Ke0 Kr)) (by kernel_rfl) ?_ ?_
  · refine wpC_of_wpx (by kernel_rfl) (by kernel_rfl) (g' := ((⟨g.v, []⟩ : Env).upd (some 0) (.slice x0b x0n x0c)).upd (some 3) (.slice x3b x3n x3c)) (by rw [env_ds hds, upd_self hg0, upd_self hg3]) ?_
    have e : (n9 x0b x0n x0c x3b x3n x3c Kn Ke1 Ke0 Kr h) = wpx none Tryd.prog 34 n9_c1 (Q6 (fun z0b z0n z0c z3b z3n z3c z4 z5 h => n10 z0b z0n z0c z3b z3n z3c z4 z5 Kn Ke1 Ke0 Kr h) Ke1 Ke0 Kr) (((⟨g.v, []⟩ : Env).upd (some 0) (.slice x0b x0n x0c)).upd (some 3) (.slice x3b x3n x3c)) h := by kernel_rfl
    exact e ▸ hS
  · intro e g' h' hq
    cases e with
    | normal =>
      have hq : D4 (fun z0b z0n z0c z3b z3n z3c z4 z5 h => n10 z0b z0n z0c z3b z3n z3c z4 z5 Kn Ke1 Ke0 Kr h) g' h' := hq
      obtain ⟨y0b, y0n, y0c, y3b, y3n, y3c, y4, y5, hg', hq⟩ := D4_ok hq
      exact n10_ok y0b y0n y0c y3b y3n y3c y4 y5 Kn Ke1 Ke0 Kr g' hg' h' hq
    | _ => exact hq
abbrev n8 (x0b : Option Addr) (x0n : Nat) (x0c : Nat) (x3b : Option Addr) (x3n : Nat) (x3c : Nat) (Kn : T2) (Ke0 : T3) (Kr : T0) (h : H) : Prop := n9 x0b x0n x0c x3b x3n x3c Kn Kn Ke0 Kr h
theorem n8_ok (x0b : Option Addr) (x0n : Nat) (x0c : Nat) (x3b : Option Addr) (x3n : Nat) (x3c : Nat) (Kn : T2) (Ke0 : T3) (Kr : T0) (g : Env) (hg : E2 g x0b x0n x0c x3b x3n x3c) (h : H) (hS : n8 x0b x0n x0c x3b x3n x3c Kn Ke0 Kr h) : wpC none Tryd.prog 34 n7_c2 (Q3 Kn Ke0 Kr) g h := by
  refine wpC_block' (id := 1) (x := n8_c1) (by kernel_rfl) (n9_ok x0b x0n x0c x3b x3n x3c Kn Kn Ke0 Kr g hg h hS) ?_
  intro e g' h' hq
  cases e <;> exact hq
abbrev n7 (x0b : Option Addr) (x0n : Nat) (x0c : Nat) (x3b : Option Addr) (x3n : Nat) (x3c : Nat) (Kn : T2) (Ke0 : T3) (Kr : T0) (h : H) : Prop :=
  Spl ((x0n : Int) > (0 : Int)) (n8 x0b x0n x0c x3b x3n x3c Kn Ke0 Kr h) (Ke0 x3b x3n x3c h)
theorem n7_ok (x0b : Option Addr) (x0n : Nat) (x0c : Nat) (x3b : Option Addr) (x3n : Nat) (x3c : Nat) (Kn : T2) (Ke0 : T3) (Kr : T0) (g : Env) (hg : E2 g x0b x0n x0c x3b x3n x3c) (h : H) (hS : n7 x0b x0n x0c x3b x3n x3c Kn Ke0 Kr h) : wpC none Tryd.prog 34 n6_c1 (Q3 Kn Ke0 Kr) g h := by
  obtain ⟨hg0, hg3, hds⟩ := hg
  refine wpC_seq' (x := n7_c1) (y := n7_c2) (Q' := (Q3 (fun z0b z0n z0c z3b z3n z3c h => n8 z0b z0n z0c z3b z3n z3c Kn Ke0 Kr h) Ke0 Kr)) (by kernel_rfl) ?_ ?_
  · refine wpC_of_wpx (by kernel_rfl) (by kernel_rfl) (g' := ((⟨g.v, []⟩ : Env).upd (some 0) (.slice x0b x0n x0c)).upd (some 3) (.slice x3b x3n x3c)) (by rw [env_ds hds, upd_self hg0, upd_self hg3]) ?_
    have e : (n7 x0b x0n x0c x3b x3n x3c Kn Ke0 Kr h) = wpx none Tryd.prog 34 n7_c1 (Q3 (fun z0b z0n z0c z3b z3n z3c h => n8 z0b z0n z0c z3b z3n z3c Kn Ke0 Kr h) Ke0 Kr) (((⟨g.v, []⟩ : Env).upd (some 0) (.slice x0b x0n x0c)).upd (some 3) (.slice x3b x3n x3c)) h := by kernel_rfl
    exact e ▸ hS
  · intro e g' h' hq
    cases e with
    | normal =>
      have hq : D2 (fun z0b z0n z0c z3b z3n z3c h => n8 z0b z0n z0c z3b z3n z3c Kn Ke0 Kr h) g' h' := hq
      obtain ⟨y0b, y0n, y0c, y3b, y3n, y3c, hg', hq⟩ := D2_ok hq
      exact n8_ok y0b y0n y0c y3b y3n y3c Kn Ke0 Kr g' hg' h' hq
    | _ => exact hq
def n6_L (Kn : T3) (Ke0 : T3) (Kr : T0) : Nat → (Option Addr) → Nat → Nat → (Option Addr) → Nat → Nat → H → Prop
  | 0 => fun _ _ _ _ _ _ _ => False
  | N + 1 => fun x0b x0n x0c x3b x3n x3c h => n7 x0b x0n x0c x3b x3n x3c (fun z0b z0n z0c z3b z3n z3c h => n6_L Kn Ke0 Kr N z0b z0n z0c z3b z3n z3c h) Ke0 Kr h
abbrev n6 (x0b : Option Addr) (x0n : Nat) (x0c : Nat) (x3b : Option Addr) (x3n : Nat) (x3c : Nat) (Kn : T3) (Ke0 : T3) (Kr : T0) (h : H) : Prop := ∃ N, n6_L Kn Ke0 Kr N x0b x0n x0c x3b x3n x3c h
theorem n6_ok (x0b : Option Addr) (x0n : Nat) (x0c : Nat) (x3b : Option Addr) (x3n : Nat) (x3c : Nat) (Kn : T3) (Ke0 : T3) (Kr : T0) (g : Env) (hg : E2 g x0b x0n x0c x3b x3n x3c) (h : H) (hS : n6 x0b x0n x0c x3b x3n x3c Kn Ke0 Kr h) : wpC none Tryd.prog 34 n5_c1 (Q2 Kn Ke0 Kr) g h := by
  obtain ⟨N0, hS⟩ := hS
  refine wpC_loop' (x := n6_c1) (by kernel_rfl) (fun k g h => ∃ (x0b : Option Addr) (x0n : Nat) (x0c : Nat) (x3b : Option Addr) (x3n : Nat) (x3c : Nat), E2 g x0b x0n x0c x3b x3n x3c ∧ n6_L Kn Ke0 Kr k x0b x0n x0c x3b x3n x3c h) (fun g h hr => ?_) (fun N g h hr => ?_) N0 ⟨x0b, x0n, x0c, x3b, x3n, x3c, hg, hS⟩
  · obtain ⟨x0b, x0n, x0c, x3b, x3n, x3c, hg, hS⟩ := hr
    exact hS.elim
  · obtain ⟨x0b, x0n, x0c, x3b, x3n, x3c, hg, hS⟩ := hr
    refine (n7_ok x0b x0n x0c x3b x3n x3c (fun z0b z0n z0c z3b z3n z3c h => n6_L Kn Ke0 Kr N z0b z0n z0c z3b z3n z3c h) Ke0 Kr g hg h hS).mono ?_
    intro e g' h' hq
    cases e with
    | normal => exact D2_ok (K := (fun z0b z0n z0c z3b z3n z3c h => n6_L Kn Ke0 Kr N z0b z0n z0c z3b z3n z3c h)) hq
    | _ => exact hq
abbrev n5 (x0b : Option Addr) (x0n : Nat) (x0c : Nat) (x3b : Option Addr) (x3n : Nat) (x3c : Nat) (Kn : T3) (Kr : T0) (h : H) : Prop := n6 x0b x0n x0c x3b x3n x3c Kn Kn Kr h
theorem n5_ok (x0b : Option Addr) (x0n : Nat) (x0c : Nat) (x3b : Option Addr) (x3n : Nat) (x3c : Nat) (Kn : T3) (Kr : T0) (g : Env) (hg : E2 g x0b x0n x0c x3b x3n x3c) (h : H) (hS : n5 x0b x0n x0c x3b x3n x3c Kn Kr h) : wpC none Tryd.prog 34 n3_c1 (Q1 Kn Kr) g h := by
  refine wpC_block' (id := 0) (x := n5_c1) (by kernel_rfl) (n6_ok x0b x0n x0c x3b x3n x3c Kn Kn Kr g hg h hS) ?_
  intro e g' h' hq
  cases e <;> exact hq
abbrev n3 (x0b : Option Addr) (x0n : Nat) (x0c : Nat) (x3b : Option Addr) (x3n : Nat) (x3c : Nat) (Kn : T0) (Kr : T0) (h : H) : Prop := n5 x0b x0n x0c x3b x3n x3c (fun z3b z3n z3c h => n4 z3b z3n z3c Kn Kr h) Kr h
theorem n3_ok (x0b : Option Addr) (x0n : Nat) (x0c : Nat) (x3b : Option Addr) (x3n : Nat) (x3c : Nat) (Kn : T0) (Kr : T0) (g : Env) (hg : E2 g x0b x0n x0c x3b x3n x3c) (h : H) (hS : n3 x0b x0n x0c x3b x3n x3c Kn Kr h) : wpC none Tryd.prog 34 n2_c2 (Q0 Kn Kr) g h := by
  refine wpC_seq' (x := n3_c1) (y := n3_c2) (by kernel_rfl) (n5_ok x0b x0n x0c x3b x3n x3c (fun z3b z3n z3c h => n4 z3b z3n z3c Kn Kr h) Kr g hg h hS) ?_
  intro e g' h' hq
  cases e with
  | normal =>
    have hq : D3 (fun z3b z3n z3c h => n4 z3b z3n z3c Kn Kr h) g' h' := hq
    obtain ⟨y3b, y3n, y3c, hg', hq⟩ := D3_ok hq
    exact n4_ok y3b y3n y3c Kn Kr g' hg' h' hq
  | _ => exact hq
def Q7 (Kn : T2) (Kr : T0) : XPost
  | .normal, g, h => D2 Kn g h
  | .ret, g, h => D0 Kr g h
  | _, _, _ => False
abbrev n2 (x0b : Option Addr) (x0n : Nat) (x0c : Nat) (Kn : T0) (Kr : T0) (h : H) : Prop :=
  n3 x0b x0n x0c none 0 0 Kn Kr h
theorem n2_ok (x0b : Option Addr) (x0n : Nat) (x0c : Nat) (Kn : T0) (Kr : T0) (g : Env) (hg : E1 g x0b x0n x0c) (h : H) (hS : n2 x0b x0n x0c Kn Kr h) : wpC none Tryd.prog 34 n1_c2 (Q0 Kn Kr) g h := by
  obtain ⟨hg0, hds⟩ := hg
  refine wpC_seq' (x := n2_c1) (y := n2_c2) (Q' := (Q7 (fun z0b z0n z0c z3b z3n z3c h => n3 z0b z0n z0c z3b z3n z3c Kn Kr h) Kr)) (by kernel_rfl) ?_ ?_
  · refine wpC_of_wpx (by kernel_rfl) (by kernel_rfl) (g' := (⟨g.v, []⟩ : Env).upd (some 0) (.slice x0b x0n x0c)) (by rw [env_ds hds, upd_self hg0]) ?_
    have e : (n2 x0b x0n x0c Kn Kr h) = wpx none Tryd.prog 34 n2_c1 (Q7 (fun z0b z0n z0c z3b z3n z3c h => n3 z0b z0n z0c z3b z3n z3c Kn Kr h) Kr) ((⟨g.v, []⟩ : Env).upd (some 0) (.slice x0b x0n x0c)) h := by kernel_rfl
    exact e ▸ hS
  · intro e g' h' hq
    cases e with
    | normal =>
      have hq : D2 (fun z0b z0n z0c z3b z3n z3c h => n3 z0b z0n z0c z3b z3n z3c Kn Kr h) g' h' := hq
      obtain ⟨y0b, y0n, y0c, y3b, y3n, y3c, hg', hq⟩ := D2_ok hq
      exact n3_ok y0b y0n y0c y3b y3n y3c Kn Kr g' hg' h' hq
    | _ => exact hq
def Q8 (Kn : T1) (Kr : T0) : XPost
  | .normal, g, h => D1 Kn g h
  | .ret, g, h => D0 Kr g h
  | _, _, _ => False
abbrev n1 (x0b : Option Addr) (x0n : Nat) (x0c : Nat) (Kn : T0) (Kr : T0) (h : H) : Prop :=
  n2 x0b x0n x0c Kn Kr h
theorem n1_ok (x0b : Option Addr) (x0n : Nat) (x0c : Nat) (Kn : T0) (Kr : T0) (g : Env) (hg : E1 g x0b x0n x0c) (h : H) (hS : n1 x0b x0n x0c Kn Kr h) : wpC none Tryd.prog 34 code (Q0 Kn Kr) g h := by
  obtain ⟨hg0, hds⟩ := hg
  refine wpC_seq' (x := n1_c1) (y := n1_c2) (Q' := (Q8 (fun z0b z0n z0c h => n2 z0b z0n z0c Kn Kr h) Kr)) (by kernel_rfl) ?_ ?_
  · refine wpC_of_wpx (by kernel_rfl) (by kernel_rfl) (g' := (⟨g.v, []⟩ : Env).upd (some 0) (.slice x0b x0n x0c)) (by rw [env_ds hds, upd_self hg0]) ?_
    have e : (n1 x0b x0n x0c Kn Kr h) = wpx none Tryd.prog 34 n1_c1 (Q8 (fun z0b z0n z0c h => n2 z0b z0n z0c Kn Kr h) Kr) ((⟨g.v, []⟩ : Env).upd (some 0) (.slice x0b x0n x0c)) h := by kernel_rfl
    exact e ▸ hS
  · intro e g' h' hq
    cases e with
    | normal =>
      have hq : D1 (fun z0b z0n z0c h => n2 z0b z0n z0c Kn Kr h) g' h' := hq
      obtain ⟨y0b, y0n, y0c, hg', hq⟩ := D1_ok hq
      exact n2_ok y0b y0n y0c Kn Kr g' hg' h' hq
    | _ => exact hq
/-- WHAT tympan/tympanref01.plain ASKS -/
abbrev asks (x0b : Option Addr) (x0n : Nat) (x0c : Nat) (K : Value → H → Prop) (h : H) : Prop := n1 x0b x0n x0c (fun y2 h => K (S y2) h) (fun y2 h => K (S y2) h) h
theorem ok (x0b : Option Addr) (x0n : Nat) (x0c : Nat) (K : Value → H → Prop) (h : H) (hS : asks x0b x0n x0c K h) : HCalls Tryd.prog 9 ⟨[(.slice x0b x0n x0c)]⟩ h K := by
  refine calls_of_wpC (c := code) Tryd.func9 (by kernel_rfl) (Nat.le_of_ble_eq_true (by kernel_rfl)) ?_
  refine (n1_ok x0b x0n x0c (fun y2 h => K (S y2) h) (fun y2 h => K (S y2) h) (env0 [(.slice x0b x0n x0c)]) ⟨rfl, rfl⟩ h hS).mono ?_
  intro e g' h' hq
  cases e with
  | normal =>
    have hq : D0 (fun y2 h => K (S y2) h) g' h' := hq
    obtain ⟨y2, ⟨hg2, hd⟩, hq⟩ := D0_ok hq
    show leaveX g'.ds h' _
    rw [hd]
    show K (g'.v 2) h'
    rw [hg2]
    exact hq
  | ret =>
    have hq : D0 (fun y2 h => K (S y2) h) g' h' := hq
    obtain ⟨y2, ⟨hg2, hd⟩, hq⟩ := D0_ok hq
    show leaveX g'.ds h' _
    rw [hd]
    show K (g'.v 2) h'
    rw [hg2]
    exact hq
  | _ => exact hq
end Sx.r01_plain

/-! ### tympan/tympanref01.front -/
namespace Sx.r01_front
noncomputable def code : Code := bodyOf Tryd.f15
abbrev T0 := Int → Bool → H → Prop
def E0 (g : Env) (x2 : Int) (x3 : Bool) : Prop := g.v 2 = (.int .i64 x2) ∧ g.v 3 = (.bool x3) ∧ g.ds = []
def D0 (K : T0) (g : Env) (h : H) : Prop := nilDs g.ds (vInt .i64 (g.v 2) fun i1 => vBool (g.v 3) fun b2 => K i1 b2 h)
theorem D0_ok {K : T0} {g : Env} {h : H} (hq : D0 K g h) : ∃ (x2 : Int) (x3 : Bool), E0 g x2 x3 ∧ K x2 x3 h := by
  obtain ⟨hd, hq⟩ := nilDs_ok hq
  obtain ⟨y4, e3, q5⟩ := vInt_ok hq
  obtain ⟨y7, e6, q8⟩ := vBool_ok q5
  exact ⟨y4, y7, ⟨e3, e6, hd⟩, q8⟩
def Q0 (Kn : T0) (Kr : T0) : XPost
  | .normal, g, h => D0 Kn g h
  | .ret, g, h => D0 Kr g h
  | _, _, _ => False
abbrev T1 := (Option Addr) → Nat → Nat → H → Prop
def E1 (g : Env) (x0b : Option Addr) (x0n : Nat) (x0c : Nat) : Prop := g.v 0 = (.slice x0b x0n x0c) ∧ g.ds = []
def D1 (K : T1) (g : Env) (h : H) : Prop := nilDs g.ds (vSlice (g.v 0) fun s9b s9n s9c => K s9b s9n s9c h)
theorem D1_ok {K : T1} {g : Env} {h : H} (hq : D1 K g h) : ∃ (x0b : Option Addr) (x0n : Nat) (x0c : Nat), E1 g x0b x0n x0c ∧ K x0b x0n x0c h := by
  obtain ⟨hd, hq⟩ := nilDs_ok hq
  obtain ⟨y11b, y11n, y11c, e10, q12⟩ := vSlice_ok hq
  exact ⟨y11b, y11n, y11c, ⟨e10, hd⟩, q12⟩
noncomputable def n1_c1 : Code := cFst code
noncomputable def n1_c2 : Code := cSnd code
noncomputable def n2_c1 : Code := cFst n1_c2
noncomputable def n2_c2 : Code := cSnd n1_c2
abbrev T2 := (Option Addr) → Nat → Nat → Int → H → Prop
def E2 (g : Env) (x0b : Option Addr) (x0n : Nat) (x0c : Nat) (x4 : Int) : Prop := g.v 0 = (.slice x0b x0n x0c) ∧ g.v 4 = (.int .i64 x4) ∧ g.ds = []
def D2 (K : T2) (g : Env) (h : H) : Prop := nilDs g.ds (vSlice (g.v 0) fun s13b s13n s13c => vInt .i64 (g.v 4) fun i14 => K s13b s13n s13c i14 h)
theorem D2_ok {K : T2} {g : Env} {h : H} (hq : D2 K g h) : ∃ (x0b : Option Addr) (x0n : Nat) (x0c : Nat) (x4 : Int), E2 g x0b x0n x0c x4 ∧ K x0b x0n x0c x4 h := by
  obtain ⟨hd, hq⟩ := nilDs_ok hq
  obtain ⟨y16b, y16n, y16c, e15, q17⟩ := vSlice_ok hq
  obtain ⟨y19, e18, q20⟩ := vInt_ok q17
  exact ⟨y16b, y16n, y16c, y19, ⟨e15, e18, hd⟩, q20⟩
noncomputable def n3_c1 : Code := cFst n2_c2
noncomputable def n3_c2 : Code := cSnd n2_c2
noncomputable def n4_c1 : Code := cFst n3_c2
noncomputable def n4_c2 : Code := cSnd n3_c2
abbrev T3 := (Option Addr) → Nat → Nat → Int → Int → H → Prop
def E3 (g : Env) (x0b : Option Addr) (x0n : Nat) (x0c : Nat) (x4 : Int) (x5 : Int) : Prop := g.v 0 = (.slice x0b x0n x0c) ∧ g.v 4 = (.int .i64 x4) ∧ g.v 5 = (.int .i64 x5) ∧ g.ds = []
def D3 (K : T3) (g : Env) (h : H) : Prop := nilDs g.ds (vSlice (g.v 0) fun s21b s21n s21c => vInt .i64 (g.v 4) fun i22 => vInt .i64 (g.v 5) fun i23 => K s21b s21n s21c i22 i23 h)
theorem D3_ok {K : T3} {g : Env} {h : H} (hq : D3 K g h) : ∃ (x0b : Option Addr) (x0n : Nat) (x0c : Nat) (x4 : Int) (x5 : Int), E3 g x0b x0n x0c x4 x5 ∧ K x0b x0n x0c x4 x5 h := by
  obtain ⟨hd, hq⟩ := nilDs_ok hq
  obtain ⟨y25b, y25n, y25c, e24, q26⟩ := vSlice_ok hq
  obtain ⟨y28, e27, q29⟩ := vInt_ok q26
  obtain ⟨y31, e30, q32⟩ := vInt_ok q29
  exact ⟨y25b, y25n, y25c, y28, y31, ⟨e24, e27, e30, hd⟩, q32⟩
noncomputable def n5_c1 : Code := cFst n4_c2
noncomputable def n5_c2 : Code := cSnd n4_c2
abbrev T4 := Int → Int → H → Prop
def E4 (g : Env) (x4 : Int) (x5 : Int) : Prop := g.v 4 = (.int .i64 x4) ∧ g.v 5 = (.int .i64 x5) ∧ g.ds = []
def D4 (K : T4) (g : Env) (h : H) : Prop := nilDs g.ds (vInt .i64 (g.v 4) fun i33 => vInt .i64 (g.v 5) fun i34 => K i33 i34 h)
theorem D4_ok {K : T4} {g : Env} {h : H} (hq : D4 K g h) : ∃ (x4 : Int) (x5 : Int), E4 g x4 x5 ∧ K x4 x5 h := by
  obtain ⟨hd, hq⟩ := nilDs_ok hq
  obtain ⟨y36, e35, q37⟩ := vInt_ok hq
  obtain ⟨y39, e38, q40⟩ := vInt_ok q37
  exact ⟨y36, y39, ⟨e35, e38, hd⟩, q40⟩
abbrev n6 (x4 : Int) (x5 : Int) (Kn : T0) (Kr : T0) (h : H) : Prop :=
  Spl (x5 = x4) (Kr x5 true h) (Kr x5 false h)
theorem n6_ok (x4 : Int) (x5 : Int) (Kn : T0) (Kr : T0) (g : Env) (hg : E4 g x4 x5) (h : H) (hS : n6 x4 x5 Kn Kr h) : wpC none Tryd.prog 58 n5_c2 (Q0 Kn Kr) g h := by
  obtain ⟨hg4, hg5, hds⟩ := hg
  refine wpC_of_wpx (by kernel_rfl) (by kernel_rfl) (g' := ((⟨g.v, []⟩ : Env).upd (some 4) (.int .i64 x4)).upd (some 5) (.int .i64 x5)) (by rw [env_ds hds, upd_self hg4, upd_self hg5]) ?_
  have e : (n6 x4 x5 Kn Kr h) = wpx none Tryd.prog 58 n5_c2 (Q0 Kn Kr) (((⟨g.v, []⟩ : Env).upd (some 4) (.int .i64 x4)).upd (some 5) (.int .i64 x5)) h := by kernel_rfl
  exact e ▸ hS
def Q1 (Kn : T4) (Kr : T0) : XPost
  | .normal, g, h => D4 Kn g h
  | .ret, g, h => D0 Kr g h
  | _, _, _ => False
noncomputable def n7_c1 : Code := cFst n5_c1
def Q2 (Kn : T4) (Ke0 : T4) (Kr : T0) : XPost
  | .normal, g, h => D4 Kn g h
  | .ret, g, h => D0 Kr g h
  | .exit id, g, h => cond (Nat.beq id 0) (D4 Ke0 g h) (False)
  | _, _, _ => False
noncomputable def n8_c1 : Code := cFst n7_c1
def Q3 (Kn : T3) (Ke0 : T4) (Kr : T0) : XPost
  | .normal, g, h => D3 Kn g h
  | .ret, g, h => D0 Kr g h
  | .exit id, g, h => cond (Nat.beq id 0) (D4 Ke0 g h) (False)
  | _, _, _ => False
noncomputable def n9_c1 : Code := cFst n8_c1
noncomputable def n9_c2 : Code := cSnd n8_c1
noncomputable def n10_c1 : Code := cFst n9_c2
def Q4 (Kn : T3) (Ke1 : T3) (Ke0 : T4) (Kr : T0) : XPost
  | .normal, g, h => D3 Kn g h
  | .ret, g, h => D0 Kr g h
  | .exit id, g, h => cond (Nat.beq id 1) (D3 Ke1 g h) (cond (Nat.beq id 0) (D4 Ke0 g h) (False))
  | _, _, _ => False
noncomputable def n11_c1 : Code := cFst n10_c1
noncomputable def n11_c2 : Code := cSnd n10_c1
abbrev n12 (x0b : Option Addr) (x0n : Nat) (x0c : Nat) (x4 : Int) (x5 : Int) (Kn : T3) (Ke1 : T3) (Ke0 : T4) (Kr : T0) (h : H) : Prop :=
  Rng .i64 (x5 + (1 : Int)) ∧ (Kn x0b x0n x0c x4 (x5 + (1 : Int)) h)
theorem n12_ok (x0b : Option Addr) (x0n : Nat) (x0c : Nat) (x4 : Int) (x5 : Int) (Kn : T3) (Ke1 : T3) (Ke0 : T4) (Kr : T0) (g : Env) (hg : E3 g x0b x0n x0c x4 x5) (h : H) (hS : n12 x0b x0n x0c x4 x5 Kn Ke1 Ke0 Kr h) : wpC none Tryd.prog 58 n11_c2 (Q4 Kn Ke1 Ke0 Kr) g h := by
  obtain ⟨hg0, hg4, hg5, hds⟩ := hg
  refine wpC_of_wpx (by kernel_rfl) (by kernel_rfl) (g' := (((⟨g.v, []⟩ : Env).upd (some 0) (.slice x0b x0n x0c)).upd (some 4) (.int .i64 x4)).upd (some 5) (.int .i64 x5)) (by rw [env_ds hds, upd_self hg0, upd_self hg4, upd_self hg5]) ?_
  have e : (n12 x0b x0n x0c x4 x5 Kn Ke1 Ke0 Kr h) = wpx none Tryd.prog 58 n11_c2 (Q4 Kn Ke1 Ke0 Kr) ((((⟨g.v, []⟩ : Env).upd (some 0) (.slice x0b x0n x0c)).upd (some 4) (.int .i64 x4)).upd (some 5) (.int .i64 x5)) h := by kernel_rfl
  exact e ▸ hS
noncomputable def n13_c1 : Code := cFst n11_c1
noncomputable def n13_c2 : Code := cSnd n11_c1
abbrev T5 := (Option Addr) → Nat → Nat → Int → Int → Bool → H → Prop
def E5 (g : Env) (x0b : Option Addr) (x0n : Nat) (x0c : Nat) (x4 : Int) (x5 : Int) (x50 : Bool) : Prop := g.v 0 = (.slice x0b x0n x0c) ∧ g.v 4 = (.int .i64 x4) ∧ g.v 5 = (.int .i64 x5) ∧ g.v 50 = (.bool x50) ∧ g.ds = []
def D5 (K : T5) (g : Env) (h : H) : Prop := nilDs g.ds (vSlice (g.v 0) fun s41b s41n s41c => vInt .i64 (g.v 4) fun i42 => vInt .i64 (g.v 5) fun i43 => vBool (g.v 50) fun b44 => K s41b s41n s41c i42 i43 b44 h)
theorem D5_ok {K : T5} {g : Env} {h : H} (hq : D5 K g h) : ∃ (x0b : Option Addr) (x0n : Nat) (x0c : Nat) (x4 : Int) (x5 : Int) (x50 : Bool), E5 g x0b x0n x0c x4 x5 x50 ∧ K x0b x0n x0c x4 x5 x50 h := by
  obtain ⟨hd, hq⟩ := nilDs_ok hq
  obtain ⟨y46b, y46n, y46c, e45, q47⟩ := vSlice_ok hq
  obtain ⟨y49, e48, q50⟩ := vInt_ok q47
  obtain ⟨y52, e51, q53⟩ := vInt_ok q50
  obtain ⟨y55, e54, q56⟩ := vBool_ok q53
  exact ⟨y46b, y46n, y46c, y49, y52, y55, ⟨e45, e48, e51, e54, hd⟩, q56⟩
abbrev n14 (x0b : Option Addr) (x0n : Nat) (x0c : Nat) (x4 : Int) (x5 : Int) (x50 : Bool) (Kn : T3) (Ke1 : T3) (Ke0 : T4) (Kr : T0) (h : H) : Prop :=
  cond x50 (Kr x5 false h) (Kn x0b x0n x0c x4 x5 h)
theorem n14_ok (x0b : Option Addr) (x0n : Nat) (x0c : Nat) (x4 : Int) (x5 : Int) (x50 : Bool) (Kn : T3) (Ke1 : T3) (Ke0 : T4) (Kr : T0) (g : Env) (hg : E5 g x0b x0n x0c x4 x5 x50) (h : H) (hS : n14 x0b x0n x0c x4 x5 x50 Kn Ke1 Ke0 Kr h) : wpC none Tryd.prog 58 n13_c2 (Q4 Kn Ke1 Ke0 Kr) g h := by
  obtain ⟨hg0, hg4, hg5, hg50, hds⟩ := hg
  refine wpC_of_wpx (by kernel_rfl) (by kernel_rfl) (g' := ((((⟨g.v, []⟩ : Env).upd (some 0) (.slice x0b x0n x0c)).upd (some 4) (.int .i64 x4)).upd (some 5) (.int .i64 x5)).upd (some 50) (.bool x50)) (by rw [env_ds hds, upd_self hg0, upd_self hg4, upd_self hg5, upd_self hg50]) ?_
  have e : (n14 x0b x0n x0c x4 x5 x50 Kn Ke1 Ke0 Kr h) = wpx none Tryd.prog 58 n13_c2 (Q4 Kn Ke1 Ke0 Kr) (((((⟨g.v, []⟩ : Env).upd (some 0) (.slice x0b x0n x0c)).upd (some 4) (.int .i64 x4)).upd (some 5) (.int .i64 x5)).upd (some 50) (.bool x50)) h := by kernel_rfl
  exact e ▸ hS
def Q5 (Kn : T5) (Ke1 : T3) (Ke0 : T4) (Kr : T0) : XPost
  | .normal, g, h => D5 Kn g h
  | .ret, g, h => D0 Kr g h
  | .exit id, g, h => cond (Nat.beq id 1) (D3 Ke1 g h) (cond (Nat.beq id 0) (D4 Ke0 g h) (False))
  | _, _, _ => False
abbrev n13 (x0b : Option Addr) (x0n : Nat) (x0c : Nat) (x4 : Int) (x5 : Int) (Kn : T3) (Ke1 : T3) (Ke0 : T4) (Kr : T0) (h : H) : Prop :=
  Spl (x5 = (1 : Int)) ((0 ≤ (0 : Int) ∧ (0 : Int) < (x0n : Int)) ∧ (vSome x0b fun a57 => ∃ i58, cell h (a57.add (Int.toNat (0 : Int) * 1)) = some (.int .u8 i58) ∧ ((0 ≤ (1 : Int) ∧ (1 : Int) < (x0n : Int)) ∧ (vSome x0b fun a59 => ∃ i60, cell h (a59.add (Int.toNat (1 : Int) * 1)) = some (.int .u8 i60) ∧ (HCalls Tryd.prog 30 ⟨[(.int .u8 i58), (.int .u8 i60)]⟩ h fun v61 h62 => vBool v61 fun b63 => cond b63 (Spl (x5 > (1 : Int)) ((0 ≤ x5 ∧ x5 < (x0n : Int)) ∧ (vSome x0b fun a64 => ∃ i65, cell h62 (a64.add (Int.toNat x5 * 1)) = some (.int .u8 i65) ∧ (Spl (i65 < (128 : Int)) (n14 x0b x0n x0c x4 x5 true Kn Ke1 Ke0 Kr h62) ((0 ≤ x5 ∧ x5 < (x0n : Int)) ∧ (vSome x0b fun a66 => ∃ i67, cell h62 (a66.add (Int.toNat x5 * 1)) = some (.int .u8 i67) ∧ (Spl (i67 > (191 : Int)) (n14 x0b x0n x0c x4 x5 true Kn Ke1 Ke0 Kr h62) (n14 x0b x0n x0c x4 x5 false Kn Ke1 Ke0 Kr h62))))))) (n14 x0b x0n x0c x4 x5 false Kn Ke1 Ke0 Kr h62)) (n14 x0b x0n x0c x4 x5 true Kn Ke1 Ke0 Kr h62)))))) (Spl (x5 > (1 : Int)) ((0 ≤ x5 ∧ x5 < (x0n : Int)) ∧ (vSome x0b fun a68 => ∃ i69, cell h (a68.add (Int.toNat x5 * 1)) = some (.int .u8 i69) ∧ (Spl (i69 < (128 : Int)) (n14 x0b x0n x0c x4 x5 true Kn Ke1 Ke0 Kr h) ((0 ≤ x5 ∧ x5 < (x0n : Int)) ∧ (vSome x0b fun a70 => ∃ i71, cell h (a70.add (Int.toNat x5 * 1)) = some (.int .u8 i71) ∧ (Spl (i71 > (191 : Int)) (n14 x0b x0n x0c x4 x5 true Kn Ke1 Ke0 Kr h) (n14 x0b x0n x0c x4 x5 false Kn Ke1 Ke0 Kr h))))))) (n14 x0b x0n x0c x4 x5 false Kn Ke1 Ke0 Kr h))
theorem n13_ok (x0b : Option Addr) (x0n : Nat) (x0c : Nat) (x4 : Int) (x5 : Int) (Kn : T3) (Ke1 : T3) (Ke0 : T4) (Kr : T0) (g : Env) (hg : E3 g x0b x0n x0c x4 x5) (h : H) (hS : n13 x0b x0n x0c x4 x5 Kn Ke1 Ke0 Kr h) : wpC none Tryd.prog 58 n11_c1 (Q4 Kn Ke1 Ke0 Kr) g h := by
  obtain ⟨hg0, hg4, hg5, hds⟩ := hg
  refine wpC_seq' (x := n13_c1) (y := n13_c2) (Q' := (Q5 (fun z0b z0n z0c z4 z5 z50 h => n14 z0b z0n z0c z4 z5 z50 Kn Ke1 Ke0 Kr h) Ke1 Ke0 Kr)) (by kernel_rfl) ?_ ?_
  · refine wpC_of_wpx (by kernel_rfl) (by kernel_rfl) (g' := (((⟨g.v, []⟩ : Env).upd (some 0) (.slice x0b x0n x0c)).upd (some 4) (.int .i64 x4)).upd (some 5) (.int .i64 x5)) (by rw [env_ds hds, upd_self hg0, upd_self hg4, upd_self hg5]) ?_
    have e : (n13 x0b x0n x0c x4 x5 Kn Ke1 Ke0 Kr h) = wpx none Tryd.prog 58 n13_c1 (Q5 (fun z0b z0n z0c z4 z5 z50 h => n14 z0b z0n z0c z4 z5 z50 Kn Ke1 Ke0 Kr h) Ke1 Ke0 Kr) ((((⟨g.v, []⟩ : Env).upd (some 0) (.slice x0b x0n x0c)).upd (some 4) (.int .i64 x4)).upd (some 5) (.int .i64 x5)) h := by kernel_rfl
    exact e ▸ hS
  · intro e g' h' hq
    cases e with
    | normal =>
      have hq : D5 (fun z0b z0n z0c z4 z5 z50 h => n14 z0b z0n z0c z4 z5 z50 Kn Ke1 Ke0 Kr h) g' h' := hq
      obtain ⟨y0b, y0n, y0c, y4, y5, y50, hg', hq⟩ := D5_ok hq
      exact n14_ok y0b y0n y0c y4 y5 y50 Kn Ke1 Ke0 Kr g' hg' h' hq
    | _ => exact hq
abbrev n11 (x0b : Option Addr) (x0n : Nat) (x0c : Nat) (x4 : Int) (x5 : Int) (Kn : T3) (Ke1 : T3) (Ke0 : T4) (Kr : T0) (h : H) : Prop := n13 x0b x0n x0c x4 x5 (fun z0b z0n z0c z4 z5 h => n12 z0b z0n z0c z4 z5 Kn Ke1 Ke0 Kr h) Ke1 Ke0 Kr h
theorem n11_ok (x0b : Option Addr) (x0n : Nat) (x0c : Nat) (x4 : Int) (x5 : Int) (Kn : T3) (Ke1 : T3) (Ke0 : T4) (Kr : T0) (g : Env) (hg : E3 g x0b x0n x0c x4 x5) (h : H) (hS : n11 x0b x0n x0c x4 x5 Kn Ke1 Ke0 Kr h) : wpC none Tryd.prog 58 n10_c1 (Q4 Kn Ke1 Ke0 Kr) g h := by
  refine wpC_seq' (x := n11_c1) (y := n11_c2) (by kernel_rfl) (n13_ok x0b x0n x0c x4 x5 (fun z0b z0n z0c z4 z5 h => n12 z0b z0n z0c z4 z5 Kn Ke1 Ke0 Kr h) Ke1 Ke0 Kr g hg h hS) ?_
  intro e g' h' hq
  cases e with
  | normal =>
    have hq : D3 (fun z0b z0n z0c z4 z5 h => n12 z0b z0n z0c z4 z5 Kn Ke1 Ke0 Kr h) g' h' := hq
    obtain ⟨y0b, y0n, y0c, y4, y5, hg', hq⟩ := D3_ok hq
    exact n12_ok y0b y0n y0c y4 y5 Kn Ke1 Ke0 Kr g' hg' h' hq
  | _ => exact hq
abbrev n10 (x0b : Option Addr) (x0n : Nat) (x0c : Nat) (x4 : Int) (x5 : Int) (Kn : T3) (Ke0 : T4) (Kr : T0) (h : H) : Prop := n11 x0b x0n x0c x4 x5 Kn Kn Ke0 Kr h
theorem n10_ok (x0b : Option Addr) (x0n : Nat) (x0c : Nat) (x4 : Int) (x5 : Int) (Kn : T3) (Ke0 : T4) (Kr : T0) (g : Env) (hg : E3 g x0b x0n x0c x4 x5) (h : H) (hS : n10 x0b x0n x0c x4 x5 Kn Ke0 Kr h) : wpC none Tryd.prog 58 n9_c2 (Q3 Kn Ke0 Kr) g h := by
  refine wpC_block' (id := 1) (x := n10_c1) (by kernel_rfl) (n11_ok x0b x0n x0c x4 x5 Kn Kn Ke0 Kr g hg h hS) ?_
  intro e g' h' hq
  cases e <;> exact hq
abbrev n9 (x0b : Option Addr) (x0n : Nat) (x0c : Nat) (x4 : Int) (x5 : Int) (Kn : T3) (Ke0 : T4) (Kr : T0) (h : H) : Prop :=
  Spl (x5 < x4) (Spl (x5 < (x0n : Int)) (n10 x0b x0n x0c x4 x5 Kn Ke0 Kr h) (Ke0 x4 x5 h)) (Ke0 x4 x5 h)
theorem n9_ok (x0b : Option Addr) (x0n : Nat) (x0c : Nat) (x4 : Int) (x5 : Int) (Kn : T3) (Ke0 : T4) (Kr : T0) (g : Env) (hg : E3 g x0b x0n x0c x4 x5) (h : H) (hS : n9 x0b x0n x0c x4 x5 Kn Ke0 Kr h) : wpC none Tryd.prog 58 n8_c1 (Q3 Kn Ke0 Kr) g h := by
  obtain ⟨hg0, hg4, hg5, hds⟩ := hg
  refine wpC_seq' (x := n9_c1) (y := n9_c2) (Q' := (Q3 (fun z0b z0n z0c z4 z5 h => n10 z0b z0n z0c z4 z5 Kn Ke0 Kr h) Ke0 Kr)) (by kernel_rfl) ?_ ?_
  · refine wpC_of_wpx (by kernel_rfl) (by kernel_rfl) (g' := (((⟨g.v, []⟩ : Env).upd (some 0) (.slice x0b x0n x0c)).upd (some 4) (.int .i64 x4)).upd (some 5) (.int .i64 x5)) (by rw [env_ds hds, upd_self hg0, upd_self hg4, upd_self hg5]) ?_
    have e : (n9 x0b x0n x0c x4 x5 Kn Ke0 Kr h) = wpx none Tryd.prog 58 n9_c1 (Q3 (fun z0b z0n z0c z4 z5 h => n10 z0b z0n z0c z4 z5 Kn Ke0 Kr h) Ke0 Kr) ((((⟨g.v, []⟩ : Env).upd (some 0) (.slice x0b x0n x0c)).upd (some 4) (.int .i64 x4)).upd (some 5) (.int .i64 x5)) h := by kernel_rfl
    exact e ▸ hS
  · intro e g' h' hq
    cases e with
    | normal =>
      have hq : D3 (fun z0b z0n z0c z4 z5 h => n10 z0b z0n z0c z4 z5 Kn Ke0 Kr h) g' h' := hq
      obtain ⟨y0b, y0n, y0c, y4, y5, hg', hq⟩ := D3_ok hq
      exact n10_ok y0b y0n y0c y4 y5 Kn Ke0 Kr g' hg' h' hq
    | _ => exact hq
def n8_L (Kn : T4) (Ke0 : T4) (Kr : T0) : Nat → (Option Addr) → Nat → Nat → Int → Int → H → Prop
  | 0 => fun _ _ _ _ _ _ => False
  | N + 1 => fun x0b x0n x0c x4 x5 h => n9 x0b x0n x0c x4 x5 (fun z0b z0n z0c z4 z5 h => n8_L Kn Ke0 Kr N z0b z0n z0c z4 z5 h) Ke0 Kr h
abbrev n8 (x0b : Option Addr) (x0n : Nat) (x0c : Nat) (x4 : Int) (x5 : Int) (Kn : T4) (Ke0 : T4) (Kr : T0) (h : H) : Prop := ∃ N, n8_L Kn Ke0 Kr N x0b x0n x0c x4 x5 h
theorem n8_ok (x0b : Option Addr) (x0n : Nat) (x0c : Nat) (x4 : Int) (x5 : Int) (Kn : T4) (Ke0 : T4) (Kr : T0) (g : Env) (hg : E3 g x0b x0n x0c x4 x5) (h : H) (hS : n8 x0b x0n x0c x4 x5 Kn Ke0 Kr h) : wpC none Tryd.prog 58 n7_c1 (Q2 Kn Ke0 Kr) g h := by
  obtain ⟨N0, hS⟩ := hS
  refine wpC_loop' (x := n8_c1) (by kernel_rfl) (fun k g h => ∃ (x0b : Option Addr) (x0n : Nat) (x0c : Nat) (x4 : Int) (x5 : Int), E3 g x0b x0n x0c x4 x5 ∧ n8_L Kn Ke0 Kr k x0b x0n x0c x4 x5 h) (fun g h hr => ?_) (fun N g h hr => ?_) N0 ⟨x0b, x0n, x0c, x4, x5, hg, hS⟩
  · obtain ⟨x0b, x0n, x0c, x4, x5, hg, hS⟩ := hr
    exact hS.elim
  · obtain ⟨x0b, x0n, x0c, x4, x5, hg, hS⟩ := hr
    refine (n9_ok x0b x0n x0c x4 x5 (fun z0b z0n z0c z4 z5 h => n8_L Kn Ke0 Kr N z0b z0n z0c z4 z5 h) Ke0 Kr g hg h hS).mono ?_
    intro e g' h' hq
    cases e with
    | normal => exact D3_ok (K := (fun z0b z0n z0c z4 z5 h => n8_L Kn Ke0 Kr N z0b z0n z0c z4 z5 h)) hq
    | _ => exact hq
abbrev n7 (x0b : Option Addr) (x0n : Nat) (x0c : Nat) (x4 : Int) (x5 : Int) (Kn : T4) (Kr : T0) (h : H) : Prop := n8 x0b x0n x0c x4 x5 Kn Kn Kr h
theorem n7_ok (x0b : Option Addr) (x0n : Nat) (x0c : Nat) (x4 : Int) (x5 : Int) (Kn : T4) (Kr : T0) (g : Env) (hg : E3 g x0b x0n x0c x4 x5) (h : H) (hS : n7 x0b x0n x0c x4 x5 Kn Kr h) : wpC none Tryd.prog 58 n5_c1 (Q1 Kn Kr) g h := by
  refine wpC_block' (id := 0) (x := n7_c1) (by kernel_rfl) (n8_ok x0b x0n x0c x4 x5 Kn Kn Kr g hg h hS) ?_
  intro e g' h' hq
  cases e <;> exact hq
abbrev n5 (x0b : Option Addr) (x0n : Nat) (x0c : Nat) (x4 : Int) (x5 : Int) (Kn : T0) (Kr : T0) (h : H) : Prop := n7 x0b x0n x0c x4 x5 (fun z4 z5 h => n6 z4 z5 Kn Kr h) Kr h
theorem n5_ok (x0b : Option Addr) (x0n : Nat) (x0c : Nat) (x4 : Int) (x5 : Int) (Kn : T0) (Kr : T0) (g : Env) (hg : E3 g x0b x0n x0c x4 x5) (h : H) (hS : n5 x0b x0n x0c x4 x5 Kn Kr h) : wpC none Tryd.prog 58 n4_c2 (Q0 Kn Kr) g h := by
  refine wpC_seq' (x := n5_c1) (y := n5_c2) (by kernel_rfl) (n7_ok x0b x0n x0c x4 x5 (fun z4 z5 h => n6 z4 z5 Kn Kr h) Kr g hg h hS) ?_
  intro e g' h' hq
  cases e with
  | normal =>
    have hq : D4 (fun z4 z5 h => n6 z4 z5 Kn Kr h) g' h' := hq
    obtain ⟨y4, y5, hg', hq⟩ := D4_ok hq
    exact n6_ok y4 y5 Kn Kr g' hg' h' hq
  | _ => exact hq
def Q6 (Kn : T3) (Kr : T0) : XPost
  | .normal, g, h => D3 Kn g h
  | .ret, g, h => D0 Kr g h
  | _, _, _ => False
abbrev n4 (x0b : Option Addr) (x0n : Nat) (x0c : Nat) (x4 : Int) (Kn : T0) (Kr : T0) (h : H) : Prop :=
  n5 x0b x0n x0c x4 (1 : Int) Kn Kr h
theorem n4_ok (x0b : Option Addr) (x0n : Nat) (x0c : Nat) (x4 : Int) (Kn : T0) (Kr : T0) (g : Env) (hg : E2 g x0b x0n x0c x4) (h : H) (hS : n4 x0b x0n x0c x4 Kn Kr h) : wpC none Tryd.prog 58 n3_c2 (Q0 Kn Kr) g h := by
  obtain ⟨hg0, hg4, hds⟩ := hg
  refine wpC_seq' (x := n4_c1) (y := n4_c2) (Q' := (Q6 (fun z0b z0n z0c z4 z5 h => n5 z0b z0n z0c z4 z5 Kn Kr h) Kr)) (by kernel_rfl) ?_ ?_
  · refine wpC_of_wpx (by kernel_rfl) (by kernel_rfl) (g' := ((⟨g.v, []⟩ : Env).upd (some 0) (.slice x0b x0n x0c)).upd (some 4) (.int .i64 x4)) (by rw [env_ds hds, upd_self hg0, upd_self hg4]) ?_
    have e : (n4 x0b x0n x0c x4 Kn Kr h) = wpx none Tryd.prog 58 n4_c1 (Q6 (fun z0b z0n z0c z4 z5 h => n5 z0b z0n z0c z4 z5 Kn Kr h) Kr) (((⟨g.v, []⟩ : Env).upd (some 0) (.slice x0b x0n x0c)).upd (some 4) (.int .i64 x4)) h := by kernel_rfl
    exact e ▸ hS
  · intro e g' h' hq
    cases e with
    | normal =>
      have hq : D3 (fun z0b z0n z0c z4 z5 h => n5 z0b z0n z0c z4 z5 Kn Kr h) g' h' := hq
      obtain ⟨y0b, y0n, y0c, y4, y5, hg', hq⟩ := D3_ok hq
      exact n5_ok y0b y0n y0c y4 y5 Kn Kr g' hg' h' hq
    | _ => exact hq
def Q7 (Kn : T2) (Kr : T0) : XPost
  | .normal, g, h => D2 Kn g h
  | .ret, g, h => D0 Kr g h
  | _, _, _ => False
abbrev n3 (x0b : Option Addr) (x0n : Nat) (x0c : Nat) (x4 : Int) (Kn : T0) (Kr : T0) (h : H) : Prop :=
  Spl (x4 = (0 : Int)) (Kr (1 : Int) false h) (n4 x0b x0n x0c x4 Kn Kr h)
theorem n3_ok (x0b : Option Addr) (x0n : Nat) (x0c : Nat) (x4 : Int) (Kn : T0) (Kr : T0) (g : Env) (hg : E2 g x0b x0n x0c x4) (h : H) (hS : n3 x0b x0n x0c x4 Kn Kr h) : wpC none Tryd.prog 58 n2_c2 (Q0 Kn Kr) g h := by
  obtain ⟨hg0, hg4, hds⟩ := hg
  refine wpC_seq' (x := n3_c1) (y := n3_c2) (Q' := (Q7 (fun z0b z0n z0c z4 h => n4 z0b z0n z0c z4 Kn Kr h) Kr)) (by kernel_rfl) ?_ ?_
  · refine wpC_of_wpx (by kernel_rfl) (by kernel_rfl) (g' := ((⟨g.v, []⟩ : Env).upd (some 0) (.slice x0b x0n x0c)).upd (some 4) (.int .i64 x4)) (by rw [env_ds hds, upd_self hg0, upd_self hg4]) ?_
    have e : (n3 x0b x0n x0c x4 Kn Kr h) = wpx none Tryd.prog 58 n3_c1 (Q7 (fun z0b z0n z0c z4 h => n4 z0b z0n z0c z4 Kn Kr h) Kr) (((⟨g.v, []⟩ : Env).upd (some 0) (.slice x0b x0n x0c)).upd (some 4) (.int .i64 x4)) h := by kernel_rfl
    exact e ▸ hS
  · intro e g' h' hq
    cases e with
    | normal =>
      have hq : D2 (fun z0b z0n z0c z4 h => n4 z0b z0n z0c z4 Kn Kr h) g' h' := hq
      obtain ⟨y0b, y0n, y0c, y4, hg', hq⟩ := D2_ok hq
      exact n4_ok y0b y0n y0c y4 Kn Kr g' hg' h' hq
    | _ => exact hq
abbrev n2 (x0b : Option Addr) (x0n : Nat) (x0c : Nat) (Kn : T0) (Kr : T0) (h : H) : Prop :=
  (0 ≤ (0 : Int) ∧ (0 : Int) < (x0n : Int)) ∧ (vSome x0b fun a72 => ∃ i73, cell h (a72.add (Int.toNat (0 : Int) * 1)) = some (.int .u8 i73) ∧ (HCalls Tryd.prog 29 ⟨[(.int .u8 i73)]⟩ h fun v74 h75 => vInt .i64 v74 fun i76 => n3 x0b x0n x0c i76 Kn Kr h75))
theorem n2_ok (x0b : Option Addr) (x0n : Nat) (x0c : Nat) (Kn : T0) (Kr : T0) (g : Env) (hg : E1 g x0b x0n x0c) (h : H) (hS : n2 x0b x0n x0c Kn Kr h) : wpC none Tryd.prog 58 n1_c2 (Q0 Kn Kr) g h := by
  obtain ⟨hg0, hds⟩ := hg
  refine wpC_seq' (x := n2_c1) (y := n2_c2) (Q' := (Q7 (fun z0b z0n z0c z4 h => n3 z0b z0n z0c z4 Kn Kr h) Kr)) (by kernel_rfl) ?_ ?_
  · refine wpC_of_wpx (by kernel_rfl) (by kernel_rfl) (g' := (⟨g.v, []⟩ : Env).upd (some 0) (.slice x0b x0n x0c)) (by rw [env_ds hds, upd_self hg0]) ?_
    have e : (n2 x0b x0n x0c Kn Kr h) = wpx none Tryd.prog 58 n2_c1 (Q7 (fun z0b z0n z0c z4 h => n3 z0b z0n z0c z4 Kn Kr h) Kr) ((⟨g.v, []⟩ : Env).upd (some 0) (.slice x0b x0n x0c)) h := by kernel_rfl
    exact e ▸ hS
  · intro e g' h' hq
    cases e with
    | normal =>
      have hq : D2 (fun z0b z0n z0c z4 h => n3 z0b z0n z0c z4 Kn Kr h) g' h' := hq
      obtain ⟨y0b, y0n, y0c, y4, hg', hq⟩ := D2_ok hq
      exact n3_ok y0b y0n y0c y4 Kn Kr g' hg' h' hq
    | _ => exact hq
def Q8 (Kn : T1) (Kr : T0) : XPost
  | .normal, g, h => D1 Kn g h
  | .ret, g, h => D0 Kr g h
  | _, _, _ => False
abbrev n1 (x0b : Option Addr) (x0n : Nat) (x0c : Nat) (Kn : T0) (Kr : T0) (h : H) : Prop :=
  n2 x0b x0n x0c Kn Kr h
theorem n1_ok (x0b : Option Addr) (x0n : Nat) (x0c : Nat) (Kn : T0) (Kr : T0) (g : Env) (hg : E1 g x0b x0n x0c) (h : H) (hS : n1 x0b x0n x0c Kn Kr h) : wpC none Tryd.prog 58 code (Q0 Kn Kr) g h := by
  obtain ⟨hg0, hds⟩ := hg
  refine wpC_seq' (x := n1_c1) (y := n1_c2) (Q' := (Q8 (fun z0b z0n z0c h => n2 z0b z0n z0c Kn Kr h) Kr)) (by kernel_rfl) ?_ ?_
  · refine wpC_of_wpx (by kernel_rfl) (by kernel_rfl) (g' := (⟨g.v, []⟩ : Env).upd (some 0) (.slice x0b x0n x0c)) (by rw [env_ds hds, upd_self hg0]) ?_
    have e : (n1 x0b x0n x0c Kn Kr h) = wpx none Tryd.prog 58 n1_c1 (Q8 (fun z0b z0n z0c h => n2 z0b z0n z0c Kn Kr h) Kr) ((⟨g.v, []⟩ : Env).upd (some 0) (.slice x0b x0n x0c)) h := by kernel_rfl
    exact e ▸ hS
  · intro e g' h' hq
    cases e with
    | normal =>
      have hq : D1 (fun z0b z0n z0c h => n2 z0b z0n z0c Kn Kr h) g' h' := hq
      obtain ⟨y0b, y0n, y0c, hg', hq⟩ := D1_ok hq
      exact n2_ok y0b y0n y0c Kn Kr g' hg' h' hq
    | _ => exact hq
/-- WHAT tympan/tympanref01.front ASKS -/
abbrev asks (x0b : Option Addr) (x0n : Nat) (x0c : Nat) (K : Value → H → Prop) (h : H) : Prop := n1 x0b x0n x0c (fun y2 y3 h => K (.tuple ⟨[(.int .i64 y2), (.bool y3)]⟩) h) (fun y2 y3 h => K (.tuple ⟨[(.int .i64 y2), (.bool y3)]⟩) h) h
theorem ok (x0b : Option Addr) (x0n : Nat) (x0c : Nat) (K : Value → H → Prop) (h : H) (hS : asks x0b x0n x0c K h) : HCalls Tryd.prog 15 ⟨[(.slice x0b x0n x0c)]⟩ h K := by
  refine calls_of_wpC (c := code) Tryd.func15 (by kernel_rfl) (Nat.le_of_ble_eq_true (by kernel_rfl)) ?_
  refine (n1_ok x0b x0n x0c (fun y2 y3 h => K (.tuple ⟨[(.int .i64 y2), (.bool y3)]⟩) h) (fun y2 y3 h => K (.tuple ⟨[(.int .i64 y2), (.bool y3)]⟩) h) (env0 [(.slice x0b x0n x0c)]) ⟨rfl, rfl⟩ h hS).mono ?_
  intro e g' h' hq
  cases e with
  | normal =>
    have hq : D0 (fun y2 y3 h => K (.tuple ⟨[(.int .i64 y2), (.bool y3)]⟩) h) g' h' := hq
    obtain ⟨y2, y3, ⟨hg2, hg3, hd⟩, hq⟩ := D0_ok hq
    show leaveX g'.ds h' _
    rw [hd]
    show K (.tuple ⟨[(g'.v 2), (g'.v 3)]⟩) h'
    rw [hg2, hg3]
    exact hq
  | ret =>
    have hq : D0 (fun y2 y3 h => K (.tuple ⟨[(.int .i64 y2), (.bool y3)]⟩) h) g' h' := hq
    obtain ⟨y2, y3, ⟨hg2, hg3, hd⟩, hq⟩ := D0_ok hq
    show leaveX g'.ds h' _
    rw [hd]
    show K (.tuple ⟨[(g'.v 2), (g'.v 3)]⟩) h'
    rw [hg2, hg3]
    exact hq
  | _ => exact hq
end Sx.r01_front

/-! ### tympan/tympanref01.many -/
namespace Sx.r01_many
noncomputable def code : Code := bodyOf Tryd.f29
abbrev T0 := Int → H → Prop
def E0 (g : Env) (x2 : Int) : Prop := g.v 2 = (.int .i64 x2) ∧ g.ds = []
def D0 (K : T0) (g : Env) (h : H) : Prop := nilDs g.ds (vInt .i64 (g.v 2) fun i1 => K i1 h)
theorem D0_ok {K : T0} {g : Env} {h : H} (hq : D0 K g h) : ∃ (x2 : Int), E0 g x2 ∧ K x2 h := by
  obtain ⟨hd, hq⟩ := nilDs_ok hq
  obtain ⟨y3, e2, q4⟩ := vInt_ok hq
  exact ⟨y3, ⟨e2, hd⟩, q4⟩
def Q0 (Kn : T0) (Kr : T0) : XPost
  | .normal, g, h => D0 Kn g h
  | .ret, g, h => D0 Kr g h
  | _, _, _ => False
abbrev T1 := Int → H → Prop
def E1 (g : Env) (x0 : Int) : Prop := g.v 0 = (.int .u8 x0) ∧ g.ds = []
def D1 (K : T1) (g : Env) (h : H) : Prop := nilDs g.ds (vInt .u8 (g.v 0) fun i5 => K i5 h)
theorem D1_ok {K : T1} {g : Env} {h : H} (hq : D1 K g h) : ∃ (x0 : Int), E1 g x0 ∧ K x0 h := by
  obtain ⟨hd, hq⟩ := nilDs_ok hq
  obtain ⟨y7, e6, q8⟩ := vInt_ok hq
  exact ⟨y7, ⟨e6, hd⟩, q8⟩
noncomputable def n1_c1 : Code := cFst code
noncomputable def n1_c2 : Code := cSnd code
noncomputable def n2_c1 : Code := cFst n1_c2
noncomputable def n2_c2 : Code := cSnd n1_c2
abbrev T2 := H → Prop
def E2 (g : Env)  : Prop := g.ds = []
def D2 (K : T2) (g : Env) (h : H) : Prop := nilDs g.ds (K h)
theorem D2_ok {K : T2} {g : Env} {h : H} (hq : D2 K g h) : E2 g  ∧ K  h := by
  obtain ⟨hd, hq⟩ := nilDs_ok hq
  skip
  exact ⟨hd, hq⟩
abbrev n3  (Kn : T0) (Kr : T0) (h : H) : Prop :=
  Kr (0 : Int) h
theorem n3_ok  (Kn : T0) (Kr : T0) (g : Env) (hg : E2 g ) (h : H) (hS : n3  Kn Kr h) : wpC none Tryd.prog 27 n2_c2 (Q0 Kn Kr) g h := by
  have hds : g.ds = [] := hg
  refine wpC_of_wpx (by kernel_rfl) (by kernel_rfl) (g' := ⟨g.v, []⟩) (by rw [env_ds hds]) ?_
  have e : (n3  Kn Kr h) = wpx none Tryd.prog 27 n2_c2 (Q0 Kn Kr) (⟨g.v, []⟩) h := by kernel_rfl
  exact e ▸ hS
def Q1 (Kn : T2) (Kr : T0) : XPost
  | .normal, g, h => D2 Kn g h
  | .ret, g, h => D0 Kr g h
  | _, _, _ => False
noncomputable def n4_c1 : Code := cFst n2_c1
def Q2 (Kn : T2) (Ke0 : T2) (Kr : T0) : XPost
  | .normal, g, h => D2 Kn g h
  | .ret, g, h => D0 Kr g h
  | .exit id, g, h => cond (Nat.beq id 0) (D2 Ke0 g h) (False)
  | _, _, _ => False
noncomputable def n5_c1 : Code := cFst n4_c1
noncomputable def n5_c2 : Code := cSnd n4_c1
abbrev T3 := Int → Bool → H → Prop
def E3 (g : Env) (x0 : Int) (x3 : Bool) : Prop := g.v 0 = (.int .u8 x0) ∧ g.v 3 = (.bool x3) ∧ g.ds = []
def D3 (K : T3) (g : Env) (h : H) : Prop := nilDs g.ds (vInt .u8 (g.v 0) fun i9 => vBool (g.v 3) fun b10 => K i9 b10 h)
theorem D3_ok {K : T3} {g : Env} {h : H} (hq : D3 K g h) : ∃ (x0 : Int) (x3 : Bool), E3 g x0 x3 ∧ K x0 x3 h := by
  obtain ⟨hd, hq⟩ := nilDs_ok hq
  obtain ⟨y12, e11, q13⟩ := vInt_ok hq
  obtain ⟨y15, e14, q16⟩ := vBool_ok q13
  exact ⟨y12, y15, ⟨e11, e14, hd⟩, q16⟩
noncomputable def n6_c1 : Code := cFst n5_c2
noncomputable def n6_c2 : Code := cSnd n5_c2
abbrev n7  (Kn : T2) (Ke0 : T2) (Kr : T0) (h : H) : Prop :=
  Kr (1 : Int) h
theorem n7_ok  (Kn : T2) (Ke0 : T2) (Kr : T0) (g : Env) (hg : E2 g ) (h : H) (hS : n7  Kn Ke0 Kr h) : wpC none Tryd.prog 27 n6_c1 (Q2 Kn Ke0 Kr) g h := by
  have hds : g.ds = [] := hg
  refine wpC_of_wpx (by kernel_rfl) (by kernel_rfl) (g' := ⟨g.v, []⟩) (by rw [env_ds hds]) ?_
  have e : (n7  Kn Ke0 Kr h) = wpx none Tryd.prog 27 n6_c1 (Q2 Kn Ke0 Kr) (⟨g.v, []⟩) h := by kernel_rfl
  exact e ▸ hS
noncomputable def n8_c1 : Code := cFst n6_c2
noncomputable def n8_c2 : Code := cSnd n6_c2
abbrev T4 := Int → Bool → H → Prop
def E4 (g : Env) (x0 : Int) (x6 : Bool) : Prop := g.v 0 = (.int .u8 x0) ∧ g.v 6 = (.bool x6) ∧ g.ds = []
def D4 (K : T4) (g : Env) (h : H) : Prop := nilDs g.ds (vInt .u8 (g.v 0) fun i17 => vBool (g.v 6) fun b18 => K i17 b18 h)
theorem D4_ok {K : T4} {g : Env} {h : H} (hq : D4 K g h) : ∃ (x0 : Int) (x6 : Bool), E4 g x0 x6 ∧ K x0 x6 h := by
  obtain ⟨hd, hq⟩ := nilDs_ok hq
  obtain ⟨y20, e19, q21⟩ := vInt_ok hq
  obtain ⟨y23, e22, q24⟩ := vBool_ok q21
  exact ⟨y20, y23, ⟨e19, e22, hd⟩, q24⟩
noncomputable def n9_c1 : Code := cFst n8_c2
noncomputable def n9_c2 : Code := cSnd n8_c2
abbrev n10  (Kn : T2) (Ke0 : T2) (Kr : T0) (h : H) : Prop :=
  Kr (2 : Int) h
theorem n10_ok  (Kn : T2) (Ke0 : T2) (Kr : T0) (g : Env) (hg : E2 g ) (h : H) (hS : n10  Kn Ke0 Kr h) : wpC none Tryd.prog 27 n9_c1 (Q2 Kn Ke0 Kr) g h := by
  have hds : g.ds = [] := hg
  refine wpC_of_wpx (by kernel_rfl) (by kernel_rfl) (g' := ⟨g.v, []⟩) (by rw [env_ds hds]) ?_
  have e : (n10  Kn Ke0 Kr h) = wpx none Tryd.prog 27 n9_c1 (Q2 Kn Ke0 Kr) (⟨g.v, []⟩) h := by kernel_rfl
  exact e ▸ hS
noncomputable def n11_c1 : Code := cFst n9_c2
noncomputable def n11_c2 : Code := cSnd n9_c2
abbrev T5 := Int → Bool → H → Prop
def E5 (g : Env) (x0 : Int) (x13 : Bool) : Prop := g.v 0 = (.int .u8 x0) ∧ g.v 13 = (.bool x13) ∧ g.ds = []
def D5 (K : T5) (g : Env) (h : H) : Prop := nilDs g.ds (vInt .u8 (g.v 0) fun i25 => vBool (g.v 13) fun b26 => K i25 b26 h)
theorem D5_ok {K : T5} {g : Env} {h : H} (hq : D5 K g h) : ∃ (x0 : Int) (x13 : Bool), E5 g x0 x13 ∧ K x0 x13 h := by
  obtain ⟨hd, hq⟩ := nilDs_ok hq
  obtain ⟨y28, e27, q29⟩ := vInt_ok hq
  obtain ⟨y31, e30, q32⟩ := vBool_ok q29
  exact ⟨y28, y31, ⟨e27, e30, hd⟩, q32⟩
abbrev n12 (x0 : Int) (x13 : Bool) (Kn : T2) (Ke0 : T2) (Kr : T0) (h : H) : Prop :=
  cond x13 (Kr (3 : Int) h) (Spl (x0 ≥ (240 : Int)) (Spl (x0 ≤ (244 : Int)) (Kr (4 : Int) h) (Kn h)) (Kn h))
theorem n12_ok (x0 : Int) (x13 : Bool) (Kn : T2) (Ke0 : T2) (Kr : T0) (g : Env) (hg : E5 g x0 x13) (h : H) (hS : n12 x0 x13 Kn Ke0 Kr h) : wpC none Tryd.prog 27 n11_c2 (Q2 Kn Ke0 Kr) g h := by
  obtain ⟨hg0, hg13, hds⟩ := hg
  refine wpC_of_wpx (by kernel_rfl) (by kernel_rfl) (g' := ((⟨g.v, []⟩ : Env).upd (some 0) (.int .u8 x0)).upd (some 13) (.bool x13)) (by rw [env_ds hds, upd_self hg0, upd_self hg13]) ?_
  have e : (n12 x0 x13 Kn Ke0 Kr h) = wpx none Tryd.prog 27 n11_c2 (Q2 Kn Ke0 Kr) (((⟨g.v, []⟩ : Env).upd (some 0) (.int .u8 x0)).upd (some 13) (.bool x13)) h := by kernel_rfl
  exact e ▸ hS
def Q3 (Kn : T5) (Ke0 : T2) (Kr : T0) : XPost
  | .normal, g, h => D5 Kn g h
  | .ret, g, h => D0 Kr g h
  | .exit id, g, h => cond (Nat.beq id 0) (D2 Ke0 g h) (False)
  | _, _, _ => False
abbrev n11 (x0 : Int) (Kn : T2) (Ke0 : T2) (Kr : T0) (h : H) : Prop :=
  Spl (x0 ≥ (224 : Int)) (Spl (x0 ≤ (239 : Int)) (n12 x0 true Kn Ke0 Kr h) (n12 x0 false Kn Ke0 Kr h)) (n12 x0 false Kn Ke0 Kr h)
theorem n11_ok (x0 : Int) (Kn : T2) (Ke0 : T2) (Kr : T0) (g : Env) (hg : E1 g x0) (h : H) (hS : n11 x0 Kn Ke0 Kr h) : wpC none Tryd.prog 27 n9_c2 (Q2 Kn Ke0 Kr) g h := by
  obtain ⟨hg0, hds⟩ := hg
  refine wpC_seq' (x := n11_c1) (y := n11_c2) (Q' := (Q3 (fun z0 z13 h => n12 z0 z13 Kn Ke0 Kr h) Ke0 Kr)) (by kernel_rfl) ?_ ?_
  · refine wpC_of_wpx (by kernel_rfl) (by kernel_rfl) (g' := (⟨g.v, []⟩ : Env).upd (some 0) (.int .u8 x0)) (by rw [env_ds hds, upd_self hg0]) ?_
    have e : (n11 x0 Kn Ke0 Kr h) = wpx none Tryd.prog 27 n11_c1 (Q3 (fun z0 z13 h => n12 z0 z13 Kn Ke0 Kr h) Ke0 Kr) ((⟨g.v, []⟩ : Env).upd (some 0) (.int .u8 x0)) h := by kernel_rfl
    exact e ▸ hS
  · intro e g' h' hq
    cases e with
    | normal =>
      have hq : D5 (fun z0 z13 h => n12 z0 z13 Kn Ke0 Kr h) g' h' := hq
      obtain ⟨y0, y13, hg', hq⟩ := D5_ok hq
      exact n12_ok y0 y13 Kn Ke0 Kr g' hg' h' hq
    | _ => exact hq
abbrev n9 (x0 : Int) (x6 : Bool) (Kn : T2) (Ke0 : T2) (Kr : T0) (h : H) : Prop := cond x6 (n10  Kn Ke0 Kr h) (n11 x0 Kn Ke0 Kr h)
theorem n9_ok (x0 : Int) (x6 : Bool) (Kn : T2) (Ke0 : T2) (Kr : T0) (g : Env) (hg : E4 g x0 x6) (h : H) (hS : n9 x0 x6 Kn Ke0 Kr h) : wpC none Tryd.prog 27 n8_c2 (Q2 Kn Ke0 Kr) g h := by
  obtain ⟨hg0, hg6, hds⟩ := hg
  have hx : evalE 27 g (.tmp 6) = .bool x6 := by
    show cond (Nat.blt 6 27) (g.v 6) undef = _
    rw [hg6]; rfl
  unfold n9 at hS
  refine wpC_cond' (o := .tmp 6) (x := n9_c1) (y := n9_c2) (by kernel_rfl) hx (fun hb => ?_) (fun hb => ?_)
  · subst hb
    exact n10_ok  Kn Ke0 Kr g hds h hS
  · subst hb
    exact n11_ok x0 Kn Ke0 Kr g ⟨hg0, hds⟩ h hS
def Q4 (Kn : T4) (Ke0 : T2) (Kr : T0) : XPost
  | .normal, g, h => D4 Kn g h
  | .ret, g, h => D0 Kr g h
  | .exit id, g, h => cond (Nat.beq id 0) (D2 Ke0 g h) (False)
  | _, _, _ => False
abbrev n8 (x0 : Int) (Kn : T2) (Ke0 : T2) (Kr : T0) (h : H) : Prop :=
  Spl (x0 ≥ (194 : Int)) (Spl (x0 ≤ (223 : Int)) (n9 x0 true Kn Ke0 Kr h) (n9 x0 false Kn Ke0 Kr h)) (n9 x0 false Kn Ke0 Kr h)
theorem n8_ok (x0 : Int) (Kn : T2) (Ke0 : T2) (Kr : T0) (g : Env) (hg : E1 g x0) (h : H) (hS : n8 x0 Kn Ke0 Kr h) : wpC none Tryd.prog 27 n6_c2 (Q2 Kn Ke0 Kr) g h := by
  obtain ⟨hg0, hds⟩ := hg
  refine wpC_seq' (x := n8_c1) (y := n8_c2) (Q' := (Q4 (fun z0 z6 h => n9 z0 z6 Kn Ke0 Kr h) Ke0 Kr)) (by kernel_rfl) ?_ ?_
  · refine wpC_of_wpx (by kernel_rfl) (by kernel_rfl) (g' := (⟨g.v, []⟩ : Env).upd (some 0) (.int .u8 x0)) (by rw [env_ds hds, upd_self hg0]) ?_
    have e : (n8 x0 Kn Ke0 Kr h) = wpx none Tryd.prog 27 n8_c1 (Q4 (fun z0 z6 h => n9 z0 z6 Kn Ke0 Kr h) Ke0 Kr) ((⟨g.v, []⟩ : Env).upd (some 0) (.int .u8 x0)) h := by kernel_rfl
    exact e ▸ hS
  · intro e g' h' hq
    cases e with
    | normal =>
      have hq : D4 (fun z0 z6 h => n9 z0 z6 Kn Ke0 Kr h) g' h' := hq
      obtain ⟨y0, y6, hg', hq⟩ := D4_ok hq
      exact n9_ok y0 y6 Kn Ke0 Kr g' hg' h' hq
    | _ => exact hq
abbrev n6 (x0 : Int) (x3 : Bool) (Kn : T2) (Ke0 : T2) (Kr : T0) (h : H) : Prop := cond x3 (n7  Kn Ke0 Kr h) (n8 x0 Kn Ke0 Kr h)
theorem n6_ok (x0 : Int) (x3 : Bool) (Kn : T2) (Ke0 : T2) (Kr : T0) (g : Env) (hg : E3 g x0 x3) (h : H) (hS : n6 x0 x3 Kn Ke0 Kr h) : wpC none Tryd.prog 27 n5_c2 (Q2 Kn Ke0 Kr) g h := by
  obtain ⟨hg0, hg3, hds⟩ := hg
  have hx : evalE 27 g (.tmp 3) = .bool x3 := by
    show cond (Nat.blt 3 27) (g.v 3) undef = _
    rw [hg3]; rfl
  unfold n6 at hS
  refine wpC_cond' (o := .tmp 3) (x := n6_c1) (y := n6_c2) (by kernel_rfl) hx (fun hb => ?_) (fun hb => ?_)
  · subst hb
    exact n7_ok  Kn Ke0 Kr g hds h hS
  · subst hb
    exact n8_ok x0 Kn Ke0 Kr g ⟨hg0, hds⟩ h hS
def Q5 (Kn : T3) (Ke0 : T2) (Kr : T0) : XPost
  | .normal, g, h => D3 Kn g h
  | .ret, g, h => D0 Kr g h
  | .exit id, g, h => cond (Nat.beq id 0) (D2 Ke0 g h) (False)
  | _, _, _ => False
abbrev n5 (x0 : Int) (Kn : T2) (Ke0 : T2) (Kr : T0) (h : H) : Prop :=
  Spl (x0 < (128 : Int)) (n6 x0 true Kn Ke0 Kr h) (n6 x0 false Kn Ke0 Kr h)
theorem n5_ok (x0 : Int) (Kn : T2) (Ke0 : T2) (Kr : T0) (g : Env) (hg : E1 g x0) (h : H) (hS : n5 x0 Kn Ke0 Kr h) : wpC none Tryd.prog 27 n4_c1 (Q2 Kn Ke0 Kr) g h := by
  obtain ⟨hg0, hds⟩ := hg
  refine wpC_seq' (x := n5_c1) (y := n5_c2) (Q' := (Q5 (fun z0 z3 h => n6 z0 z3 Kn Ke0 Kr h) Ke0 Kr)) (by kernel_rfl) ?_ ?_
  · refine wpC_of_wpx (by kernel_rfl) (by kernel_rfl) (g' := (⟨g.v, []⟩ : Env).upd (some 0) (.int .u8 x0)) (by rw [env_ds hds, upd_self hg0]) ?_
    have e : (n5 x0 Kn Ke0 Kr h) = wpx none Tryd.prog 27 n5_c1 (Q5 (fun z0 z3 h => n6 z0 z3 Kn Ke0 Kr h) Ke0 Kr) ((⟨g.v, []⟩ : Env).upd (some 0) (.int .u8 x0)) h := by kernel_rfl
    exact e ▸ hS
  · intro e g' h' hq
    cases e with
    | normal =>
      have hq : D3 (fun z0 z3 h => n6 z0 z3 Kn Ke0 Kr h) g' h' := hq
      obtain ⟨y0, y3, hg', hq⟩ := D3_ok hq
      exact n6_ok y0 y3 Kn Ke0 Kr g' hg' h' hq
    | _ => exact hq
abbrev n4 (x0 : Int) (Kn : T2) (Kr : T0) (h : H) : Prop := n5 x0 Kn Kn Kr h
theorem n4_ok (x0 : Int) (Kn : T2) (Kr : T0) (g : Env) (hg : E1 g x0) (h : H) (hS : n4 x0 Kn Kr h) : wpC none Tryd.prog 27 n2_c1 (Q1 Kn Kr) g h := by
  refine wpC_block' (id := 0) (x := n4_c1) (by kernel_rfl) (n5_ok x0 Kn Kn Kr g hg h hS) ?_
  intro e g' h' hq
  cases e <;> exact hq
abbrev n2 (x0 : Int) (Kn : T0) (Kr : T0) (h : H) : Prop := n4 x0 (fun  h => n3 Kn Kr h) Kr h
theorem n2_ok (x0 : Int) (Kn : T0) (Kr : T0) (g : Env) (hg : E1 g x0) (h : H) (hS : n2 x0 Kn Kr h) : wpC none Tryd.prog 27 n1_c2 (Q0 Kn Kr) g h := by
  refine wpC_seq' (x := n2_c1) (y := n2_c2) (by kernel_rfl) (n4_ok x0 (fun  h => n3 Kn Kr h) Kr g hg h hS) ?_
  intro e g' h' hq
  cases e with
  | normal =>
    have hq : D2 (fun  h => n3 Kn Kr h) g' h' := hq
    obtain ⟨hg', hq⟩ := D2_ok hq
    exact n3_ok  Kn Kr g' hg' h' hq
  | _ => exact hq
def Q6 (Kn : T1) (Kr : T0) : XPost
  | .normal, g, h => D1 Kn g h
  | .ret, g, h => D0 Kr g h
  | _, _, _ => False
abbrev n1 (x0 : Int) (Kn : T0) (Kr : T0) (h : H) : Prop :=
  n2 x0 Kn Kr h
theorem n1_ok (x0 : Int) (Kn : T0) (Kr : T0) (g : Env) (hg : E1 g x0) (h : H) (hS : n1 x0 Kn Kr h) : wpC none Tryd.prog 27 code (Q0 Kn Kr) g h := by
  obtain ⟨hg0, hds⟩ := hg
  refine wpC_seq' (x := n1_c1) (y := n1_c2) (Q' := (Q6 (fun z0 h => n2 z0 Kn Kr h) Kr)) (by kernel_rfl) ?_ ?_
  · refine wpC_of_wpx (by kernel_rfl) (by kernel_rfl) (g' := (⟨g.v, []⟩ : Env).upd (some 0) (.int .u8 x0)) (by rw [env_ds hds, upd_self hg0]) ?_
    have e : (n1 x0 Kn Kr h) = wpx none Tryd.prog 27 n1_c1 (Q6 (fun z0 h => n2 z0 Kn Kr h) Kr) ((⟨g.v, []⟩ : Env).upd (some 0) (.int .u8 x0)) h := by kernel_rfl
    exact e ▸ hS
  · intro e g' h' hq
    cases e with
    | normal =>
      have hq : D1 (fun z0 h => n2 z0 Kn Kr h) g' h' := hq
      obtain ⟨y0, hg', hq⟩ := D1_ok hq
      exact n2_ok y0 Kn Kr g' hg' h' hq
    | _ => exact hq
/-- WHAT tympan/tympanref01.many ASKS -/
abbrev asks (x0 : Int) (K : Value → H → Prop) (h : H) : Prop := n1 x0 (fun y2 h => K (.int .i64 y2) h) (fun y2 h => K (.int .i64 y2) h) h
theorem ok (x0 : Int) (K : Value → H → Prop) (h : H) (hS : asks x0 K h) : HCalls Tryd.prog 29 ⟨[(.int .u8 x0)]⟩ h K := by
  refine calls_of_wpC (c := code) Tryd.func29 (by kernel_rfl) (Nat.le_of_ble_eq_true (by kernel_rfl)) ?_
  refine (n1_ok x0 (fun y2 h => K (.int .i64 y2) h) (fun y2 h => K (.int .i64 y2) h) (env0 [(.int .u8 x0)]) ⟨rfl, rfl⟩ h hS).mono ?_
  intro e g' h' hq
  cases e with
  | normal =>
    have hq : D0 (fun y2 h => K (.int .i64 y2) h) g' h' := hq
    obtain ⟨y2, ⟨hg2, hd⟩, hq⟩ := D0_ok hq
    show leaveX g'.ds h' _
    rw [hd]
    show K (g'.v 2) h'
    rw [hg2]
    exact hq
  | ret =>
    have hq : D0 (fun y2 h => K (.int .i64 y2) h) g' h' := hq
    obtain ⟨y2, ⟨hg2, hd⟩, hq⟩ := D0_ok hq
    show leaveX g'.ds h' _
    rw [hd]
    show K (g'.v 2) h'
    rw [hg2]
    exact hq
  | _ => exact hq
end Sx.r01_many

/-! ### tympan/tympanref01.second -/
namespace Sx.r01_second
noncomputable def code : Code := bodyOf Tryd.f30
abbrev T0 := Bool → H → Prop
def E0 (g : Env) (x4 : Bool) : Prop := g.v 4 = (.bool x4) ∧ g.ds = []
def D0 (K : T0) (g : Env) (h : H) : Prop := nilDs g.ds (vBool (g.v 4) fun b1 => K b1 h)
theorem D0_ok {K : T0} {g : Env} {h : H} (hq : D0 K g h) : ∃ (x4 : Bool), E0 g x4 ∧ K x4 h := by
  obtain ⟨hd, hq⟩ := nilDs_ok hq
  obtain ⟨y3, e2, q4⟩ := vBool_ok hq
  exact ⟨y3, ⟨e2, hd⟩, q4⟩
def Q0 (Kn : T0) (Kr : T0) : XPost
  | .normal, g, h => D0 Kn g h
  | .ret, g, h => D0 Kr g h
  | _, _, _ => False
abbrev T1 := Int → Int → H → Prop
def E1 (g : Env) (x0 : Int) (x1 : Int) : Prop := g.v 0 = (.int .u8 x0) ∧ g.v 1 = (.int .u8 x1) ∧ g.ds = []
def D1 (K : T1) (g : Env) (h : H) : Prop := nilDs g.ds (vInt .u8 (g.v 0) fun i5 => vInt .u8 (g.v 1) fun i6 => K i5 i6 h)
theorem D1_ok {K : T1} {g : Env} {h : H} (hq : D1 K g h) : ∃ (x0 : Int) (x1 : Int), E1 g x0 x1 ∧ K x0 x1 h := by
  obtain ⟨hd, hq⟩ := nilDs_ok hq
  obtain ⟨y8, e7, q9⟩ := vInt_ok hq
  obtain ⟨y11, e10, q12⟩ := vInt_ok q9
  exact ⟨y8, y11, ⟨e7, e10, hd⟩, q12⟩
noncomputable def n1_c1 : Code := cFst code
noncomputable def n1_c2 : Code := cSnd code
noncomputable def n2_c1 : Code := cFst n1_c2
noncomputable def n2_c2 : Code := cSnd n1_c2
abbrev T2 := Int → H → Prop
def E2 (g : Env) (x1 : Int) : Prop := g.v 1 = (.int .u8 x1) ∧ g.ds = []
def D2 (K : T2) (g : Env) (h : H) : Prop := nilDs g.ds (vInt .u8 (g.v 1) fun i13 => K i13 h)
theorem D2_ok {K : T2} {g : Env} {h : H} (hq : D2 K g h) : ∃ (x1 : Int), E2 g x1 ∧ K x1 h := by
  obtain ⟨hd, hq⟩ := nilDs_ok hq
  obtain ⟨y15, e14, q16⟩ := vInt_ok hq
  exact ⟨y15, ⟨e14, hd⟩, q16⟩
abbrev n3 (x1 : Int) (Kn : T0) (Kr : T0) (h : H) : Prop :=
  Spl (x1 ≥ (128 : Int)) (Spl (x1 ≤ (191 : Int)) (Kr true h) (Kr false h)) (Kr false h)
theorem n3_ok (x1 : Int) (Kn : T0) (Kr : T0) (g : Env) (hg : E2 g x1) (h : H) (hS : n3 x1 Kn Kr h) : wpC none Tryd.prog 47 n2_c2 (Q0 Kn Kr) g h := by
  obtain ⟨hg1, hds⟩ := hg
  refine wpC_of_wpx (by kernel_rfl) (by kernel_rfl) (g' := (⟨g.v, []⟩ : Env).upd (some 1) (.int .u8 x1)) (by rw [env_ds hds, upd_self hg1]) ?_
  have e : (n3 x1 Kn Kr h) = wpx none Tryd.prog 47 n2_c2 (Q0 Kn Kr) ((⟨g.v, []⟩ : Env).upd (some 1) (.int .u8 x1)) h := by kernel_rfl
  exact e ▸ hS
def Q1 (Kn : T2) (Kr : T0) : XPost
  | .normal, g, h => D2 Kn g h
  | .ret, g, h => D0 Kr g h
  | _, _, _ => False
noncomputable def n4_c1 : Code := cFst n2_c1
def Q2 (Kn : T2) (Ke0 : T2) (Kr : T0) : XPost
  | .normal, g, h => D2 Kn g h
  | .ret, g, h => D0 Kr g h
  | .exit id, g, h => cond (Nat.beq id 0) (D2 Ke0 g h) (False)
  | _, _, _ => False
noncomputable def n5_c1 : Code := cFst n4_c1
noncomputable def n5_c2 : Code := cSnd n4_c1
abbrev T3 := Int → Int → Bool → H → Prop
def E3 (g : Env) (x0 : Int) (x1 : Int) (x5 : Bool) : Prop := g.v 0 = (.int .u8 x0) ∧ g.v 1 = (.int .u8 x1) ∧ g.v 5 = (.bool x5) ∧ g.ds = []
def D3 (K : T3) (g : Env) (h : H) : Prop := nilDs g.ds (vInt .u8 (g.v 0) fun i17 => vInt .u8 (g.v 1) fun i18 => vBool (g.v 5) fun b19 => K i17 i18 b19 h)
theorem D3_ok {K : T3} {g : Env} {h : H} (hq : D3 K g h) : ∃ (x0 : Int) (x1 : Int) (x5 : Bool), E3 g x0 x1 x5 ∧ K x0 x1 x5 h := by
  obtain ⟨hd, hq⟩ := nilDs_ok hq
  obtain ⟨y21, e20, q22⟩ := vInt_ok hq
  obtain ⟨y24, e23, q25⟩ := vInt_ok q22
  obtain ⟨y27, e26, q28⟩ := vBool_ok q25
  exact ⟨y21, y24, y27, ⟨e20, e23, e26, hd⟩, q28⟩
noncomputable def n6_c1 : Code := cFst n5_c2
noncomputable def n6_c2 : Code := cSnd n5_c2
abbrev n7 (x1 : Int) (Kn : T2) (Ke0 : T2) (Kr : T0) (h : H) : Prop :=
  Spl (x1 ≥ (160 : Int)) (Spl (x1 ≤ (191 : Int)) (Kr true h) (Kr false h)) (Kr false h)
theorem n7_ok (x1 : Int) (Kn : T2) (Ke0 : T2) (Kr : T0) (g : Env) (hg : E2 g x1) (h : H) (hS : n7 x1 Kn Ke0 Kr h) : wpC none Tryd.prog 47 n6_c1 (Q2 Kn Ke0 Kr) g h := by
  obtain ⟨hg1, hds⟩ := hg
  refine wpC_of_wpx (by kernel_rfl) (by kernel_rfl) (g' := (⟨g.v, []⟩ : Env).upd (some 1) (.int .u8 x1)) (by rw [env_ds hds, upd_self hg1]) ?_
  have e : (n7 x1 Kn Ke0 Kr h) = wpx none Tryd.prog 47 n6_c1 (Q2 Kn Ke0 Kr) ((⟨g.v, []⟩ : Env).upd (some 1) (.int .u8 x1)) h := by kernel_rfl
  exact e ▸ hS
noncomputable def n8_c1 : Code := cFst n6_c2
noncomputable def n8_c2 : Code := cSnd n6_c2
abbrev T4 := Int → Int → Bool → H → Prop
def E4 (g : Env) (x0 : Int) (x1 : Int) (x14 : Bool) : Prop := g.v 0 = (.int .u8 x0) ∧ g.v 1 = (.int .u8 x1) ∧ g.v 14 = (.bool x14) ∧ g.ds = []
def D4 (K : T4) (g : Env) (h : H) : Prop := nilDs g.ds (vInt .u8 (g.v 0) fun i29 => vInt .u8 (g.v 1) fun i30 => vBool (g.v 14) fun b31 => K i29 i30 b31 h)
theorem D4_ok {K : T4} {g : Env} {h : H} (hq : D4 K g h) : ∃ (x0 : Int) (x1 : Int) (x14 : Bool), E4 g x0 x1 x14 ∧ K x0 x1 x14 h := by
  obtain ⟨hd, hq⟩ := nilDs_ok hq
  obtain ⟨y33, e32, q34⟩ := vInt_ok hq
  obtain ⟨y36, e35, q37⟩ := vInt_ok q34
  obtain ⟨y39, e38, q40⟩ := vBool_ok q37
  exact ⟨y33, y36, y39, ⟨e32, e35, e38, hd⟩, q40⟩
noncomputable def n9_c1 : Code := cFst n8_c2
noncomputable def n9_c2 : Code := cSnd n8_c2
abbrev n10 (x1 : Int) (Kn : T2) (Ke0 : T2) (Kr : T0) (h : H) : Prop :=
  Spl (x1 ≥ (128 : Int)) (Spl (x1 ≤ (159 : Int)) (Kr true h) (Kr false h)) (Kr false h)
theorem n10_ok (x1 : Int) (Kn : T2) (Ke0 : T2) (Kr : T0) (g : Env) (hg : E2 g x1) (h : H) (hS : n10 x1 Kn Ke0 Kr h) : wpC none Tryd.prog 47 n9_c1 (Q2 Kn Ke0 Kr) g h := by
  obtain ⟨hg1, hds⟩ := hg
  refine wpC_of_wpx (by kernel_rfl) (by kernel_rfl) (g' := (⟨g.v, []⟩ : Env).upd (some 1) (.int .u8 x1)) (by rw [env_ds hds, upd_self hg1]) ?_
  have e : (n10 x1 Kn Ke0 Kr h) = wpx none Tryd.prog 47 n9_c1 (Q2 Kn Ke0 Kr) ((⟨g.v, []⟩ : Env).upd (some 1) (.int .u8 x1)) h := by kernel_rfl
  exact e ▸ hS
noncomputable def n11_c1 : Code := cFst n9_c2
noncomputable def n11_c2 : Code := cSnd n9_c2
abbrev T5 := Int → Int → Bool → H → Prop
def E5 (g : Env) (x0 : Int) (x1 : Int) (x23 : Bool) : Prop := g.v 0 = (.int .u8 x0) ∧ g.v 1 = (.int .u8 x1) ∧ g.v 23 = (.bool x23) ∧ g.ds = []
def D5 (K : T5) (g : Env) (h : H) : Prop := nilDs g.ds (vInt .u8 (g.v 0) fun i41 => vInt .u8 (g.v 1) fun i42 => vBool (g.v 23) fun b43 => K i41 i42 b43 h)
theorem D5_ok {K : T5} {g : Env} {h : H} (hq : D5 K g h) : ∃ (x0 : Int) (x1 : Int) (x23 : Bool), E5 g x0 x1 x23 ∧ K x0 x1 x23 h := by
  obtain ⟨hd, hq⟩ := nilDs_ok hq
  obtain ⟨y45, e44, q46⟩ := vInt_ok hq
  obtain ⟨y48, e47, q49⟩ := vInt_ok q46
  obtain ⟨y51, e50, q52⟩ := vBool_ok q49
  exact ⟨y45, y48, y51, ⟨e44, e47, e50, hd⟩, q52⟩
abbrev n12 (x0 : Int) (x1 : Int) (x23 : Bool) (Kn : T2) (Ke0 : T2) (Kr : T0) (h : H) : Prop :=
  cond x23 (Spl (x1 ≥ (144 : Int)) (Spl (x1 ≤ (191 : Int)) (Kr true h) (Kr false h)) (Kr false h)) (Spl (x0 = (244 : Int)) (Spl (x1 ≥ (128 : Int)) (Spl (x1 ≤ (143 : Int)) (Kr true h) (Kr false h)) (Kr false h)) (Kn x1 h))
theorem n12_ok (x0 : Int) (x1 : Int) (x23 : Bool) (Kn : T2) (Ke0 : T2) (Kr : T0) (g : Env) (hg : E5 g x0 x1 x23) (h : H) (hS : n12 x0 x1 x23 Kn Ke0 Kr h) : wpC none Tryd.prog 47 n11_c2 (Q2 Kn Ke0 Kr) g h := by
  obtain ⟨hg0, hg1, hg23, hds⟩ := hg
  refine wpC_of_wpx (by kernel_rfl) (by kernel_rfl) (g' := (((⟨g.v, []⟩ : Env).upd (some 0) (.int .u8 x0)).upd (some 1) (.int .u8 x1)).upd (some 23) (.bool x23)) (by rw [env_ds hds, upd_self hg0, upd_self hg1, upd_self hg23]) ?_
  have e : (n12 x0 x1 x23 Kn Ke0 Kr h) = wpx none Tryd.prog 47 n11_c2 (Q2 Kn Ke0 Kr) ((((⟨g.v, []⟩ : Env).upd (some 0) (.int .u8 x0)).upd (some 1) (.int .u8 x1)).upd (some 23) (.bool x23)) h := by kernel_rfl
  exact e ▸ hS
def Q3 (Kn : T5) (Ke0 : T2) (Kr : T0) : XPost
  | .normal, g, h => D5 Kn g h
  | .ret, g, h => D0 Kr g h
  | .exit id, g, h => cond (Nat.beq id 0) (D2 Ke0 g h) (False)
  | _, _, _ => False
abbrev n11 (x0 : Int) (x1 : Int) (Kn : T2) (Ke0 : T2) (Kr : T0) (h : H) : Prop :=
  Spl (x0 = (240 : Int)) (n12 x0 x1 true Kn Ke0 Kr h) (n12 x0 x1 false Kn Ke0 Kr h)
theorem n11_ok (x0 : Int) (x1 : Int) (Kn : T2) (Ke0 : T2) (Kr : T0) (g : Env) (hg : E1 g x0 x1) (h : H) (hS : n11 x0 x1 Kn Ke0 Kr h) : wpC none Tryd.prog 47 n9_c2 (Q2 Kn Ke0 Kr) g h := by
  obtain ⟨hg0, hg1, hds⟩ := hg
  refine wpC_seq' (x := n11_c1) (y := n11_c2) (Q' := (Q3 (fun z0 z1 z23 h => n12 z0 z1 z23 Kn Ke0 Kr h) Ke0 Kr)) (by kernel_rfl) ?_ ?_
  · refine wpC_of_wpx (by kernel_rfl) (by kernel_rfl) (g' := ((⟨g.v, []⟩ : Env).upd (some 0) (.int .u8 x0)).upd (some 1) (.int .u8 x1)) (by rw [env_ds hds, upd_self hg0, upd_self hg1]) ?_
    have e : (n11 x0 x1 Kn Ke0 Kr h) = wpx none Tryd.prog 47 n11_c1 (Q3 (fun z0 z1 z23 h => n12 z0 z1 z23 Kn Ke0 Kr h) Ke0 Kr) (((⟨g.v, []⟩ : Env).upd (some 0) (.int .u8 x0)).upd (some 1) (.int .u8 x1)) h := by kernel_rfl
    exact e ▸ hS
  · intro e g' h' hq
    cases e with
    | normal =>
      have hq : D5 (fun z0 z1 z23 h => n12 z0 z1 z23 Kn Ke0 Kr h) g' h' := hq
      obtain ⟨y0, y1, y23, hg', hq⟩ := D5_ok hq
      exact n12_ok y0 y1 y23 Kn Ke0 Kr g' hg' h' hq
    | _ => exact hq
abbrev n9 (x0 : Int) (x1 : Int) (x14 : Bool) (Kn : T2) (Ke0 : T2) (Kr : T0) (h : H) : Prop := cond x14 (n10 x1 Kn Ke0 Kr h) (n11 x0 x1 Kn Ke0 Kr h)
theorem n9_ok (x0 : Int) (x1 : Int) (x14 : Bool) (Kn : T2) (Ke0 : T2) (Kr : T0) (g : Env) (hg : E4 g x0 x1 x14) (h : H) (hS : n9 x0 x1 x14 Kn Ke0 Kr h) : wpC none Tryd.prog 47 n8_c2 (Q2 Kn Ke0 Kr) g h := by
  obtain ⟨hg0, hg1, hg14, hds⟩ := hg
  have hx : evalE 47 g (.tmp 14) = .bool x14 := by
    show cond (Nat.blt 14 47) (g.v 14) undef = _
    rw [hg14]; rfl
  unfold n9 at hS
  refine wpC_cond' (o := .tmp 14) (x := n9_c1) (y := n9_c2) (by kernel_rfl) hx (fun hb => ?_) (fun hb => ?_)
  · subst hb
    exact n10_ok x1 Kn Ke0 Kr g ⟨hg1, hds⟩ h hS
  · subst hb
    exact n11_ok x0 x1 Kn Ke0 Kr g ⟨hg0, hg1, hds⟩ h hS
def Q4 (Kn : T4) (Ke0 : T2) (Kr : T0) : XPost
  | .normal, g, h => D4 Kn g h
  | .ret, g, h => D0 Kr g h
  | .exit id, g, h => cond (Nat.beq id 0) (D2 Ke0 g h) (False)
  | _, _, _ => False
abbrev n8 (x0 : Int) (x1 : Int) (Kn : T2) (Ke0 : T2) (Kr : T0) (h : H) : Prop :=
  Spl (x0 = (237 : Int)) (n9 x0 x1 true Kn Ke0 Kr h) (n9 x0 x1 false Kn Ke0 Kr h)
theorem n8_ok (x0 : Int) (x1 : Int) (Kn : T2) (Ke0 : T2) (Kr : T0) (g : Env) (hg : E1 g x0 x1) (h : H) (hS : n8 x0 x1 Kn Ke0 Kr h) : wpC none Tryd.prog 47 n6_c2 (Q2 Kn Ke0 Kr) g h := by
  obtain ⟨hg0, hg1, hds⟩ := hg
  refine wpC_seq' (x := n8_c1) (y := n8_c2) (Q' := (Q4 (fun z0 z1 z14 h => n9 z0 z1 z14 Kn Ke0 Kr h) Ke0 Kr)) (by kernel_rfl) ?_ ?_
  · refine wpC_of_wpx (by kernel_rfl) (by kernel_rfl) (g' := ((⟨g.v, []⟩ : Env).upd (some 0) (.int .u8 x0)).upd (some 1) (.int .u8 x1)) (by rw [env_ds hds, upd_self hg0, upd_self hg1]) ?_
    have e : (n8 x0 x1 Kn Ke0 Kr h) = wpx none Tryd.prog 47 n8_c1 (Q4 (fun z0 z1 z14 h => n9 z0 z1 z14 Kn Ke0 Kr h) Ke0 Kr) (((⟨g.v, []⟩ : Env).upd (some 0) (.int .u8 x0)).upd (some 1) (.int .u8 x1)) h := by kernel_rfl
    exact e ▸ hS
  · intro e g' h' hq
    cases e with
    | normal =>
      have hq : D4 (fun z0 z1 z14 h => n9 z0 z1 z14 Kn Ke0 Kr h) g' h' := hq
      obtain ⟨y0, y1, y14, hg', hq⟩ := D4_ok hq
      exact n9_ok y0 y1 y14 Kn Ke0 Kr g' hg' h' hq
    | _ => exact hq
abbrev n6 (x0 : Int) (x1 : Int) (x5 : Bool) (Kn : T2) (Ke0 : T2) (Kr : T0) (h : H) : Prop := cond x5 (n7 x1 Kn Ke0 Kr h) (n8 x0 x1 Kn Ke0 Kr h)
theorem n6_ok (x0 : Int) (x1 : Int) (x5 : Bool) (Kn : T2) (Ke0 : T2) (Kr : T0) (g : Env) (hg : E3 g x0 x1 x5) (h : H) (hS : n6 x0 x1 x5 Kn Ke0 Kr h) : wpC none Tryd.prog 47 n5_c2 (Q2 Kn Ke0 Kr) g h := by
  obtain ⟨hg0, hg1, hg5, hds⟩ := hg
  have hx : evalE 47 g (.tmp 5) = .bool x5 := by
    show cond (Nat.blt 5 47) (g.v 5) undef = _
    rw [hg5]; rfl
  unfold n6 at hS
  refine wpC_cond' (o := .tmp 5) (x := n6_c1) (y := n6_c2) (by kernel_rfl) hx (fun hb => ?_) (fun hb => ?_)
  · subst hb
    exact n7_ok x1 Kn Ke0 Kr g ⟨hg1, hds⟩ h hS
  · subst hb
    exact n8_ok x0 x1 Kn Ke0 Kr g ⟨hg0, hg1, hds⟩ h hS
def Q5 (Kn : T3) (Ke0 : T2) (Kr : T0) : XPost
  | .normal, g, h => D3 Kn g h
  | .ret, g, h => D0 Kr g h
  | .exit id, g, h => cond (Nat.beq id 0) (D2 Ke0 g h) (False)
  | _, _, _ => False
abbrev n5 (x0 : Int) (x1 : Int) (Kn : T2) (Ke0 : T2) (Kr : T0) (h : H) : Prop :=
  Spl (x0 = (224 : Int)) (n6 x0 x1 true Kn Ke0 Kr h) (n6 x0 x1 false Kn Ke0 Kr h)
theorem n5_ok (x0 : Int) (x1 : Int) (Kn : T2) (Ke0 : T2) (Kr : T0) (g : Env) (hg : E1 g x0 x1) (h : H) (hS : n5 x0 x1 Kn Ke0 Kr h) : wpC none Tryd.prog 47 n4_c1 (Q2 Kn Ke0 Kr) g h := by
  obtain ⟨hg0, hg1, hds⟩ := hg
  refine wpC_seq' (x := n5_c1) (y := n5_c2) (Q' := (Q5 (fun z0 z1 z5 h => n6 z0 z1 z5 Kn Ke0 Kr h) Ke0 Kr)) (by kernel_rfl) ?_ ?_
  · refine wpC_of_wpx (by kernel_rfl) (by kernel_rfl) (g' := ((⟨g.v, []⟩ : Env).upd (some 0) (.int .u8 x0)).upd (some 1) (.int .u8 x1)) (by rw [env_ds hds, upd_self hg0, upd_self hg1]) ?_
    have e : (n5 x0 x1 Kn Ke0 Kr h) = wpx none Tryd.prog 47 n5_c1 (Q5 (fun z0 z1 z5 h => n6 z0 z1 z5 Kn Ke0 Kr h) Ke0 Kr) (((⟨g.v, []⟩ : Env).upd (some 0) (.int .u8 x0)).upd (some 1) (.int .u8 x1)) h := by kernel_rfl
    exact e ▸ hS
  · intro e g' h' hq
    cases e with
    | normal =>
      have hq : D3 (fun z0 z1 z5 h => n6 z0 z1 z5 Kn Ke0 Kr h) g' h' := hq
      obtain ⟨y0, y1, y5, hg', hq⟩ := D3_ok hq
      exact n6_ok y0 y1 y5 Kn Ke0 Kr g' hg' h' hq
    | _ => exact hq
abbrev n4 (x0 : Int) (x1 : Int) (Kn : T2) (Kr : T0) (h : H) : Prop := n5 x0 x1 Kn Kn Kr h
theorem n4_ok (x0 : Int) (x1 : Int) (Kn : T2) (Kr : T0) (g : Env) (hg : E1 g x0 x1) (h : H) (hS : n4 x0 x1 Kn Kr h) : wpC none Tryd.prog 47 n2_c1 (Q1 Kn Kr) g h := by
  refine wpC_block' (id := 0) (x := n4_c1) (by kernel_rfl) (n5_ok x0 x1 Kn Kn Kr g hg h hS) ?_
  intro e g' h' hq
  cases e <;> exact hq
abbrev n2 (x0 : Int) (x1 : Int) (Kn : T0) (Kr : T0) (h : H) : Prop := n4 x0 x1 (fun z1 h => n3 z1 Kn Kr h) Kr h
theorem n2_ok (x0 : Int) (x1 : Int) (Kn : T0) (Kr : T0) (g : Env) (hg : E1 g x0 x1) (h : H) (hS : n2 x0 x1 Kn Kr h) : wpC none Tryd.prog 47 n1_c2 (Q0 Kn Kr) g h := by
  refine wpC_seq' (x := n2_c1) (y := n2_c2) (by kernel_rfl) (n4_ok x0 x1 (fun z1 h => n3 z1 Kn Kr h) Kr g hg h hS) ?_
  intro e g' h' hq
  cases e with
  | normal =>
    have hq : D2 (fun z1 h => n3 z1 Kn Kr h) g' h' := hq
    obtain ⟨y1, hg', hq⟩ := D2_ok hq
    exact n3_ok y1 Kn Kr g' hg' h' hq
  | _ => exact hq
def Q6 (Kn : T1) (Kr : T0) : XPost
  | .normal, g, h => D1 Kn g h
  | .ret, g, h => D0 Kr g h
  | _, _, _ => False
abbrev n1 (x0 : Int) (x1 : Int) (Kn : T0) (Kr : T0) (h : H) : Prop :=
  n2 x0 x1 Kn Kr h
theorem n1_ok (x0 : Int) (x1 : Int) (Kn : T0) (Kr : T0) (g : Env) (hg : E1 g x0 x1) (h : H) (hS : n1 x0 x1 Kn Kr h) : wpC none Tryd.prog 47 code (Q0 Kn Kr) g h := by
  obtain ⟨hg0, hg1, hds⟩ := hg
  refine wpC_seq' (x := n1_c1) (y := n1_c2) (Q' := (Q6 (fun z0 z1 h => n2 z0 z1 Kn Kr h) Kr)) (by kernel_rfl) ?_ ?_
  · refine wpC_of_wpx (by kernel_rfl) (by kernel_rfl) (g' := ((⟨g.v, []⟩ : Env).upd (some 0) (.int .u8 x0)).upd (some 1) (.int .u8 x1)) (by rw [env_ds hds, upd_self hg0, upd_self hg1]) ?_
    have e : (n1 x0 x1 Kn Kr h) = wpx none Tryd.prog 47 n1_c1 (Q6 (fun z0 z1 h => n2 z0 z1 Kn Kr h) Kr) (((⟨g.v, []⟩ : Env).upd (some 0) (.int .u8 x0)).upd (some 1) (.int .u8 x1)) h := by kernel_rfl
    exact e ▸ hS
  · intro e g' h' hq
    cases e with
    | normal =>
      have hq : D1 (fun z0 z1 h => n2 z0 z1 Kn Kr h) g' h' := hq
      obtain ⟨y0, y1, hg', hq⟩ := D1_ok hq
      exact n2_ok y0 y1 Kn Kr g' hg' h' hq
    | _ => exact hq
/-- WHAT tympan/tympanref01.second ASKS -/
abbrev asks (x0 : Int) (x1 : Int) (K : Value → H → Prop) (h : H) : Prop := n1 x0 x1 (fun y4 h => K (.bool y4) h) (fun y4 h => K (.bool y4) h) h
theorem ok (x0 : Int) (x1 : Int) (K : Value → H → Prop) (h : H) (hS : asks x0 x1 K h) : HCalls Tryd.prog 30 ⟨[(.int .u8 x0), (.int .u8 x1)]⟩ h K := by
  refine calls_of_wpC (c := code) Tryd.func30 (by kernel_rfl) (Nat.le_of_ble_eq_true (by kernel_rfl)) ?_
  refine (n1_ok x0 x1 (fun y4 h => K (.bool y4) h) (fun y4 h => K (.bool y4) h) (env0 [(.int .u8 x0), (.int .u8 x1)]) ⟨rfl, rfl, rfl⟩ h hS).mono ?_
  intro e g' h' hq
  cases e with
  | normal =>
    have hq : D0 (fun y4 h => K (.bool y4) h) g' h' := hq
    obtain ⟨y4, ⟨hg4, hd⟩, hq⟩ := D0_ok hq
    show leaveX g'.ds h' _
    rw [hd]
    show K (g'.v 4) h'
    rw [hg4]
    exact hq
  | ret =>
    have hq : D0 (fun y4 h => K (.bool y4) h) g' h' := hq
    obtain ⟨y4, ⟨hg4, hd⟩, hq⟩ := D0_ok hq
    show leaveX g'.ds h' _
    rw [hd]
    show K (g'.v 4) h'
    rw [hg4]
    exact hq
  | _ => exact hq
end Sx.r01_second
end Go.Proofs
