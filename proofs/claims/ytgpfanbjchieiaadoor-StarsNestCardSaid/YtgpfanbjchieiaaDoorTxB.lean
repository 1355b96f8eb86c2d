/- The shallow forms of functions, printed by sh.py out of the translation; each with its proof. No condition. -/
import Derived.Test.YtgpfanbjchieiaaDoorShJ
import Derived.Test.YtgpfanbjchieiaaDoorProg
namespace Go.Proofs
open Go Go.Sh
set_option linter.unusedVariables false
set_option maxRecDepth 100000

/-! ### tympan/stars.Match -/
namespace Sx.stars_Match
noncomputable def code : Code := bodyOf Tryd.f11
abbrev T0 := (Option Addr) → Nat → Nat → H → Prop
def E0 (g : Env) (x2b : Option Addr) (x2n : Nat) (x2c : Nat) : Prop := g.v 2 = (.slice x2b x2n x2c) ∧ g.ds = []
def D0 (K : T0) (g : Env) (h : H) : Prop := nilDs g.ds (vSlice (g.v 2) fun s1b s1n s1c => K s1b s1n s1c h)
theorem D0_ok {K : T0} {g : Env} {h : H} (hq : D0 K g h) : ∃ (x2b : Option Addr) (x2n : Nat) (x2c : Nat), E0 g x2b x2n x2c ∧ K x2b x2n x2c h := by
  obtain ⟨hd, hq⟩ := nilDs_ok hq
  obtain ⟨y3b, y3n, y3c, e2, q4⟩ := vSlice_ok hq
  exact ⟨y3b, y3n, y3c, ⟨e2, hd⟩, q4⟩
def Q0 (Kn : T0) (Kr : T0) : XPost
  | .normal, g, h => D0 Kn g h
  | .ret, g, h => D0 Kr g h
  | _, _, _ => False
abbrev T1 := (Option Addr) → Nat → Nat → H → Prop
def E1 (g : Env) (x0b : Option Addr) (x0n : Nat) (x0c : Nat) : Prop := g.v 0 = (.slice x0b x0n x0c) ∧ g.ds = []
def D1 (K : T1) (g : Env) (h : H) : Prop := nilDs g.ds (vSlice (g.v 0) fun s5b s5n s5c => K s5b s5n s5c h)
theorem D1_ok {K : T1} {g : Env} {h : H} (hq : D1 K g h) : ∃ (x0b : Option Addr) (x0n : Nat) (x0c : Nat), E1 g x0b x0n x0c ∧ K x0b x0n x0c h := by
  obtain ⟨hd, hq⟩ := nilDs_ok hq
  obtain ⟨y7b, y7n, y7c, e6, q8⟩ := vSlice_ok hq
  exact ⟨y7b, y7n, y7c, ⟨e6, hd⟩, q8⟩
noncomputable def n1_c1 : Code := cFst code
noncomputable def n1_c2 : Code := cSnd code
noncomputable def n2_c1 : Code := cFst n1_c2
noncomputable def n2_c2 : Code := cSnd n1_c2
abbrev T2 := (Option Addr) → Nat → Nat → (Option Addr) → Nat → Nat → H → Prop
def E2 (g : Env) (x0b : Option Addr) (x0n : Nat) (x0c : Nat) (x3b : Option Addr) (x3n : Nat) (x3c : Nat) : Prop := g.v 0 = (.slice x0b x0n x0c) ∧ g.v 3 = (.slice x3b x3n x3c) ∧ g.ds = []
def D2 (K : T2) (g : Env) (h : H) : Prop := nilDs g.ds (vSlice (g.v 0) fun s9b s9n s9c => vSlice (g.v 3) fun s10b s10n s10c => K s9b s9n s9c s10b s10n s10c h)
theorem D2_ok {K : T2} {g : Env} {h : H} (hq : D2 K g h) : ∃ (x0b : Option Addr) (x0n : Nat) (x0c : Nat) (x3b : Option Addr) (x3n : Nat) (x3c : Nat), E2 g x0b x0n x0c x3b x3n x3c ∧ K x0b x0n x0c x3b x3n x3c h := by
  obtain ⟨hd, hq⟩ := nilDs_ok hq
  obtain ⟨y12b, y12n, y12c, e11, q13⟩ := vSlice_ok hq
  obtain ⟨y15b, y15n, y15c, e14, q16⟩ := vSlice_ok q13
  exact ⟨y12b, y12n, y12c, y15b, y15n, y15c, ⟨e11, e14, hd⟩, q16⟩
noncomputable def n3_c1 : Code := cFst n2_c2
noncomputable def n3_c2 : Code := cSnd n2_c2
abbrev T3 := (Option Addr) → Nat → Nat → H → Prop
def E3 (g : Env) (x3b : Option Addr) (x3n : Nat) (x3c : Nat) : Prop := g.v 3 = (.slice x3b x3n x3c) ∧ g.ds = []
def D3 (K : T3) (g : Env) (h : H) : Prop := nilDs g.ds (vSlice (g.v 3) fun s17b s17n s17c => K s17b s17n s17c h)
theorem D3_ok {K : T3} {g : Env} {h : H} (hq : D3 K g h) : ∃ (x3b : Option Addr) (x3n : Nat) (x3c : Nat), E3 g x3b x3n x3c ∧ K x3b x3n x3c h := by
  obtain ⟨hd, hq⟩ := nilDs_ok hq
  obtain ⟨y19b, y19n, y19c, e18, q20⟩ := vSlice_ok hq
  exact ⟨y19b, y19n, y19c, ⟨e18, hd⟩, q20⟩
abbrev n4 (x3b : Option Addr) (x3n : Nat) (x3c : Nat) (Kn : T0) (Kr : T0) (h : H) : Prop :=
  Kr x3b x3n x3c h
theorem n4_ok (x3b : Option Addr) (x3n : Nat) (x3c : Nat) (Kn : T0) (Kr : T0) (g : Env) (hg : E3 g x3b x3n x3c) (h : H) (hS : n4 x3b x3n x3c Kn Kr h) : wpC none Tryd.prog 148 n3_c2 (Q0 Kn Kr) g h := by
  obtain ⟨hg3, hds⟩ := hg
  refine wpC_of_wpx (by kernel_rfl) (by kernel_rfl) (g' := (⟨g.v, []⟩ : Env).upd (some 3) (.slice x3b x3n x3c)) (by rw [env_ds hds, upd_self hg3]) ?_
  have e : (n4 x3b x3n x3c Kn Kr h) = wpx none Tryd.prog 148 n3_c2 (Q0 Kn Kr) ((⟨g.v, []⟩ : Env).upd (some 3) (.slice x3b x3n x3c)) h := by kernel_rfl
  exact e ▸ hS
def Q1 (Kn : T3) (Kr : T0) : XPost
  | .normal, g, h => D3 Kn g h
  | .ret, g, h => D0 Kr g h
  | _, _, _ => False
noncomputable def n5_c1 : Code := cFst n3_c1
noncomputable def n5_c2 : Code := cSnd n3_c1
abbrev T4 := (Option Addr) → Nat → Nat → (Option Addr) → H → Prop
def E4 (g : Env) (x3b : Option Addr) (x3n : Nat) (x3c : Nat) (x4 : Option Addr) : Prop := g.v 3 = (.slice x3b x3n x3c) ∧ g.v 4 = (.pointer x4) ∧ g.ds = []
def D4 (K : T4) (g : Env) (h : H) : Prop := nilDs g.ds (vSlice (g.v 3) fun s21b s21n s21c => vPtr (g.v 4) fun p22 => K s21b s21n s21c p22 h)
theorem D4_ok {K : T4} {g : Env} {h : H} (hq : D4 K g h) : ∃ (x3b : Option Addr) (x3n : Nat) (x3c : Nat) (x4 : Option Addr), E4 g x3b x3n x3c x4 ∧ K x3b x3n x3c x4 h := by
  obtain ⟨hd, hq⟩ := nilDs_ok hq
  obtain ⟨y24b, y24n, y24c, e23, q25⟩ := vSlice_ok hq
  obtain ⟨y27, e26, q28⟩ := vPtr_ok q25
  exact ⟨y24b, y24n, y24c, y27, ⟨e23, e26, hd⟩, q28⟩
noncomputable def n6_c1 : Code := cFst n5_c2
def Q2 (Kn : T3) (Ke0 : T3) (Kr : T0) : XPost
  | .normal, g, h => D3 Kn g h
  | .ret, g, h => D0 Kr g h
  | .exit id, g, h => cond (Nat.beq id 0) (D3 Ke0 g h) (False)
  | _, _, _ => False
noncomputable def n7_c1 : Code := cFst n6_c1
def Q3 (Kn : T4) (Ke0 : T3) (Kr : T0) : XPost
  | .normal, g, h => D4 Kn g h
  | .ret, g, h => D0 Kr g h
  | .exit id, g, h => cond (Nat.beq id 0) (D3 Ke0 g h) (False)
  | _, _, _ => False
noncomputable def n8_c1 : Code := cFst n7_c1
noncomputable def n8_c2 : Code := cSnd n7_c1
noncomputable def n9_c1 : Code := cFst n8_c2
def Q4 (Kn : T4) (Ke1 : T4) (Ke0 : T3) (Kr : T0) : XPost
  | .normal, g, h => D4 Kn g h
  | .ret, g, h => D0 Kr g h
  | .exit id, g, h => cond (Nat.beq id 1) (D4 Ke1 g h) (cond (Nat.beq id 0) (D3 Ke0 g h) (False))
  | _, _, _ => False
noncomputable def n10_c1 : Code := cFst n9_c1
noncomputable def n10_c2 : Code := cSnd n9_c1
noncomputable def n11_c1 : Code := cFst n10_c2
noncomputable def n11_c2 : Code := cSnd n10_c2
abbrev T5 := (Option Addr) → Nat → Nat → (Option Addr) → (Option Addr) → H → Prop
def E5 (g : Env) (x3b : Option Addr) (x3n : Nat) (x3c : Nat) (x4 : Option Addr) (x5 : Option Addr) : Prop := g.v 3 = (.slice x3b x3n x3c) ∧ g.v 4 = (.pointer x4) ∧ g.v 5 = (.pointer x5) ∧ g.ds = []
def D5 (K : T5) (g : Env) (h : H) : Prop := nilDs g.ds (vSlice (g.v 3) fun s29b s29n s29c => vPtr (g.v 4) fun p30 => vPtr (g.v 5) fun p31 => K s29b s29n s29c p30 p31 h)
theorem D5_ok {K : T5} {g : Env} {h : H} (hq : D5 K g h) : ∃ (x3b : Option Addr) (x3n : Nat) (x3c : Nat) (x4 : Option Addr) (x5 : Option Addr), E5 g x3b x3n x3c x4 x5 ∧ K x3b x3n x3c x4 x5 h := by
  obtain ⟨hd, hq⟩ := nilDs_ok hq
  obtain ⟨y33b, y33n, y33c, e32, q34⟩ := vSlice_ok hq
  obtain ⟨y36, e35, q37⟩ := vPtr_ok q34
  obtain ⟨y39, e38, q40⟩ := vPtr_ok q37
  exact ⟨y33b, y33n, y33c, y36, y39, ⟨e32, e35, e38, hd⟩, q40⟩
noncomputable def n12_c1 : Code := cFst n11_c2
noncomputable def n12_c2 : Code := cSnd n11_c2
noncomputable def n13_c1 : Code := cFst n12_c2
noncomputable def n13_c2 : Code := cSnd n12_c2
noncomputable def n14_c1 : Code := cFst n13_c2
noncomputable def n14_c2 : Code := cSnd n13_c2
abbrev T6 := (Option Addr) → Nat → Nat → (Option Addr) → (Option Addr) → Int → H → Prop
def E6 (g : Env) (x3b : Option Addr) (x3n : Nat) (x3c : Nat) (x4 : Option Addr) (x5 : Option Addr) (x7 : Int) : Prop := g.v 3 = (.slice x3b x3n x3c) ∧ g.v 4 = (.pointer x4) ∧ g.v 5 = (.pointer x5) ∧ g.v 7 = (.int .i64 x7) ∧ g.ds = []
def D6 (K : T6) (g : Env) (h : H) : Prop := nilDs g.ds (vSlice (g.v 3) fun s41b s41n s41c => vPtr (g.v 4) fun p42 => vPtr (g.v 5) fun p43 => vInt .i64 (g.v 7) fun i44 => K s41b s41n s41c p42 p43 i44 h)
theorem D6_ok {K : T6} {g : Env} {h : H} (hq : D6 K g h) : ∃ (x3b : Option Addr) (x3n : Nat) (x3c : Nat) (x4 : Option Addr) (x5 : Option Addr) (x7 : Int), E6 g x3b x3n x3c x4 x5 x7 ∧ K x3b x3n x3c x4 x5 x7 h := by
  obtain ⟨hd, hq⟩ := nilDs_ok hq
  obtain ⟨y46b, y46n, y46c, e45, q47⟩ := vSlice_ok hq
  obtain ⟨y49, e48, q50⟩ := vPtr_ok q47
  obtain ⟨y52, e51, q53⟩ := vPtr_ok q50
  obtain ⟨y55, e54, q56⟩ := vInt_ok q53
  exact ⟨y46b, y46n, y46c, y49, y52, y55, ⟨e45, e48, e51, e54, hd⟩, q56⟩
noncomputable def n15_c1 : Code := cFst n14_c2
noncomputable def n15_c2 : Code := cSnd n14_c2
noncomputable def n16_c1 : Code := cFst n15_c2
noncomputable def n16_c2 : Code := cSnd n15_c2
noncomputable def n17_c1 : Code := cFst n16_c2
noncomputable def n17_c2 : Code := cSnd n16_c2
noncomputable def n18_c1 : Code := cFst n17_c2
noncomputable def n18_c2 : Code := cSnd n17_c2
noncomputable def n19_c1 : Code := cFst n18_c2
noncomputable def n19_c2 : Code := cSnd n18_c2
noncomputable def n20_c1 : Code := cFst n19_c2
noncomputable def n20_c2 : Code := cSnd n19_c2
noncomputable def n21_c1 : Code := cFst n20_c2
noncomputable def n21_c2 : Code := cSnd n20_c2
abbrev n22 (x3b : Option Addr) (x3n : Nat) (x3c : Nat) (x4 : Option Addr) (Kn : T4) (Ke1 : T4) (Ke0 : T3) (Kr : T0) (h : H) : Prop :=
  vSome x4 fun a57 => ∃ i58, cell h (a57.add 6) = some (.int .i64 i58) ∧ (Spl (i58 = (0 : Int)) (vSome x4 fun a59 => ∃ p60, cell h (a59.add 8) = some (.pointer p60) ∧ (HCalls Tryd.prog 26 ⟨[(.pointer x4)]⟩ h fun v61 h62 => Kn x3b x3n x3c p60 h62)) (Kn x3b x3n x3c x4 h))
theorem n22_ok (x3b : Option Addr) (x3n : Nat) (x3c : Nat) (x4 : Option Addr) (Kn : T4) (Ke1 : T4) (Ke0 : T3) (Kr : T0) (g : Env) (hg : E4 g x3b x3n x3c x4) (h : H) (hS : n22 x3b x3n x3c x4 Kn Ke1 Ke0 Kr h) : wpC none Tryd.prog 148 n21_c2 (Q4 Kn Ke1 Ke0 Kr) g h := by
  obtain ⟨hg3, hg4, hds⟩ := hg
  refine wpC_of_wpx (by kernel_rfl) (by kernel_rfl) (g' := ((⟨g.v, []⟩ : Env).upd (some 3) (.slice x3b x3n x3c)).upd (some 4) (.pointer x4)) (by rw [env_ds hds, upd_self hg3, upd_self hg4]) ?_
  have e : (n22 x3b x3n x3c x4 Kn Ke1 Ke0 Kr h) = wpx none Tryd.prog 148 n21_c2 (Q4 Kn Ke1 Ke0 Kr) (((⟨g.v, []⟩ : Env).upd (some 3) (.slice x3b x3n x3c)).upd (some 4) (.pointer x4)) h := by kernel_rfl
  exact e ▸ hS
abbrev n21 (x3b : Option Addr) (x3n : Nat) (x3c : Nat) (x4 : Option Addr) (x5 : Option Addr) (Kn : T4) (Ke1 : T4) (Ke0 : T3) (Kr : T0) (h : H) : Prop :=
  vSome x5 fun a63 => ∃ i64, cell h (a63.add 6) = some (.int .i64 i64) ∧ (Spl (i64 = (0 : Int)) (HCalls Tryd.prog 26 ⟨[(.pointer x5)]⟩ h fun v65 h66 => n22 x3b x3n x3c x4 Kn Ke1 Ke0 Kr h66) (n22 x3b x3n x3c x4 Kn Ke1 Ke0 Kr h))
theorem n21_ok (x3b : Option Addr) (x3n : Nat) (x3c : Nat) (x4 : Option Addr) (x5 : Option Addr) (Kn : T4) (Ke1 : T4) (Ke0 : T3) (Kr : T0) (g : Env) (hg : E5 g x3b x3n x3c x4 x5) (h : H) (hS : n21 x3b x3n x3c x4 x5 Kn Ke1 Ke0 Kr h) : wpC none Tryd.prog 148 n20_c2 (Q4 Kn Ke1 Ke0 Kr) g h := by
  obtain ⟨hg3, hg4, hg5, hds⟩ := hg
  refine wpC_seq' (x := n21_c1) (y := n21_c2) (Q' := (Q4 (fun z3b z3n z3c z4 h => n22 z3b z3n z3c z4 Kn Ke1 Ke0 Kr h) Ke1 Ke0 Kr)) (by kernel_rfl) ?_ ?_
  · refine wpC_of_wpx (by kernel_rfl) (by kernel_rfl) (g' := (((⟨g.v, []⟩ : Env).upd (some 3) (.slice x3b x3n x3c)).upd (some 4) (.pointer x4)).upd (some 5) (.pointer x5)) (by rw [env_ds hds, upd_self hg3, upd_self hg4, upd_self hg5]) ?_
    have e : (n21 x3b x3n x3c x4 x5 Kn Ke1 Ke0 Kr h) = wpx none Tryd.prog 148 n21_c1 (Q4 (fun z3b z3n z3c z4 h => n22 z3b z3n z3c z4 Kn Ke1 Ke0 Kr h) Ke1 Ke0 Kr) ((((⟨g.v, []⟩ : Env).upd (some 3) (.slice x3b x3n x3c)).upd (some 4) (.pointer x4)).upd (some 5) (.pointer x5)) h := by kernel_rfl
    exact e ▸ hS
  · intro e g' h' hq
    cases e with
    | normal =>
      have hq : D4 (fun z3b z3n z3c z4 h => n22 z3b z3n z3c z4 Kn Ke1 Ke0 Kr h) g' h' := hq
      obtain ⟨y3b, y3n, y3c, y4, hg', hq⟩ := D4_ok hq
      exact n22_ok y3b y3n y3c y4 Kn Ke1 Ke0 Kr g' hg' h' hq
    | _ => exact hq
def Q5 (Kn : T5) (Ke1 : T4) (Ke0 : T3) (Kr : T0) : XPost
  | .normal, g, h => D5 Kn g h
  | .ret, g, h => D0 Kr g h
  | .exit id, g, h => cond (Nat.beq id 1) (D4 Ke1 g h) (cond (Nat.beq id 0) (D3 Ke0 g h) (False))
  | _, _, _ => False
abbrev n20 (x3b : Option Addr) (x3n : Nat) (x3c : Nat) (x4 : Option Addr) (x5 : Option Addr) (Kn : T4) (Ke1 : T4) (Ke0 : T3) (Kr : T0) (h : H) : Prop :=
  vSome x5 fun a67 => stL (a67.add 8) [(.pointer x4)] 0 h fun h68 => vSome x4 fun a69 => stL (a69.add 7) [(.pointer x5)] 0 h68 fun h70 => n21 x3b x3n x3c x4 x5 Kn Ke1 Ke0 Kr h70
theorem n20_ok (x3b : Option Addr) (x3n : Nat) (x3c : Nat) (x4 : Option Addr) (x5 : Option Addr) (Kn : T4) (Ke1 : T4) (Ke0 : T3) (Kr : T0) (g : Env) (hg : E5 g x3b x3n x3c x4 x5) (h : H) (hS : n20 x3b x3n x3c x4 x5 Kn Ke1 Ke0 Kr h) : wpC none Tryd.prog 148 n19_c2 (Q4 Kn Ke1 Ke0 Kr) g h := by
  obtain ⟨hg3, hg4, hg5, hds⟩ := hg
  refine wpC_seq' (x := n20_c1) (y := n20_c2) (Q' := (Q5 (fun z3b z3n z3c z4 z5 h => n21 z3b z3n z3c z4 z5 Kn Ke1 Ke0 Kr h) Ke1 Ke0 Kr)) (by kernel_rfl) ?_ ?_
  · refine wpC_of_wpx (by kernel_rfl) (by kernel_rfl) (g' := (((⟨g.v, []⟩ : Env).upd (some 3) (.slice x3b x3n x3c)).upd (some 4) (.pointer x4)).upd (some 5) (.pointer x5)) (by rw [env_ds hds, upd_self hg3, upd_self hg4, upd_self hg5]) ?_
    have e : (n20 x3b x3n x3c x4 x5 Kn Ke1 Ke0 Kr h) = wpx none Tryd.prog 148 n20_c1 (Q5 (fun z3b z3n z3c z4 z5 h => n21 z3b z3n z3c z4 z5 Kn Ke1 Ke0 Kr h) Ke1 Ke0 Kr) ((((⟨g.v, []⟩ : Env).upd (some 3) (.slice x3b x3n x3c)).upd (some 4) (.pointer x4)).upd (some 5) (.pointer x5)) h := by kernel_rfl
    exact e ▸ hS
  · intro e g' h' hq
    cases e with
    | normal =>
      have hq : D5 (fun z3b z3n z3c z4 z5 h => n21 z3b z3n z3c z4 z5 Kn Ke1 Ke0 Kr h) g' h' := hq
      obtain ⟨y3b, y3n, y3c, y4, y5, hg', hq⟩ := D5_ok hq
      exact n21_ok y3b y3n y3c y4 y5 Kn Ke1 Ke0 Kr g' hg' h' hq
    | _ => exact hq
abbrev n19 (x3b : Option Addr) (x3n : Nat) (x3c : Nat) (x4 : Option Addr) (x5 : Option Addr) (x7 : Int) (Kn : T4) (Ke1 : T4) (Ke0 : T3) (Kr : T0) (h : H) : Prop :=
  vSome x5 fun a71 => ∃ i72, cell h ((a71.add 0).add 1) = some (.int .i64 i72) ∧ (vSome x5 fun a73 => ∃ i74, cell h (a73.add 5) = some (.int .i64 i74) ∧ (vSome x5 fun a75 => ∃ i76, cell h (a75.add 6) = some (.int .i64 i76) ∧ (vSome x4 fun a77 => ∃ i78, cell h ((a77.add 0).add 1) = some (.int .i64 i78) ∧ (vSome x4 fun a79 => ∃ i80, cell h (a79.add 5) = some (.int .i64 i80) ∧ (newx h #[(.int .i64 (IntKind.wrap .i64 ((IntKind.wrap .i64 (i72 + i74)) + i76))), (.int .i64 (IntKind.wrap .i64 (i78 + i80))), (.int .i64 x7)] 35 fun a81 h82 => SemH Tryd.prog (Builtin.append_ #[32, 32] 32 ⟨[(.slice x3b x3n x3c), (.slice (some a81) 1 1)]⟩) h82 fun v83 h84 => vSlice v83 fun s85b s85n s85c => n20 s85b s85n s85c x4 x5 Kn Ke1 Ke0 Kr h84)))))
theorem n19_ok (x3b : Option Addr) (x3n : Nat) (x3c : Nat) (x4 : Option Addr) (x5 : Option Addr) (x7 : Int) (Kn : T4) (Ke1 : T4) (Ke0 : T3) (Kr : T0) (g : Env) (hg : E6 g x3b x3n x3c x4 x5 x7) (h : H) (hS : n19 x3b x3n x3c x4 x5 x7 Kn Ke1 Ke0 Kr h) : wpC none Tryd.prog 148 n18_c2 (Q4 Kn Ke1 Ke0 Kr) g h := by
  obtain ⟨hg3, hg4, hg5, hg7, hds⟩ := hg
  refine wpC_seq' (x := n19_c1) (y := n19_c2) (Q' := (Q5 (fun z3b z3n z3c z4 z5 h => n20 z3b z3n z3c z4 z5 Kn Ke1 Ke0 Kr h) Ke1 Ke0 Kr)) (by kernel_rfl) ?_ ?_
  · refine wpC_of_wpx (by kernel_rfl) (by kernel_rfl) (g' := ((((⟨g.v, []⟩ : Env).upd (some 3) (.slice x3b x3n x3c)).upd (some 4) (.pointer x4)).upd (some 5) (.pointer x5)).upd (some 7) (.int .i64 x7)) (by rw [env_ds hds, upd_self hg3, upd_self hg4, upd_self hg5, upd_self hg7]) ?_
    have e : (n19 x3b x3n x3c x4 x5 x7 Kn Ke1 Ke0 Kr h) = wpx none Tryd.prog 148 n19_c1 (Q5 (fun z3b z3n z3c z4 z5 h => n20 z3b z3n z3c z4 z5 Kn Ke1 Ke0 Kr h) Ke1 Ke0 Kr) (((((⟨g.v, []⟩ : Env).upd (some 3) (.slice x3b x3n x3c)).upd (some 4) (.pointer x4)).upd (some 5) (.pointer x5)).upd (some 7) (.int .i64 x7)) h := by kernel_rfl
    exact e ▸ hS
  · intro e g' h' hq
    cases e with
    | normal =>
      have hq : D5 (fun z3b z3n z3c z4 z5 h => n20 z3b z3n z3c z4 z5 Kn Ke1 Ke0 Kr h) g' h' := hq
      obtain ⟨y3b, y3n, y3c, y4, y5, hg', hq⟩ := D5_ok hq
      exact n20_ok y3b y3n y3c y4 y5 Kn Ke1 Ke0 Kr g' hg' h' hq
    | _ => exact hq
def Q6 (Kn : T6) (Ke1 : T4) (Ke0 : T3) (Kr : T0) : XPost
  | .normal, g, h => D6 Kn g h
  | .ret, g, h => D0 Kr g h
  | .exit id, g, h => cond (Nat.beq id 1) (D4 Ke1 g h) (cond (Nat.beq id 0) (D3 Ke0 g h) (False))
  | _, _, _ => False
abbrev n18 (x3b : Option Addr) (x3n : Nat) (x3c : Nat) (x4 : Option Addr) (x5 : Option Addr) (x7 : Int) (Kn : T4) (Ke1 : T4) (Ke0 : T3) (Kr : T0) (h : H) : Prop :=
  vSome x4 fun a86 => ∃ i87, cell h (a86.add 5) = some (.int .i64 i87) ∧ (vSome x4 fun a88 => stL (a88.add 5) [(.int .i64 (IntKind.wrap .i64 (i87 + x7)))] 0 h fun h89 => n19 x3b x3n x3c x4 x5 x7 Kn Ke1 Ke0 Kr h89)
theorem n18_ok (x3b : Option Addr) (x3n : Nat) (x3c : Nat) (x4 : Option Addr) (x5 : Option Addr) (x7 : Int) (Kn : T4) (Ke1 : T4) (Ke0 : T3) (Kr : T0) (g : Env) (hg : E6 g x3b x3n x3c x4 x5 x7) (h : H) (hS : n18 x3b x3n x3c x4 x5 x7 Kn Ke1 Ke0 Kr h) : wpC none Tryd.prog 148 n17_c2 (Q4 Kn Ke1 Ke0 Kr) g h := by
  obtain ⟨hg3, hg4, hg5, hg7, hds⟩ := hg
  refine wpC_seq' (x := n18_c1) (y := n18_c2) (Q' := (Q6 (fun z3b z3n z3c z4 z5 z7 h => n19 z3b z3n z3c z4 z5 z7 Kn Ke1 Ke0 Kr h) Ke1 Ke0 Kr)) (by kernel_rfl) ?_ ?_
  · refine wpC_of_wpx (by kernel_rfl) (by kernel_rfl) (g' := ((((⟨g.v, []⟩ : Env).upd (some 3) (.slice x3b x3n x3c)).upd (some 4) (.pointer x4)).upd (some 5) (.pointer x5)).upd (some 7) (.int .i64 x7)) (by rw [env_ds hds, upd_self hg3, upd_self hg4, upd_self hg5, upd_self hg7]) ?_
    have e : (n18 x3b x3n x3c x4 x5 x7 Kn Ke1 Ke0 Kr h) = wpx none Tryd.prog 148 n18_c1 (Q6 (fun z3b z3n z3c z4 z5 z7 h => n19 z3b z3n z3c z4 z5 z7 Kn Ke1 Ke0 Kr h) Ke1 Ke0 Kr) (((((⟨g.v, []⟩ : Env).upd (some 3) (.slice x3b x3n x3c)).upd (some 4) (.pointer x4)).upd (some 5) (.pointer x5)).upd (some 7) (.int .i64 x7)) h := by kernel_rfl
    exact e ▸ hS
  · intro e g' h' hq
    cases e with
    | normal =>
      have hq : D6 (fun z3b z3n z3c z4 z5 z7 h => n19 z3b z3n z3c z4 z5 z7 Kn Ke1 Ke0 Kr h) g' h' := hq
      obtain ⟨y3b, y3n, y3c, y4, y5, y7, hg', hq⟩ := D6_ok hq
      exact n19_ok y3b y3n y3c y4 y5 y7 Kn Ke1 Ke0 Kr g' hg' h' hq
    | _ => exact hq
abbrev n17 (x3b : Option Addr) (x3n : Nat) (x3c : Nat) (x4 : Option Addr) (x5 : Option Addr) (x7 : Int) (Kn : T4) (Ke1 : T4) (Ke0 : T3) (Kr : T0) (h : H) : Prop :=
  vSome x4 fun a90 => ∃ i91, cell h (a90.add 6) = some (.int .i64 i91) ∧ (vSome x4 fun a92 => stL (a92.add 6) [(.int .i64 (IntKind.wrap .i64 (i91 - x7)))] 0 h fun h93 => n18 x3b x3n x3c x4 x5 x7 Kn Ke1 Ke0 Kr h93)
theorem n17_ok (x3b : Option Addr) (x3n : Nat) (x3c : Nat) (x4 : Option Addr) (x5 : Option Addr) (x7 : Int) (Kn : T4) (Ke1 : T4) (Ke0 : T3) (Kr : T0) (g : Env) (hg : E6 g x3b x3n x3c x4 x5 x7) (h : H) (hS : n17 x3b x3n x3c x4 x5 x7 Kn Ke1 Ke0 Kr h) : wpC none Tryd.prog 148 n16_c2 (Q4 Kn Ke1 Ke0 Kr) g h := by
  obtain ⟨hg3, hg4, hg5, hg7, hds⟩ := hg
  refine wpC_seq' (x := n17_c1) (y := n17_c2) (Q' := (Q6 (fun z3b z3n z3c z4 z5 z7 h => n18 z3b z3n z3c z4 z5 z7 Kn Ke1 Ke0 Kr h) Ke1 Ke0 Kr)) (by kernel_rfl) ?_ ?_
  · refine wpC_of_wpx (by kernel_rfl) (by kernel_rfl) (g' := ((((⟨g.v, []⟩ : Env).upd (some 3) (.slice x3b x3n x3c)).upd (some 4) (.pointer x4)).upd (some 5) (.pointer x5)).upd (some 7) (.int .i64 x7)) (by rw [env_ds hds, upd_self hg3, upd_self hg4, upd_self hg5, upd_self hg7]) ?_
    have e : (n17 x3b x3n x3c x4 x5 x7 Kn Ke1 Ke0 Kr h) = wpx none Tryd.prog 148 n17_c1 (Q6 (fun z3b z3n z3c z4 z5 z7 h => n18 z3b z3n z3c z4 z5 z7 Kn Ke1 Ke0 Kr h) Ke1 Ke0 Kr) (((((⟨g.v, []⟩ : Env).upd (some 3) (.slice x3b x3n x3c)).upd (some 4) (.pointer x4)).upd (some 5) (.pointer x5)).upd (some 7) (.int .i64 x7)) h := by kernel_rfl
    exact e ▸ hS
  · intro e g' h' hq
    cases e with
    | normal =>
      have hq : D6 (fun z3b z3n z3c z4 z5 z7 h => n18 z3b z3n z3c z4 z5 z7 Kn Ke1 Ke0 Kr h) g' h' := hq
      obtain ⟨y3b, y3n, y3c, y4, y5, y7, hg', hq⟩ := D6_ok hq
      exact n18_ok y3b y3n y3c y4 y5 y7 Kn Ke1 Ke0 Kr g' hg' h' hq
    | _ => exact hq
abbrev n16 (x3b : Option Addr) (x3n : Nat) (x3c : Nat) (x4 : Option Addr) (x5 : Option Addr) (x7 : Int) (Kn : T4) (Ke1 : T4) (Ke0 : T3) (Kr : T0) (h : H) : Prop :=
  vSome x5 fun a94 => ∃ i95, cell h (a94.add 6) = some (.int .i64 i95) ∧ (vSome x5 fun a96 => stL (a96.add 6) [(.int .i64 (IntKind.wrap .i64 (i95 - x7)))] 0 h fun h97 => n17 x3b x3n x3c x4 x5 x7 Kn Ke1 Ke0 Kr h97)
theorem n16_ok (x3b : Option Addr) (x3n : Nat) (x3c : Nat) (x4 : Option Addr) (x5 : Option Addr) (x7 : Int) (Kn : T4) (Ke1 : T4) (Ke0 : T3) (Kr : T0) (g : Env) (hg : E6 g x3b x3n x3c x4 x5 x7) (h : H) (hS : n16 x3b x3n x3c x4 x5 x7 Kn Ke1 Ke0 Kr h) : wpC none Tryd.prog 148 n15_c2 (Q4 Kn Ke1 Ke0 Kr) g h := by
  obtain ⟨hg3, hg4, hg5, hg7, hds⟩ := hg
  refine wpC_seq' (x := n16_c1) (y := n16_c2) (Q' := (Q6 (fun z3b z3n z3c z4 z5 z7 h => n17 z3b z3n z3c z4 z5 z7 Kn Ke1 Ke0 Kr h) Ke1 Ke0 Kr)) (by kernel_rfl) ?_ ?_
  · refine wpC_of_wpx (by kernel_rfl) (by kernel_rfl) (g' := ((((⟨g.v, []⟩ : Env).upd (some 3) (.slice x3b x3n x3c)).upd (some 4) (.pointer x4)).upd (some 5) (.pointer x5)).upd (some 7) (.int .i64 x7)) (by rw [env_ds hds, upd_self hg3, upd_self hg4, upd_self hg5, upd_self hg7]) ?_
    have e : (n16 x3b x3n x3c x4 x5 x7 Kn Ke1 Ke0 Kr h) = wpx none Tryd.prog 148 n16_c1 (Q6 (fun z3b z3n z3c z4 z5 z7 h => n17 z3b z3n z3c z4 z5 z7 Kn Ke1 Ke0 Kr h) Ke1 Ke0 Kr) (((((⟨g.v, []⟩ : Env).upd (some 3) (.slice x3b x3n x3c)).upd (some 4) (.pointer x4)).upd (some 5) (.pointer x5)).upd (some 7) (.int .i64 x7)) h := by kernel_rfl
    exact e ▸ hS
  · intro e g' h' hq
    cases e with
    | normal =>
      have hq : D6 (fun z3b z3n z3c z4 z5 z7 h => n17 z3b z3n z3c z4 z5 z7 Kn Ke1 Ke0 Kr h) g' h' := hq
      obtain ⟨y3b, y3n, y3c, y4, y5, y7, hg', hq⟩ := D6_ok hq
      exact n17_ok y3b y3n y3c y4 y5 y7 Kn Ke1 Ke0 Kr g' hg' h' hq
    | _ => exact hq
abbrev n15 (x3b : Option Addr) (x3n : Nat) (x3c : Nat) (x4 : Option Addr) (x5 : Option Addr) (x7 : Int) (Kn : T4) (Ke1 : T4) (Ke0 : T3) (Kr : T0) (h : H) : Prop :=
  vSome x5 fun a98 => ∃ i99, cell h (a98.add 6) = some (.int .i64 i99) ∧ (Spl (i99 ≥ (2 : Int)) (vSome x4 fun a100 => ∃ i101, cell h (a100.add 6) = some (.int .i64 i101) ∧ (Spl (i101 ≥ (2 : Int)) (n16 x3b x3n x3c x4 x5 (2 : Int) Kn Ke1 Ke0 Kr h) (n16 x3b x3n x3c x4 x5 x7 Kn Ke1 Ke0 Kr h))) (n16 x3b x3n x3c x4 x5 x7 Kn Ke1 Ke0 Kr h))
theorem n15_ok (x3b : Option Addr) (x3n : Nat) (x3c : Nat) (x4 : Option Addr) (x5 : Option Addr) (x7 : Int) (Kn : T4) (Ke1 : T4) (Ke0 : T3) (Kr : T0) (g : Env) (hg : E6 g x3b x3n x3c x4 x5 x7) (h : H) (hS : n15 x3b x3n x3c x4 x5 x7 Kn Ke1 Ke0 Kr h) : wpC none Tryd.prog 148 n14_c2 (Q4 Kn Ke1 Ke0 Kr) g h := by
  obtain ⟨hg3, hg4, hg5, hg7, hds⟩ := hg
  refine wpC_seq' (x := n15_c1) (y := n15_c2) (Q' := (Q6 (fun z3b z3n z3c z4 z5 z7 h => n16 z3b z3n z3c z4 z5 z7 Kn Ke1 Ke0 Kr h) Ke1 Ke0 Kr)) (by kernel_rfl) ?_ ?_
  · refine wpC_of_wpx (by kernel_rfl) (by kernel_rfl) (g' := ((((⟨g.v, []⟩ : Env).upd (some 3) (.slice x3b x3n x3c)).upd (some 4) (.pointer x4)).upd (some 5) (.pointer x5)).upd (some 7) (.int .i64 x7)) (by rw [env_ds hds, upd_self hg3, upd_self hg4, upd_self hg5, upd_self hg7]) ?_
    have e : (n15 x3b x3n x3c x4 x5 x7 Kn Ke1 Ke0 Kr h) = wpx none Tryd.prog 148 n15_c1 (Q6 (fun z3b z3n z3c z4 z5 z7 h => n16 z3b z3n z3c z4 z5 z7 Kn Ke1 Ke0 Kr h) Ke1 Ke0 Kr) (((((⟨g.v, []⟩ : Env).upd (some 3) (.slice x3b x3n x3c)).upd (some 4) (.pointer x4)).upd (some 5) (.pointer x5)).upd (some 7) (.int .i64 x7)) h := by kernel_rfl
    exact e ▸ hS
  · intro e g' h' hq
    cases e with
    | normal =>
      have hq : D6 (fun z3b z3n z3c z4 z5 z7 h => n16 z3b z3n z3c z4 z5 z7 Kn Ke1 Ke0 Kr h) g' h' := hq
      obtain ⟨y3b, y3n, y3c, y4, y5, y7, hg', hq⟩ := D6_ok hq
      exact n16_ok y3b y3n y3c y4 y5 y7 Kn Ke1 Ke0 Kr g' hg' h' hq
    | _ => exact hq
abbrev n14 (x3b : Option Addr) (x3n : Nat) (x3c : Nat) (x4 : Option Addr) (x5 : Option Addr) (Kn : T4) (Ke1 : T4) (Ke0 : T3) (Kr : T0) (h : H) : Prop :=
  n15 x3b x3n x3c x4 x5 (1 : Int) Kn Ke1 Ke0 Kr h
theorem n14_ok (x3b : Option Addr) (x3n : Nat) (x3c : Nat) (x4 : Option Addr) (x5 : Option Addr) (Kn : T4) (Ke1 : T4) (Ke0 : T3) (Kr : T0) (g : Env) (hg : E5 g x3b x3n x3c x4 x5) (h : H) (hS : n14 x3b x3n x3c x4 x5 Kn Ke1 Ke0 Kr h) : wpC none Tryd.prog 148 n13_c2 (Q4 Kn Ke1 Ke0 Kr) g h := by
  obtain ⟨hg3, hg4, hg5, hds⟩ := hg
  refine wpC_seq' (x := n14_c1) (y := n14_c2) (Q' := (Q6 (fun z3b z3n z3c z4 z5 z7 h => n15 z3b z3n z3c z4 z5 z7 Kn Ke1 Ke0 Kr h) Ke1 Ke0 Kr)) (by kernel_rfl) ?_ ?_
  · refine wpC_of_wpx (by kernel_rfl) (by kernel_rfl) (g' := (((⟨g.v, []⟩ : Env).upd (some 3) (.slice x3b x3n x3c)).upd (some 4) (.pointer x4)).upd (some 5) (.pointer x5)) (by rw [env_ds hds, upd_self hg3, upd_self hg4, upd_self hg5]) ?_
    have e : (n14 x3b x3n x3c x4 x5 Kn Ke1 Ke0 Kr h) = wpx none Tryd.prog 148 n14_c1 (Q6 (fun z3b z3n z3c z4 z5 z7 h => n15 z3b z3n z3c z4 z5 z7 Kn Ke1 Ke0 Kr h) Ke1 Ke0 Kr) ((((⟨g.v, []⟩ : Env).upd (some 3) (.slice x3b x3n x3c)).upd (some 4) (.pointer x4)).upd (some 5) (.pointer x5)) h := by kernel_rfl
    exact e ▸ hS
  · intro e g' h' hq
    cases e with
    | normal =>
      have hq : D6 (fun z3b z3n z3c z4 z5 z7 h => n15 z3b z3n z3c z4 z5 z7 Kn Ke1 Ke0 Kr h) g' h' := hq
      obtain ⟨y3b, y3n, y3c, y4, y5, y7, hg', hq⟩ := D6_ok hq
      exact n15_ok y3b y3n y3c y4 y5 y7 Kn Ke1 Ke0 Kr g' hg' h' hq
    | _ => exact hq
noncomputable def n23_c1 : Code := cFst n13_c1
noncomputable def n23_c2 : Code := cSnd n13_c1
abbrev T7 := (Option Addr) → Nat → Nat → (Option Addr) → (Option Addr) → Bool → H → Prop
def E7 (g : Env) (x3b : Option Addr) (x3n : Nat) (x3c : Nat) (x4 : Option Addr) (x5 : Option Addr) (x40 : Bool) : Prop := g.v 3 = (.slice x3b x3n x3c) ∧ g.v 4 = (.pointer x4) ∧ g.v 5 = (.pointer x5) ∧ g.v 40 = (.bool x40) ∧ g.ds = []
def D7 (K : T7) (g : Env) (h : H) : Prop := nilDs g.ds (vSlice (g.v 3) fun s102b s102n s102c => vPtr (g.v 4) fun p103 => vPtr (g.v 5) fun p104 => vBool (g.v 40) fun b105 => K s102b s102n s102c p103 p104 b105 h)
theorem D7_ok {K : T7} {g : Env} {h : H} (hq : D7 K g h) : ∃ (x3b : Option Addr) (x3n : Nat) (x3c : Nat) (x4 : Option Addr) (x5 : Option Addr) (x40 : Bool), E7 g x3b x3n x3c x4 x5 x40 ∧ K x3b x3n x3c x4 x5 x40 h := by
  obtain ⟨hd, hq⟩ := nilDs_ok hq
  obtain ⟨y107b, y107n, y107c, e106, q108⟩ := vSlice_ok hq
  obtain ⟨y110, e109, q111⟩ := vPtr_ok q108
  obtain ⟨y113, e112, q114⟩ := vPtr_ok q111
  obtain ⟨y116, e115, q117⟩ := vBool_ok q114
  exact ⟨y107b, y107n, y107c, y110, y113, y116, ⟨e106, e109, e112, e115, hd⟩, q117⟩
abbrev n24 (x3b : Option Addr) (x3n : Nat) (x3c : Nat) (x4 : Option Addr) (x5 : Option Addr) (x40 : Bool) (Kn : T5) (Ke1 : T4) (Ke0 : T3) (Kr : T0) (h : H) : Prop :=
  cond x40 (vSome x4 fun a118 => ∃ p119, cell h (a118.add 8) = some (.pointer p119) ∧ (vSome x4 fun a120 => ∃ b121, cell h ((a120.add 0).add 3) = some (.bool b121) ∧ (cond b121 (Ke1 x3b x3n x3c p119 h) (HCalls Tryd.prog 26 ⟨[(.pointer x4)]⟩ h fun v122 h123 => Ke1 x3b x3n x3c p119 h123)))) (Kn x3b x3n x3c x4 x5 h)
theorem n24_ok (x3b : Option Addr) (x3n : Nat) (x3c : Nat) (x4 : Option Addr) (x5 : Option Addr) (x40 : Bool) (Kn : T5) (Ke1 : T4) (Ke0 : T3) (Kr : T0) (g : Env) (hg : E7 g x3b x3n x3c x4 x5 x40) (h : H) (hS : n24 x3b x3n x3c x4 x5 x40 Kn Ke1 Ke0 Kr h) : wpC none Tryd.prog 148 n23_c2 (Q5 Kn Ke1 Ke0 Kr) g h := by
  obtain ⟨hg3, hg4, hg5, hg40, hds⟩ := hg
  refine wpC_of_wpx (by kernel_rfl) (by kernel_rfl) (g' := ((((⟨g.v, []⟩ : Env).upd (some 3) (.slice x3b x3n x3c)).upd (some 4) (.pointer x4)).upd (some 5) (.pointer x5)).upd (some 40) (.bool x40)) (by rw [env_ds hds, upd_self hg3, upd_self hg4, upd_self hg5, upd_self hg40]) ?_
  have e : (n24 x3b x3n x3c x4 x5 x40 Kn Ke1 Ke0 Kr h) = wpx none Tryd.prog 148 n23_c2 (Q5 Kn Ke1 Ke0 Kr) (((((⟨g.v, []⟩ : Env).upd (some 3) (.slice x3b x3n x3c)).upd (some 4) (.pointer x4)).upd (some 5) (.pointer x5)).upd (some 40) (.bool x40)) h := by kernel_rfl
  exact e ▸ hS
def Q7 (Kn : T7) (Ke1 : T4) (Ke0 : T3) (Kr : T0) : XPost
  | .normal, g, h => D7 Kn g h
  | .ret, g, h => D0 Kr g h
  | .exit id, g, h => cond (Nat.beq id 1) (D4 Ke1 g h) (cond (Nat.beq id 0) (D3 Ke0 g h) (False))
  | _, _, _ => False
abbrev n23 (x3b : Option Addr) (x3n : Nat) (x3c : Nat) (x4 : Option Addr) (x5 : Option Addr) (Kn : T5) (Ke1 : T4) (Ke0 : T3) (Kr : T0) (h : H) : Prop :=
  SemH Tryd.prog (binS .eql 41 (.tmp 39) (.const (.pointer none)) (.pointer x5) (.pointer none)) h fun v124 h125 => vBool v124 fun b126 => cond b126 (n24 x3b x3n x3c x4 x5 true Kn Ke1 Ke0 Kr h125) (n24 x3b x3n x3c x4 x5 false Kn Ke1 Ke0 Kr h125)
theorem n23_ok (x3b : Option Addr) (x3n : Nat) (x3c : Nat) (x4 : Option Addr) (x5 : Option Addr) (Kn : T5) (Ke1 : T4) (Ke0 : T3) (Kr : T0) (g : Env) (hg : E5 g x3b x3n x3c x4 x5) (h : H) (hS : n23 x3b x3n x3c x4 x5 Kn Ke1 Ke0 Kr h) : wpC none Tryd.prog 148 n13_c1 (Q5 Kn Ke1 Ke0 Kr) g h := by
  obtain ⟨hg3, hg4, hg5, hds⟩ := hg
  refine wpC_seq' (x := n23_c1) (y := n23_c2) (Q' := (Q7 (fun z3b z3n z3c z4 z5 z40 h => n24 z3b z3n z3c z4 z5 z40 Kn Ke1 Ke0 Kr h) Ke1 Ke0 Kr)) (by kernel_rfl) ?_ ?_
  · refine wpC_of_wpx (by kernel_rfl) (by kernel_rfl) (g' := (((⟨g.v, []⟩ : Env).upd (some 3) (.slice x3b x3n x3c)).upd (some 4) (.pointer x4)).upd (some 5) (.pointer x5)) (by rw [env_ds hds, upd_self hg3, upd_self hg4, upd_self hg5]) ?_
    have e : (n23 x3b x3n x3c x4 x5 Kn Ke1 Ke0 Kr h) = wpx none Tryd.prog 148 n23_c1 (Q7 (fun z3b z3n z3c z4 z5 z40 h => n24 z3b z3n z3c z4 z5 z40 Kn Ke1 Ke0 Kr h) Ke1 Ke0 Kr) ((((⟨g.v, []⟩ : Env).upd (some 3) (.slice x3b x3n x3c)).upd (some 4) (.pointer x4)).upd (some 5) (.pointer x5)) h := by kernel_rfl
    exact e ▸ hS
  · intro e g' h' hq
    cases e with
    | normal =>
      have hq : D7 (fun z3b z3n z3c z4 z5 z40 h => n24 z3b z3n z3c z4 z5 z40 Kn Ke1 Ke0 Kr h) g' h' := hq
      obtain ⟨y3b, y3n, y3c, y4, y5, y40, hg', hq⟩ := D7_ok hq
      exact n24_ok y3b y3n y3c y4 y5 y40 Kn Ke1 Ke0 Kr g' hg' h' hq
    | _ => exact hq
abbrev n13 (x3b : Option Addr) (x3n : Nat) (x3c : Nat) (x4 : Option Addr) (x5 : Option Addr) (Kn : T4) (Ke1 : T4) (Ke0 : T3) (Kr : T0) (h : H) : Prop := n23 x3b x3n x3c x4 x5 (fun z3b z3n z3c z4 z5 h => n14 z3b z3n z3c z4 z5 Kn Ke1 Ke0 Kr h) Ke1 Ke0 Kr h
theorem n13_ok (x3b : Option Addr) (x3n : Nat) (x3c : Nat) (x4 : Option Addr) (x5 : Option Addr) (Kn : T4) (Ke1 : T4) (Ke0 : T3) (Kr : T0) (g : Env) (hg : E5 g x3b x3n x3c x4 x5) (h : H) (hS : n13 x3b x3n x3c x4 x5 Kn Ke1 Ke0 Kr h) : wpC none Tryd.prog 148 n12_c2 (Q4 Kn Ke1 Ke0 Kr) g h := by
  refine wpC_seq' (x := n13_c1) (y := n13_c2) (by kernel_rfl) (n23_ok x3b x3n x3c x4 x5 (fun z3b z3n z3c z4 z5 h => n14 z3b z3n z3c z4 z5 Kn Ke1 Ke0 Kr h) Ke1 Ke0 Kr g hg h hS) ?_
  intro e g' h' hq
  cases e with
  | normal =>
    have hq : D5 (fun z3b z3n z3c z4 z5 h => n14 z3b z3n z3c z4 z5 Kn Ke1 Ke0 Kr h) g' h' := hq
    obtain ⟨y3b, y3n, y3c, y4, y5, hg', hq⟩ := D5_ok hq
    exact n14_ok y3b y3n y3c y4 y5 Kn Ke1 Ke0 Kr g' hg' h' hq
  | _ => exact hq
noncomputable def n25_c1 : Code := cFst n12_c1
def Q8 (Kn : T5) (Ke2 : T5) (Ke1 : T4) (Ke0 : T3) (Kr : T0) : XPost
  | .normal, g, h => D5 Kn g h
  | .ret, g, h => D0 Kr g h
  | .exit id, g, h => cond (Nat.beq id 2) (D5 Ke2 g h) (cond (Nat.beq id 1) (D4 Ke1 g h) (cond (Nat.beq id 0) (D3 Ke0 g h) (False)))
  | _, _, _ => False
noncomputable def n26_c1 : Code := cFst n25_c1
def n26_L (Kn : T5) (Ke2 : T5) (Ke1 : T4) (Ke0 : T3) (Kr : T0) : Nat → (Option Addr) → Nat → Nat → (Option Addr) → (Option Addr) → H → Prop
  | 0 => fun _ _ _ _ _ _ => False
  | N + 1 => fun x3b x3n x3c x4 x5 h => SemH Tryd.prog (binS .neq 41 (.tmp 27) (.const (.pointer none)) (.pointer x5) (.pointer none)) h fun v127 h128 => vBool v127 fun b129 => cond b129 (HCalls Tryd.prog 25 ⟨[(.pointer x5), (.pointer x4)]⟩ h128 fun v130 h131 => vBool v130 fun b132 => cond b132 (Ke2 x3b x3n x3c x4 x5 h131) (vSome x5 fun a133 => ∃ p134, cell h131 (a133.add 7) = some (.pointer p134) ∧ (n26_L Kn Ke2 Ke1 Ke0 Kr N x3b x3n x3c x4 p134 h131))) (Ke2 x3b x3n x3c x4 x5 h128)
abbrev n26 (x3b : Option Addr) (x3n : Nat) (x3c : Nat) (x4 : Option Addr) (x5 : Option Addr) (Kn : T5) (Ke2 : T5) (Ke1 : T4) (Ke0 : T3) (Kr : T0) (h : H) : Prop := ∃ N, n26_L Kn Ke2 Ke1 Ke0 Kr N x3b x3n x3c x4 x5 h
theorem n26_ok (x3b : Option Addr) (x3n : Nat) (x3c : Nat) (x4 : Option Addr) (x5 : Option Addr) (Kn : T5) (Ke2 : T5) (Ke1 : T4) (Ke0 : T3) (Kr : T0) (g : Env) (hg : E5 g x3b x3n x3c x4 x5) (h : H) (hS : n26 x3b x3n x3c x4 x5 Kn Ke2 Ke1 Ke0 Kr h) : wpC none Tryd.prog 148 n25_c1 (Q8 Kn Ke2 Ke1 Ke0 Kr) g h := by
  obtain ⟨N0, hS⟩ := hS
  refine wpC_loop' (x := n26_c1) (by kernel_rfl) (fun k g h => ∃ (x3b : Option Addr) (x3n : Nat) (x3c : Nat) (x4 : Option Addr) (x5 : Option Addr), E5 g x3b x3n x3c x4 x5 ∧ n26_L Kn Ke2 Ke1 Ke0 Kr k x3b x3n x3c x4 x5 h) (fun g h hr => ?_) (fun N g h hr => ?_) N0 ⟨x3b, x3n, x3c, x4, x5, hg, hS⟩
  · obtain ⟨x3b, x3n, x3c, x4, x5, hg, hS⟩ := hr
    exact hS.elim
  · obtain ⟨x3b, x3n, x3c, x4, x5, hg, hS⟩ := hr
    have hw : wpC none Tryd.prog 148 n26_c1 (Q8 (fun z3b z3n z3c z4 z5 h => n26_L Kn Ke2 Ke1 Ke0 Kr N z3b z3n z3c z4 z5 h) Ke2 Ke1 Ke0 Kr) g h := by
      obtain ⟨hg3, hg4, hg5, hds⟩ := hg
      refine wpC_of_wpx (by kernel_rfl) (by kernel_rfl) (g' := (((⟨g.v, []⟩ : Env).upd (some 3) (.slice x3b x3n x3c)).upd (some 4) (.pointer x4)).upd (some 5) (.pointer x5)) (by rw [env_ds hds, upd_self hg3, upd_self hg4, upd_self hg5]) ?_
      have e : (n26_L Kn Ke2 Ke1 Ke0 Kr (N + 1) x3b x3n x3c x4 x5 h) = wpx none Tryd.prog 148 n26_c1 (Q8 (fun z3b z3n z3c z4 z5 h => n26_L Kn Ke2 Ke1 Ke0 Kr N z3b z3n z3c z4 z5 h) Ke2 Ke1 Ke0 Kr) ((((⟨g.v, []⟩ : Env).upd (some 3) (.slice x3b x3n x3c)).upd (some 4) (.pointer x4)).upd (some 5) (.pointer x5)) h := by kernel_rfl
      exact e ▸ hS
    refine hw.mono ?_
    intro e g' h' hq
    cases e with
    | normal => exact D5_ok (K := (fun z3b z3n z3c z4 z5 h => n26_L Kn Ke2 Ke1 Ke0 Kr N z3b z3n z3c z4 z5 h)) hq
    | _ => exact hq
abbrev n25 (x3b : Option Addr) (x3n : Nat) (x3c : Nat) (x4 : Option Addr) (x5 : Option Addr) (Kn : T5) (Ke1 : T4) (Ke0 : T3) (Kr : T0) (h : H) : Prop := n26 x3b x3n x3c x4 x5 Kn Kn Ke1 Ke0 Kr h
theorem n25_ok (x3b : Option Addr) (x3n : Nat) (x3c : Nat) (x4 : Option Addr) (x5 : Option Addr) (Kn : T5) (Ke1 : T4) (Ke0 : T3) (Kr : T0) (g : Env) (hg : E5 g x3b x3n x3c x4 x5) (h : H) (hS : n25 x3b x3n x3c x4 x5 Kn Ke1 Ke0 Kr h) : wpC none Tryd.prog 148 n12_c1 (Q5 Kn Ke1 Ke0 Kr) g h := by
  refine wpC_block' (id := 2) (x := n25_c1) (by kernel_rfl) (n26_ok x3b x3n x3c x4 x5 Kn Kn Ke1 Ke0 Kr g hg h hS) ?_
  intro e g' h' hq
  cases e <;> exact hq
abbrev n12 (x3b : Option Addr) (x3n : Nat) (x3c : Nat) (x4 : Option Addr) (x5 : Option Addr) (Kn : T4) (Ke1 : T4) (Ke0 : T3) (Kr : T0) (h : H) : Prop := n25 x3b x3n x3c x4 x5 (fun z3b z3n z3c z4 z5 h => n13 z3b z3n z3c z4 z5 Kn Ke1 Ke0 Kr h) Ke1 Ke0 Kr h
theorem n12_ok (x3b : Option Addr) (x3n : Nat) (x3c : Nat) (x4 : Option Addr) (x5 : Option Addr) (Kn : T4) (Ke1 : T4) (Ke0 : T3) (Kr : T0) (g : Env) (hg : E5 g x3b x3n x3c x4 x5) (h : H) (hS : n12 x3b x3n x3c x4 x5 Kn Ke1 Ke0 Kr h) : wpC none Tryd.prog 148 n11_c2 (Q4 Kn Ke1 Ke0 Kr) g h := by
  refine wpC_seq' (x := n12_c1) (y := n12_c2) (by kernel_rfl) (n25_ok x3b x3n x3c x4 x5 (fun z3b z3n z3c z4 z5 h => n13 z3b z3n z3c z4 z5 Kn Ke1 Ke0 Kr h) Ke1 Ke0 Kr g hg h hS) ?_
  intro e g' h' hq
  cases e with
  | normal =>
    have hq : D5 (fun z3b z3n z3c z4 z5 h => n13 z3b z3n z3c z4 z5 Kn Ke1 Ke0 Kr h) g' h' := hq
    obtain ⟨y3b, y3n, y3c, y4, y5, hg', hq⟩ := D5_ok hq
    exact n13_ok y3b y3n y3c y4 y5 Kn Ke1 Ke0 Kr g' hg' h' hq
  | _ => exact hq
abbrev n11 (x3b : Option Addr) (x3n : Nat) (x3c : Nat) (x4 : Option Addr) (Kn : T4) (Ke1 : T4) (Ke0 : T3) (Kr : T0) (h : H) : Prop :=
  vSome x4 fun a135 => ∃ p136, cell h (a135.add 7) = some (.pointer p136) ∧ (n12 x3b x3n x3c x4 p136 Kn Ke1 Ke0 Kr h)
theorem n11_ok (x3b : Option Addr) (x3n : Nat) (x3c : Nat) (x4 : Option Addr) (Kn : T4) (Ke1 : T4) (Ke0 : T3) (Kr : T0) (g : Env) (hg : E4 g x3b x3n x3c x4) (h : H) (hS : n11 x3b x3n x3c x4 Kn Ke1 Ke0 Kr h) : wpC none Tryd.prog 148 n10_c2 (Q4 Kn Ke1 Ke0 Kr) g h := by
  obtain ⟨hg3, hg4, hds⟩ := hg
  refine wpC_seq' (x := n11_c1) (y := n11_c2) (Q' := (Q5 (fun z3b z3n z3c z4 z5 h => n12 z3b z3n z3c z4 z5 Kn Ke1 Ke0 Kr h) Ke1 Ke0 Kr)) (by kernel_rfl) ?_ ?_
  · refine wpC_of_wpx (by kernel_rfl) (by kernel_rfl) (g' := ((⟨g.v, []⟩ : Env).upd (some 3) (.slice x3b x3n x3c)).upd (some 4) (.pointer x4)) (by rw [env_ds hds, upd_self hg3, upd_self hg4]) ?_
    have e : (n11 x3b x3n x3c x4 Kn Ke1 Ke0 Kr h) = wpx none Tryd.prog 148 n11_c1 (Q5 (fun z3b z3n z3c z4 z5 h => n12 z3b z3n z3c z4 z5 Kn Ke1 Ke0 Kr h) Ke1 Ke0 Kr) (((⟨g.v, []⟩ : Env).upd (some 3) (.slice x3b x3n x3c)).upd (some 4) (.pointer x4)) h := by kernel_rfl
    exact e ▸ hS
  · intro e g' h' hq
    cases e with
    | normal =>
      have hq : D5 (fun z3b z3n z3c z4 z5 h => n12 z3b z3n z3c z4 z5 Kn Ke1 Ke0 Kr h) g' h' := hq
      obtain ⟨y3b, y3n, y3c, y4, y5, hg', hq⟩ := D5_ok hq
      exact n12_ok y3b y3n y3c y4 y5 Kn Ke1 Ke0 Kr g' hg' h' hq
    | _ => exact hq
abbrev n10 (x3b : Option Addr) (x3n : Nat) (x3c : Nat) (x4 : Option Addr) (Kn : T4) (Ke1 : T4) (Ke0 : T3) (Kr : T0) (h : H) : Prop :=
  vSome x4 fun a137 => ∃ b138, cell h ((a137.add 0).add 4) = some (.bool b138) ∧ (cond b138 (n11 x3b x3n x3c x4 Kn Ke1 Ke0 Kr h) (vSome x4 fun a139 => ∃ p140, cell h (a139.add 8) = some (.pointer p140) ∧ (Ke1 x3b x3n x3c p140 h)))
theorem n10_ok (x3b : Option Addr) (x3n : Nat) (x3c : Nat) (x4 : Option Addr) (Kn : T4) (Ke1 : T4) (Ke0 : T3) (Kr : T0) (g : Env) (hg : E4 g x3b x3n x3c x4) (h : H) (hS : n10 x3b x3n x3c x4 Kn Ke1 Ke0 Kr h) : wpC none Tryd.prog 148 n9_c1 (Q4 Kn Ke1 Ke0 Kr) g h := by
  obtain ⟨hg3, hg4, hds⟩ := hg
  refine wpC_seq' (x := n10_c1) (y := n10_c2) (Q' := (Q4 (fun z3b z3n z3c z4 h => n11 z3b z3n z3c z4 Kn Ke1 Ke0 Kr h) Ke1 Ke0 Kr)) (by kernel_rfl) ?_ ?_
  · refine wpC_of_wpx (by kernel_rfl) (by kernel_rfl) (g' := ((⟨g.v, []⟩ : Env).upd (some 3) (.slice x3b x3n x3c)).upd (some 4) (.pointer x4)) (by rw [env_ds hds, upd_self hg3, upd_self hg4]) ?_
    have e : (n10 x3b x3n x3c x4 Kn Ke1 Ke0 Kr h) = wpx none Tryd.prog 148 n10_c1 (Q4 (fun z3b z3n z3c z4 h => n11 z3b z3n z3c z4 Kn Ke1 Ke0 Kr h) Ke1 Ke0 Kr) (((⟨g.v, []⟩ : Env).upd (some 3) (.slice x3b x3n x3c)).upd (some 4) (.pointer x4)) h := by kernel_rfl
    exact e ▸ hS
  · intro e g' h' hq
    cases e with
    | normal =>
      have hq : D4 (fun z3b z3n z3c z4 h => n11 z3b z3n z3c z4 Kn Ke1 Ke0 Kr h) g' h' := hq
      obtain ⟨y3b, y3n, y3c, y4, hg', hq⟩ := D4_ok hq
      exact n11_ok y3b y3n y3c y4 Kn Ke1 Ke0 Kr g' hg' h' hq
    | _ => exact hq
abbrev n9 (x3b : Option Addr) (x3n : Nat) (x3c : Nat) (x4 : Option Addr) (Kn : T4) (Ke0 : T3) (Kr : T0) (h : H) : Prop := n10 x3b x3n x3c x4 Kn Kn Ke0 Kr h
theorem n9_ok (x3b : Option Addr) (x3n : Nat) (x3c : Nat) (x4 : Option Addr) (Kn : T4) (Ke0 : T3) (Kr : T0) (g : Env) (hg : E4 g x3b x3n x3c x4) (h : H) (hS : n9 x3b x3n x3c x4 Kn Ke0 Kr h) : wpC none Tryd.prog 148 n8_c2 (Q3 Kn Ke0 Kr) g h := by
  refine wpC_block' (id := 1) (x := n9_c1) (by kernel_rfl) (n10_ok x3b x3n x3c x4 Kn Kn Ke0 Kr g hg h hS) ?_
  intro e g' h' hq
  cases e <;> exact hq
abbrev n8 (x3b : Option Addr) (x3n : Nat) (x3c : Nat) (x4 : Option Addr) (Kn : T4) (Ke0 : T3) (Kr : T0) (h : H) : Prop :=
  SemH Tryd.prog (binS .neq 41 (.tmp 11) (.const (.pointer none)) (.pointer x4) (.pointer none)) h fun v141 h142 => vBool v141 fun b143 => cond b143 (n9 x3b x3n x3c x4 Kn Ke0 Kr h142) (Ke0 x3b x3n x3c h142)
theorem n8_ok (x3b : Option Addr) (x3n : Nat) (x3c : Nat) (x4 : Option Addr) (Kn : T4) (Ke0 : T3) (Kr : T0) (g : Env) (hg : E4 g x3b x3n x3c x4) (h : H) (hS : n8 x3b x3n x3c x4 Kn Ke0 Kr h) : wpC none Tryd.prog 148 n7_c1 (Q3 Kn Ke0 Kr) g h := by
  obtain ⟨hg3, hg4, hds⟩ := hg
  refine wpC_seq' (x := n8_c1) (y := n8_c2) (Q' := (Q3 (fun z3b z3n z3c z4 h => n9 z3b z3n z3c z4 Kn Ke0 Kr h) Ke0 Kr)) (by kernel_rfl) ?_ ?_
  · refine wpC_of_wpx (by kernel_rfl) (by kernel_rfl) (g' := ((⟨g.v, []⟩ : Env).upd (some 3) (.slice x3b x3n x3c)).upd (some 4) (.pointer x4)) (by rw [env_ds hds, upd_self hg3, upd_self hg4]) ?_
    have e : (n8 x3b x3n x3c x4 Kn Ke0 Kr h) = wpx none Tryd.prog 148 n8_c1 (Q3 (fun z3b z3n z3c z4 h => n9 z3b z3n z3c z4 Kn Ke0 Kr h) Ke0 Kr) (((⟨g.v, []⟩ : Env).upd (some 3) (.slice x3b x3n x3c)).upd (some 4) (.pointer x4)) h := by kernel_rfl
    exact e ▸ hS
  · intro e g' h' hq
    cases e with
    | normal =>
      have hq : D4 (fun z3b z3n z3c z4 h => n9 z3b z3n z3c z4 Kn Ke0 Kr h) g' h' := hq
      obtain ⟨y3b, y3n, y3c, y4, hg', hq⟩ := D4_ok hq
      exact n9_ok y3b y3n y3c y4 Kn Ke0 Kr g' hg' h' hq
    | _ => exact hq
def n7_L (Kn : T3) (Ke0 : T3) (Kr : T0) : Nat → (Option Addr) → Nat → Nat → (Option Addr) → H → Prop
  | 0 => fun _ _ _ _ _ => False
  | N + 1 => fun x3b x3n x3c x4 h => n8 x3b x3n x3c x4 (fun z3b z3n z3c z4 h => n7_L Kn Ke0 Kr N z3b z3n z3c z4 h) Ke0 Kr h
abbrev n7 (x3b : Option Addr) (x3n : Nat) (x3c : Nat) (x4 : Option Addr) (Kn : T3) (Ke0 : T3) (Kr : T0) (h : H) : Prop := ∃ N, n7_L Kn Ke0 Kr N x3b x3n x3c x4 h
theorem n7_ok (x3b : Option Addr) (x3n : Nat) (x3c : Nat) (x4 : Option Addr) (Kn : T3) (Ke0 : T3) (Kr : T0) (g : Env) (hg : E4 g x3b x3n x3c x4) (h : H) (hS : n7 x3b x3n x3c x4 Kn Ke0 Kr h) : wpC none Tryd.prog 148 n6_c1 (Q2 Kn Ke0 Kr) g h := by
  obtain ⟨N0, hS⟩ := hS
  refine wpC_loop' (x := n7_c1) (by kernel_rfl) (fun k g h => ∃ (x3b : Option Addr) (x3n : Nat) (x3c : Nat) (x4 : Option Addr), E4 g x3b x3n x3c x4 ∧ n7_L Kn Ke0 Kr k x3b x3n x3c x4 h) (fun g h hr => ?_) (fun N g h hr => ?_) N0 ⟨x3b, x3n, x3c, x4, hg, hS⟩
  · obtain ⟨x3b, x3n, x3c, x4, hg, hS⟩ := hr
    exact hS.elim
  · obtain ⟨x3b, x3n, x3c, x4, hg, hS⟩ := hr
    refine (n8_ok x3b x3n x3c x4 (fun z3b z3n z3c z4 h => n7_L Kn Ke0 Kr N z3b z3n z3c z4 h) Ke0 Kr g hg h hS).mono ?_
    intro e g' h' hq
    cases e with
    | normal => exact D4_ok (K := (fun z3b z3n z3c z4 h => n7_L Kn Ke0 Kr N z3b z3n z3c z4 h)) hq
    | _ => exact hq
abbrev n6 (x3b : Option Addr) (x3n : Nat) (x3c : Nat) (x4 : Option Addr) (Kn : T3) (Kr : T0) (h : H) : Prop := n7 x3b x3n x3c x4 Kn Kn Kr h
theorem n6_ok (x3b : Option Addr) (x3n : Nat) (x3c : Nat) (x4 : Option Addr) (Kn : T3) (Kr : T0) (g : Env) (hg : E4 g x3b x3n x3c x4) (h : H) (hS : n6 x3b x3n x3c x4 Kn Kr h) : wpC none Tryd.prog 148 n5_c2 (Q1 Kn Kr) g h := by
  refine wpC_block' (id := 0) (x := n6_c1) (by kernel_rfl) (n7_ok x3b x3n x3c x4 Kn Kn Kr g hg h hS) ?_
  intro e g' h' hq
  cases e <;> exact hq
def Q9 (Kn : T4) (Kr : T0) : XPost
  | .normal, g, h => D4 Kn g h
  | .ret, g, h => D0 Kr g h
  | _, _, _ => False
abbrev n5 (x0b : Option Addr) (x0n : Nat) (x0c : Nat) (x3b : Option Addr) (x3n : Nat) (x3c : Nat) (Kn : T3) (Kr : T0) (h : H) : Prop :=
  HCalls Tryd.prog 24 ⟨[(.slice x0b x0n x0c)]⟩ h fun v144 h145 => vPtr v144 fun p146 => n6 x3b x3n x3c p146 Kn Kr h145
theorem n5_ok (x0b : Option Addr) (x0n : Nat) (x0c : Nat) (x3b : Option Addr) (x3n : Nat) (x3c : Nat) (Kn : T3) (Kr : T0) (g : Env) (hg : E2 g x0b x0n x0c x3b x3n x3c) (h : H) (hS : n5 x0b x0n x0c x3b x3n x3c Kn Kr h) : wpC none Tryd.prog 148 n3_c1 (Q1 Kn Kr) g h := by
  obtain ⟨hg0, hg3, hds⟩ := hg
  refine wpC_seq' (x := n5_c1) (y := n5_c2) (Q' := (Q9 (fun z3b z3n z3c z4 h => n6 z3b z3n z3c z4 Kn Kr h) Kr)) (by kernel_rfl) ?_ ?_
  · refine wpC_of_wpx (by kernel_rfl) (by kernel_rfl) (g' := ((⟨g.v, []⟩ : Env).upd (some 0) (.slice x0b x0n x0c)).upd (some 3) (.slice x3b x3n x3c)) (by rw [env_ds hds, upd_self hg0, upd_self hg3]) ?_
    have e : (n5 x0b x0n x0c x3b x3n x3c Kn Kr h) = wpx none Tryd.prog 148 n5_c1 (Q9 (fun z3b z3n z3c z4 h => n6 z3b z3n z3c z4 Kn Kr h) Kr) (((⟨g.v, []⟩ : Env).upd (some 0) (.slice x0b x0n x0c)).upd (some 3) (.slice x3b x3n x3c)) h := by kernel_rfl
    exact e ▸ hS
  · intro e g' h' hq
    cases e with
    | normal =>
      have hq : D4 (fun z3b z3n z3c z4 h => n6 z3b z3n z3c z4 Kn Kr h) g' h' := hq
      obtain ⟨y3b, y3n, y3c, y4, hg', hq⟩ := D4_ok hq
      exact n6_ok y3b y3n y3c y4 Kn Kr g' hg' h' hq
    | _ => exact hq
abbrev n3 (x0b : Option Addr) (x0n : Nat) (x0c : Nat) (x3b : Option Addr) (x3n : Nat) (x3c : Nat) (Kn : T0) (Kr : T0) (h : H) : Prop := n5 x0b x0n x0c x3b x3n x3c (fun z3b z3n z3c h => n4 z3b z3n z3c Kn Kr h) Kr h
theorem n3_ok (x0b : Option Addr) (x0n : Nat) (x0c : Nat) (x3b : Option Addr) (x3n : Nat) (x3c : Nat) (Kn : T0) (Kr : T0) (g : Env) (hg : E2 g x0b x0n x0c x3b x3n x3c) (h : H) (hS : n3 x0b x0n x0c x3b x3n x3c Kn Kr h) : wpC none Tryd.prog 148 n2_c2 (Q0 Kn Kr) g h := by
  refine wpC_seq' (x := n3_c1) (y := n3_c2) (by kernel_rfl) (n5_ok x0b x0n x0c x3b x3n x3c (fun z3b z3n z3c h => n4 z3b z3n z3c Kn Kr h) Kr g hg h hS) ?_
  intro e g' h' hq
  cases e with
  | normal =>
    have hq : D3 (fun z3b z3n z3c h => n4 z3b z3n z3c Kn Kr h) g' h' := hq
    obtain ⟨y3b, y3n, y3c, hg', hq⟩ := D3_ok hq
    exact n4_ok y3b y3n y3c Kn Kr g' hg' h' hq
  | _ => exact hq
def Q10 (Kn : T2) (Kr : T0) : XPost
  | .normal, g, h => D2 Kn g h
  | .ret, g, h => D0 Kr g h
  | _, _, _ => False
abbrev n2 (x0b : Option Addr) (x0n : Nat) (x0c : Nat) (Kn : T0) (Kr : T0) (h : H) : Prop :=
  n3 x0b x0n x0c none 0 0 Kn Kr h
theorem n2_ok (x0b : Option Addr) (x0n : Nat) (x0c : Nat) (Kn : T0) (Kr : T0) (g : Env) (hg : E1 g x0b x0n x0c) (h : H) (hS : n2 x0b x0n x0c Kn Kr h) : wpC none Tryd.prog 148 n1_c2 (Q0 Kn Kr) g h := by
  obtain ⟨hg0, hds⟩ := hg
  refine wpC_seq' (x := n2_c1) (y := n2_c2) (Q' := (Q10 (fun z0b z0n z0c z3b z3n z3c h => n3 z0b z0n z0c z3b z3n z3c Kn Kr h) Kr)) (by kernel_rfl) ?_ ?_
  · refine wpC_of_wpx (by kernel_rfl) (by kernel_rfl) (g' := (⟨g.v, []⟩ : Env).upd (some 0) (.slice x0b x0n x0c)) (by rw [env_ds hds, upd_self hg0]) ?_
    have e : (n2 x0b x0n x0c Kn Kr h) = wpx none Tryd.prog 148 n2_c1 (Q10 (fun z0b z0n z0c z3b z3n z3c h => n3 z0b z0n z0c z3b z3n z3c Kn Kr h) Kr) ((⟨g.v, []⟩ : Env).upd (some 0) (.slice x0b x0n x0c)) h := by kernel_rfl
    exact e ▸ hS
  · intro e g' h' hq
    cases e with
    | normal =>
      have hq : D2 (fun z0b z0n z0c z3b z3n z3c h => n3 z0b z0n z0c z3b z3n z3c Kn Kr h) g' h' := hq
      obtain ⟨y0b, y0n, y0c, y3b, y3n, y3c, hg', hq⟩ := D2_ok hq
      exact n3_ok y0b y0n y0c y3b y3n y3c Kn Kr g' hg' h' hq
    | _ => exact hq
def Q11 (Kn : T1) (Kr : T0) : XPost
  | .normal, g, h => D1 Kn g h
  | .ret, g, h => D0 Kr g h
  | _, _, _ => False
abbrev n1 (x0b : Option Addr) (x0n : Nat) (x0c : Nat) (Kn : T0) (Kr : T0) (h : H) : Prop :=
  n2 x0b x0n x0c Kn Kr h
theorem n1_ok (x0b : Option Addr) (x0n : Nat) (x0c : Nat) (Kn : T0) (Kr : T0) (g : Env) (hg : E1 g x0b x0n x0c) (h : H) (hS : n1 x0b x0n x0c Kn Kr h) : wpC none Tryd.prog 148 code (Q0 Kn Kr) g h := by
  obtain ⟨hg0, hds⟩ := hg
  refine wpC_seq' (x := n1_c1) (y := n1_c2) (Q' := (Q11 (fun z0b z0n z0c h => n2 z0b z0n z0c Kn Kr h) Kr)) (by kernel_rfl) ?_ ?_
  · refine wpC_of_wpx (by kernel_rfl) (by kernel_rfl) (g' := (⟨g.v, []⟩ : Env).upd (some 0) (.slice x0b x0n x0c)) (by rw [env_ds hds, upd_self hg0]) ?_
    have e : (n1 x0b x0n x0c Kn Kr h) = wpx none Tryd.prog 148 n1_c1 (Q11 (fun z0b z0n z0c h => n2 z0b z0n z0c Kn Kr h) Kr) ((⟨g.v, []⟩ : Env).upd (some 0) (.slice x0b x0n x0c)) h := by kernel_rfl
    exact e ▸ hS
  · intro e g' h' hq
    cases e with
    | normal =>
      have hq : D1 (fun z0b z0n z0c h => n2 z0b z0n z0c Kn Kr h) g' h' := hq
      obtain ⟨y0b, y0n, y0c, hg', hq⟩ := D1_ok hq
      exact n2_ok y0b y0n y0c Kn Kr g' hg' h' hq
    | _ => exact hq
/-- WHAT tympan/stars.Match ASKS -/
abbrev asks (x0b : Option Addr) (x0n : Nat) (x0c : Nat) (K : Value → H → Prop) (h : H) : Prop := n1 x0b x0n x0c (fun y2b y2n y2c h => K (.slice y2b y2n y2c) h) (fun y2b y2n y2c h => K (.slice y2b y2n y2c) h) h
theorem ok (x0b : Option Addr) (x0n : Nat) (x0c : Nat) (K : Value → H → Prop) (h : H) (hS : asks x0b x0n x0c K h) : HCalls Tryd.prog 11 ⟨[(.slice x0b x0n x0c)]⟩ h K := by
  refine calls_of_wpC (c := code) Tryd.func11 (by kernel_rfl) (Nat.le_of_ble_eq_true (by kernel_rfl)) ?_
  refine (n1_ok x0b x0n x0c (fun y2b y2n y2c h => K (.slice y2b y2n y2c) h) (fun y2b y2n y2c h => K (.slice y2b y2n y2c) h) (env0 [(.slice x0b x0n x0c)]) ⟨rfl, rfl⟩ h hS).mono ?_
  intro e g' h' hq
  cases e with
  | normal =>
    have hq : D0 (fun y2b y2n y2c h => K (.slice y2b y2n y2c) h) g' h' := hq
    obtain ⟨y2b, y2n, y2c, ⟨hg2, hd⟩, hq⟩ := D0_ok hq
    show leaveX g'.ds h' _
    rw [hd]
    show K (g'.v 2) h'
    rw [hg2]
    exact hq
  | ret =>
    have hq : D0 (fun y2b y2n y2c h => K (.slice y2b y2n y2c) h) g' h' := hq
    obtain ⟨y2b, y2n, y2c, ⟨hg2, hd⟩, hq⟩ := D0_ok hq
    show leaveX g'.ds h' _
    rw [hd]
    show K (g'.v 2) h'
    rw [hg2]
    exact hq
  | _ => exact hq
end Sx.stars_Match

/-! ### tympan/tympanref27.Match -/
namespace Sx.r27_Match
noncomputable def code : Code := bodyOf Tryd.f12
abbrev T0 := (Option Addr) → Nat → Nat → H → Prop
def E0 (g : Env) (x2b : Option Addr) (x2n : Nat) (x2c : Nat) : Prop := g.v 2 = (.slice x2b x2n x2c) ∧ g.ds = []
def D0 (K : T0) (g : Env) (h : H) : Prop := nilDs g.ds (vSlice (g.v 2) fun s1b s1n s1c => K s1b s1n s1c h)
theorem D0_ok {K : T0} {g : Env} {h : H} (hq : D0 K g h) : ∃ (x2b : Option Addr) (x2n : Nat) (x2c : Nat), E0 g x2b x2n x2c ∧ K x2b x2n x2c h := by
  obtain ⟨hd, hq⟩ := nilDs_ok hq
  obtain ⟨y3b, y3n, y3c, e2, q4⟩ := vSlice_ok hq
  exact ⟨y3b, y3n, y3c, ⟨e2, hd⟩, q4⟩
def Q0 (Kn : T0) (Kr : T0) : XPost
  | .normal, g, h => D0 Kn g h
  | .ret, g, h => D0 Kr g h
  | _, _, _ => False
abbrev T1 := (Option Addr) → Nat → Nat → H → Prop
def E1 (g : Env) (x0b : Option Addr) (x0n : Nat) (x0c : Nat) : Prop := g.v 0 = (.slice x0b x0n x0c) ∧ g.ds = []
def D1 (K : T1) (g : Env) (h : H) : Prop := nilDs g.ds (vSlice (g.v 0) fun s5b s5n s5c => K s5b s5n s5c h)
theorem D1_ok {K : T1} {g : Env} {h : H} (hq : D1 K g h) : ∃ (x0b : Option Addr) (x0n : Nat) (x0c : Nat), E1 g x0b x0n x0c ∧ K x0b x0n x0c h := by
  obtain ⟨hd, hq⟩ := nilDs_ok hq
  obtain ⟨y7b, y7n, y7c, e6, q8⟩ := vSlice_ok hq
  exact ⟨y7b, y7n, y7c, ⟨e6, hd⟩, q8⟩
noncomputable def n1_c1 : Code := cFst code
noncomputable def n1_c2 : Code := cSnd code
noncomputable def n2_c1 : Code := cFst n1_c2
noncomputable def n2_c2 : Code := cSnd n1_c2
abbrev T2 := (Option Addr) → Nat → Nat → (Option Addr) → Nat → Nat → H → Prop
def E2 (g : Env) (x0b : Option Addr) (x0n : Nat) (x0c : Nat) (x3b : Option Addr) (x3n : Nat) (x3c : Nat) : Prop := g.v 0 = (.slice x0b x0n x0c) ∧ g.v 3 = (.slice x3b x3n x3c) ∧ g.ds = []
def D2 (K : T2) (g : Env) (h : H) : Prop := nilDs g.ds (vSlice (g.v 0) fun s9b s9n s9c => vSlice (g.v 3) fun s10b s10n s10c => K s9b s9n s9c s10b s10n s10c h)
theorem D2_ok {K : T2} {g : Env} {h : H} (hq : D2 K g h) : ∃ (x0b : Option Addr) (x0n : Nat) (x0c : Nat) (x3b : Option Addr) (x3n : Nat) (x3c : Nat), E2 g x0b x0n x0c x3b x3n x3c ∧ K x0b x0n x0c x3b x3n x3c h := by
  obtain ⟨hd, hq⟩ := nilDs_ok hq
  obtain ⟨y12b, y12n, y12c, e11, q13⟩ := vSlice_ok hq
  obtain ⟨y15b, y15n, y15c, e14, q16⟩ := vSlice_ok q13
  exact ⟨y12b, y12n, y12c, y15b, y15n, y15c, ⟨e11, e14, hd⟩, q16⟩
noncomputable def n3_c1 : Code := cFst n2_c2
noncomputable def n3_c2 : Code := cSnd n2_c2
noncomputable def n4_c1 : Code := cFst n3_c2
noncomputable def n4_c2 : Code := cSnd n3_c2
abbrev T3 := (Option Addr) → Nat → Nat → (Option Addr) → Nat → Nat → (Option Addr) → Nat → Nat → H → Prop
def E3 (g : Env) (x0b : Option Addr) (x0n : Nat) (x0c : Nat) (x3b : Option Addr) (x3n : Nat) (x3c : Nat) (x5b : Option Addr) (x5n : Nat) (x5c : Nat) : Prop := g.v 0 = (.slice x0b x0n x0c) ∧ g.v 3 = (.slice x3b x3n x3c) ∧ g.v 5 = (.slice x5b x5n x5c) ∧ g.ds = []
def D3 (K : T3) (g : Env) (h : H) : Prop := nilDs g.ds (vSlice (g.v 0) fun s17b s17n s17c => vSlice (g.v 3) fun s18b s18n s18c => vSlice (g.v 5) fun s19b s19n s19c => K s17b s17n s17c s18b s18n s18c s19b s19n s19c h)
theorem D3_ok {K : T3} {g : Env} {h : H} (hq : D3 K g h) : ∃ (x0b : Option Addr) (x0n : Nat) (x0c : Nat) (x3b : Option Addr) (x3n : Nat) (x3c : Nat) (x5b : Option Addr) (x5n : Nat) (x5c : Nat), E3 g x0b x0n x0c x3b x3n x3c x5b x5n x5c ∧ K x0b x0n x0c x3b x3n x3c x5b x5n x5c h := by
  obtain ⟨hd, hq⟩ := nilDs_ok hq
  obtain ⟨y21b, y21n, y21c, e20, q22⟩ := vSlice_ok hq
  obtain ⟨y24b, y24n, y24c, e23, q25⟩ := vSlice_ok q22
  obtain ⟨y27b, y27n, y27c, e26, q28⟩ := vSlice_ok q25
  exact ⟨y21b, y21n, y21c, y24b, y24n, y24c, y27b, y27n, y27c, ⟨e20, e23, e26, hd⟩, q28⟩
noncomputable def n5_c1 : Code := cFst n4_c2
noncomputable def n5_c2 : Code := cSnd n4_c2
abbrev T4 := (Option Addr) → Nat → Nat → H → Prop
def E4 (g : Env) (x5b : Option Addr) (x5n : Nat) (x5c : Nat) : Prop := g.v 5 = (.slice x5b x5n x5c) ∧ g.ds = []
def D4 (K : T4) (g : Env) (h : H) : Prop := nilDs g.ds (vSlice (g.v 5) fun s29b s29n s29c => K s29b s29n s29c h)
theorem D4_ok {K : T4} {g : Env} {h : H} (hq : D4 K g h) : ∃ (x5b : Option Addr) (x5n : Nat) (x5c : Nat), E4 g x5b x5n x5c ∧ K x5b x5n x5c h := by
  obtain ⟨hd, hq⟩ := nilDs_ok hq
  obtain ⟨y31b, y31n, y31c, e30, q32⟩ := vSlice_ok hq
  exact ⟨y31b, y31n, y31c, ⟨e30, hd⟩, q32⟩
abbrev n6 (x5b : Option Addr) (x5n : Nat) (x5c : Nat) (Kn : T0) (Kr : T0) (h : H) : Prop :=
  Kr x5b x5n x5c h
theorem n6_ok (x5b : Option Addr) (x5n : Nat) (x5c : Nat) (Kn : T0) (Kr : T0) (g : Env) (hg : E4 g x5b x5n x5c) (h : H) (hS : n6 x5b x5n x5c Kn Kr h) : wpC none Tryd.prog 217 n5_c2 (Q0 Kn Kr) g h := by
  obtain ⟨hg5, hds⟩ := hg
  refine wpC_of_wpx (by kernel_rfl) (by kernel_rfl) (g' := (⟨g.v, []⟩ : Env).upd (some 5) (.slice x5b x5n x5c)) (by rw [env_ds hds, upd_self hg5]) ?_
  have e : (n6 x5b x5n x5c Kn Kr h) = wpx none Tryd.prog 217 n5_c2 (Q0 Kn Kr) ((⟨g.v, []⟩ : Env).upd (some 5) (.slice x5b x5n x5c)) h := by kernel_rfl
  exact e ▸ hS
def Q1 (Kn : T4) (Kr : T0) : XPost
  | .normal, g, h => D4 Kn g h
  | .ret, g, h => D0 Kr g h
  | _, _, _ => False
noncomputable def n7_c1 : Code := cFst n5_c1
noncomputable def n7_c2 : Code := cSnd n5_c1
abbrev T5 := (Option Addr) → Nat → Nat → (Option Addr) → Nat → Nat → (Option Addr) → Nat → Nat → Int → H → Prop
def E5 (g : Env) (x0b : Option Addr) (x0n : Nat) (x0c : Nat) (x3b : Option Addr) (x3n : Nat) (x3c : Nat) (x5b : Option Addr) (x5n : Nat) (x5c : Nat) (x6 : Int) : Prop := g.v 0 = (.slice x0b x0n x0c) ∧ g.v 3 = (.slice x3b x3n x3c) ∧ g.v 5 = (.slice x5b x5n x5c) ∧ g.v 6 = (.int .i64 x6) ∧ g.ds = []
def D5 (K : T5) (g : Env) (h : H) : Prop := nilDs g.ds (vSlice (g.v 0) fun s33b s33n s33c => vSlice (g.v 3) fun s34b s34n s34c => vSlice (g.v 5) fun s35b s35n s35c => vInt .i64 (g.v 6) fun i36 => K s33b s33n s33c s34b s34n s34c s35b s35n s35c i36 h)
theorem D5_ok {K : T5} {g : Env} {h : H} (hq : D5 K g h) : ∃ (x0b : Option Addr) (x0n : Nat) (x0c : Nat) (x3b : Option Addr) (x3n : Nat) (x3c : Nat) (x5b : Option Addr) (x5n : Nat) (x5c : Nat) (x6 : Int), E5 g x0b x0n x0c x3b x3n x3c x5b x5n x5c x6 ∧ K x0b x0n x0c x3b x3n x3c x5b x5n x5c x6 h := by
  obtain ⟨hd, hq⟩ := nilDs_ok hq
  obtain ⟨y38b, y38n, y38c, e37, q39⟩ := vSlice_ok hq
  obtain ⟨y41b, y41n, y41c, e40, q42⟩ := vSlice_ok q39
  obtain ⟨y44b, y44n, y44c, e43, q45⟩ := vSlice_ok q42
  obtain ⟨y47, e46, q48⟩ := vInt_ok q45
  exact ⟨y38b, y38n, y38c, y41b, y41n, y41c, y44b, y44n, y44c, y47, ⟨e37, e40, e43, e46, hd⟩, q48⟩
noncomputable def n8_c1 : Code := cFst n7_c2
def Q2 (Kn : T4) (Ke2 : T4) (Kr : T0) : XPost
  | .normal, g, h => D4 Kn g h
  | .ret, g, h => D0 Kr g h
  | .exit id, g, h => cond (Nat.beq id 2) (D4 Ke2 g h) (False)
  | _, _, _ => False
noncomputable def n9_c1 : Code := cFst n8_c1
def Q3 (Kn : T5) (Ke2 : T4) (Kr : T0) : XPost
  | .normal, g, h => D5 Kn g h
  | .ret, g, h => D0 Kr g h
  | .exit id, g, h => cond (Nat.beq id 2) (D4 Ke2 g h) (False)
  | _, _, _ => False
noncomputable def n10_c1 : Code := cFst n9_c1
noncomputable def n10_c2 : Code := cSnd n9_c1
noncomputable def n11_c1 : Code := cFst n10_c2
noncomputable def n11_c2 : Code := cSnd n10_c2
abbrev n12 (x0b : Option Addr) (x0n : Nat) (x0c : Nat) (x3b : Option Addr) (x3n : Nat) (x3c : Nat) (x5b : Option Addr) (x5n : Nat) (x5c : Nat) (x6 : Int) (Kn : T5) (Ke2 : T4) (Kr : T0) (h : H) : Prop :=
  Kn x0b x0n x0c x3b x3n x3c x5b x5n x5c (IntKind.wrap .i64 (x6 + (1 : Int))) h
theorem n12_ok (x0b : Option Addr) (x0n : Nat) (x0c : Nat) (x3b : Option Addr) (x3n : Nat) (x3c : Nat) (x5b : Option Addr) (x5n : Nat) (x5c : Nat) (x6 : Int) (Kn : T5) (Ke2 : T4) (Kr : T0) (g : Env) (hg : E5 g x0b x0n x0c x3b x3n x3c x5b x5n x5c x6) (h : H) (hS : n12 x0b x0n x0c x3b x3n x3c x5b x5n x5c x6 Kn Ke2 Kr h) : wpC none Tryd.prog 217 n11_c2 (Q3 Kn Ke2 Kr) g h := by
  obtain ⟨hg0, hg3, hg5, hg6, hds⟩ := hg
  refine wpC_of_wpx (by kernel_rfl) (by kernel_rfl) (g' := ((((⟨g.v, []⟩ : Env).upd (some 0) (.slice x0b x0n x0c)).upd (some 3) (.slice x3b x3n x3c)).upd (some 5) (.slice x5b x5n x5c)).upd (some 6) (.int .i64 x6)) (by rw [env_ds hds, upd_self hg0, upd_self hg3, upd_self hg5, upd_self hg6]) ?_
  have e : (n12 x0b x0n x0c x3b x3n x3c x5b x5n x5c x6 Kn Ke2 Kr h) = wpx none Tryd.prog 217 n11_c2 (Q3 Kn Ke2 Kr) (((((⟨g.v, []⟩ : Env).upd (some 0) (.slice x0b x0n x0c)).upd (some 3) (.slice x3b x3n x3c)).upd (some 5) (.slice x5b x5n x5c)).upd (some 6) (.int .i64 x6)) h := by kernel_rfl
  exact e ▸ hS
noncomputable def n13_c1 : Code := cFst n11_c1
def Q4 (Kn : T5) (Ke3 : T5) (Ke2 : T4) (Kr : T0) : XPost
  | .normal, g, h => D5 Kn g h
  | .ret, g, h => D0 Kr g h
  | .exit id, g, h => cond (Nat.beq id 3) (D5 Ke3 g h) (cond (Nat.beq id 2) (D4 Ke2 g h) (False))
  | _, _, _ => False
noncomputable def n14_c1 : Code := cFst n13_c1
def Q5 (Kn : T5) (Ke4 : T5) (Ke3 : T5) (Ke2 : T4) (Kr : T0) : XPost
  | .normal, g, h => D5 Kn g h
  | .ret, g, h => D0 Kr g h
  | .exit id, g, h => cond (Nat.beq id 4) (D5 Ke4 g h) (cond (Nat.beq id 3) (D5 Ke3 g h) (cond (Nat.beq id 2) (D4 Ke2 g h) (False)))
  | _, _, _ => False
noncomputable def n15_c1 : Code := cFst n14_c1
noncomputable def n16_c1 : Code := cFst n15_c1
noncomputable def n16_c2 : Code := cSnd n15_c1
noncomputable def n17_c1 : Code := cFst n16_c2
def Q6 (Kn : T5) (Ke5 : T5) (Ke4 : T5) (Ke3 : T5) (Ke2 : T4) (Kr : T0) : XPost
  | .normal, g, h => D5 Kn g h
  | .ret, g, h => D0 Kr g h
  | .exit id, g, h => cond (Nat.beq id 5) (D5 Ke5 g h) (cond (Nat.beq id 4) (D5 Ke4 g h) (cond (Nat.beq id 3) (D5 Ke3 g h) (cond (Nat.beq id 2) (D4 Ke2 g h) (False))))
  | _, _, _ => False
noncomputable def n18_c1 : Code := cFst n17_c1
noncomputable def n18_c2 : Code := cSnd n17_c1
abbrev T6 := (Option Addr) → Nat → Nat → (Option Addr) → Nat → Nat → (Option Addr) → Nat → Nat → Int → Int → H → Prop
def E6 (g : Env) (x0b : Option Addr) (x0n : Nat) (x0c : Nat) (x3b : Option Addr) (x3n : Nat) (x3c : Nat) (x5b : Option Addr) (x5n : Nat) (x5c : Nat) (x6 : Int) (x7 : Int) : Prop := g.v 0 = (.slice x0b x0n x0c) ∧ g.v 3 = (.slice x3b x3n x3c) ∧ g.v 5 = (.slice x5b x5n x5c) ∧ g.v 6 = (.int .i64 x6) ∧ g.v 7 = (.int .i64 x7) ∧ g.ds = []
def D6 (K : T6) (g : Env) (h : H) : Prop := nilDs g.ds (vSlice (g.v 0) fun s49b s49n s49c => vSlice (g.v 3) fun s50b s50n s50c => vSlice (g.v 5) fun s51b s51n s51c => vInt .i64 (g.v 6) fun i52 => vInt .i64 (g.v 7) fun i53 => K s49b s49n s49c s50b s50n s50c s51b s51n s51c i52 i53 h)
theorem D6_ok {K : T6} {g : Env} {h : H} (hq : D6 K g h) : ∃ (x0b : Option Addr) (x0n : Nat) (x0c : Nat) (x3b : Option Addr) (x3n : Nat) (x3c : Nat) (x5b : Option Addr) (x5n : Nat) (x5c : Nat) (x6 : Int) (x7 : Int), E6 g x0b x0n x0c x3b x3n x3c x5b x5n x5c x6 x7 ∧ K x0b x0n x0c x3b x3n x3c x5b x5n x5c x6 x7 h := by
  obtain ⟨hd, hq⟩ := nilDs_ok hq
  obtain ⟨y55b, y55n, y55c, e54, q56⟩ := vSlice_ok hq
  obtain ⟨y58b, y58n, y58c, e57, q59⟩ := vSlice_ok q56
  obtain ⟨y61b, y61n, y61c, e60, q62⟩ := vSlice_ok q59
  obtain ⟨y64, e63, q65⟩ := vInt_ok q62
  obtain ⟨y67, e66, q68⟩ := vInt_ok q65
  exact ⟨y55b, y55n, y55c, y58b, y58n, y58c, y61b, y61n, y61c, y64, y67, ⟨e54, e57, e60, e63, e66, hd⟩, q68⟩
noncomputable def n19_c1 : Code := cFst n18_c2
noncomputable def n19_c2 : Code := cSnd n18_c2
noncomputable def n20_c1 : Code := cFst n19_c2
noncomputable def n20_c2 : Code := cSnd n19_c2
noncomputable def n21_c1 : Code := cFst n20_c2
noncomputable def n21_c2 : Code := cSnd n20_c2
abbrev T7 := (Option Addr) → Nat → Nat → (Option Addr) → Nat → Nat → (Option Addr) → Nat → Nat → Int → Int → Int → H → Prop
def E7 (g : Env) (x0b : Option Addr) (x0n : Nat) (x0c : Nat) (x3b : Option Addr) (x3n : Nat) (x3c : Nat) (x5b : Option Addr) (x5n : Nat) (x5c : Nat) (x6 : Int) (x7 : Int) (x8 : Int) : Prop := g.v 0 = (.slice x0b x0n x0c) ∧ g.v 3 = (.slice x3b x3n x3c) ∧ g.v 5 = (.slice x5b x5n x5c) ∧ g.v 6 = (.int .i64 x6) ∧ g.v 7 = (.int .i64 x7) ∧ g.v 8 = (.int .i64 x8) ∧ g.ds = []
def D7 (K : T7) (g : Env) (h : H) : Prop := nilDs g.ds (vSlice (g.v 0) fun s69b s69n s69c => vSlice (g.v 3) fun s70b s70n s70c => vSlice (g.v 5) fun s71b s71n s71c => vInt .i64 (g.v 6) fun i72 => vInt .i64 (g.v 7) fun i73 => vInt .i64 (g.v 8) fun i74 => K s69b s69n s69c s70b s70n s70c s71b s71n s71c i72 i73 i74 h)
theorem D7_ok {K : T7} {g : Env} {h : H} (hq : D7 K g h) : ∃ (x0b : Option Addr) (x0n : Nat) (x0c : Nat) (x3b : Option Addr) (x3n : Nat) (x3c : Nat) (x5b : Option Addr) (x5n : Nat) (x5c : Nat) (x6 : Int) (x7 : Int) (x8 : Int), E7 g x0b x0n x0c x3b x3n x3c x5b x5n x5c x6 x7 x8 ∧ K x0b x0n x0c x3b x3n x3c x5b x5n x5c x6 x7 x8 h := by
  obtain ⟨hd, hq⟩ := nilDs_ok hq
  obtain ⟨y76b, y76n, y76c, e75, q77⟩ := vSlice_ok hq
  obtain ⟨y79b, y79n, y79c, e78, q80⟩ := vSlice_ok q77
  obtain ⟨y82b, y82n, y82c, e81, q83⟩ := vSlice_ok q80
  obtain ⟨y85, e84, q86⟩ := vInt_ok q83
  obtain ⟨y88, e87, q89⟩ := vInt_ok q86
  obtain ⟨y91, e90, q92⟩ := vInt_ok q89
  exact ⟨y76b, y76n, y76c, y79b, y79n, y79c, y82b, y82n, y82c, y85, y88, y91, ⟨e75, e78, e81, e84, e87, e90, hd⟩, q92⟩
noncomputable def n22_c1 : Code := cFst n21_c2
noncomputable def n22_c2 : Code := cSnd n21_c2
noncomputable def n23_c1 : Code := cFst n22_c2
noncomputable def n23_c2 : Code := cSnd n22_c2
abbrev T8 := (Option Addr) → Nat → Nat → (Option Addr) → Nat → Nat → (Option Addr) → Nat → Nat → Int → Int → Int → Int → H → Prop
def E8 (g : Env) (x0b : Option Addr) (x0n : Nat) (x0c : Nat) (x3b : Option Addr) (x3n : Nat) (x3c : Nat) (x5b : Option Addr) (x5n : Nat) (x5c : Nat) (x6 : Int) (x7 : Int) (x8 : Int) (x9 : Int) : Prop := g.v 0 = (.slice x0b x0n x0c) ∧ g.v 3 = (.slice x3b x3n x3c) ∧ g.v 5 = (.slice x5b x5n x5c) ∧ g.v 6 = (.int .i64 x6) ∧ g.v 7 = (.int .i64 x7) ∧ g.v 8 = (.int .i64 x8) ∧ g.v 9 = (.int .i64 x9) ∧ g.ds = []
def D8 (K : T8) (g : Env) (h : H) : Prop := nilDs g.ds (vSlice (g.v 0) fun s93b s93n s93c => vSlice (g.v 3) fun s94b s94n s94c => vSlice (g.v 5) fun s95b s95n s95c => vInt .i64 (g.v 6) fun i96 => vInt .i64 (g.v 7) fun i97 => vInt .i64 (g.v 8) fun i98 => vInt .i64 (g.v 9) fun i99 => K s93b s93n s93c s94b s94n s94c s95b s95n s95c i96 i97 i98 i99 h)
theorem D8_ok {K : T8} {g : Env} {h : H} (hq : D8 K g h) : ∃ (x0b : Option Addr) (x0n : Nat) (x0c : Nat) (x3b : Option Addr) (x3n : Nat) (x3c : Nat) (x5b : Option Addr) (x5n : Nat) (x5c : Nat) (x6 : Int) (x7 : Int) (x8 : Int) (x9 : Int), E8 g x0b x0n x0c x3b x3n x3c x5b x5n x5c x6 x7 x8 x9 ∧ K x0b x0n x0c x3b x3n x3c x5b x5n x5c x6 x7 x8 x9 h := by
  obtain ⟨hd, hq⟩ := nilDs_ok hq
  obtain ⟨y101b, y101n, y101c, e100, q102⟩ := vSlice_ok hq
  obtain ⟨y104b, y104n, y104c, e103, q105⟩ := vSlice_ok q102
  obtain ⟨y107b, y107n, y107c, e106, q108⟩ := vSlice_ok q105
  obtain ⟨y110, e109, q111⟩ := vInt_ok q108
  obtain ⟨y113, e112, q114⟩ := vInt_ok q111
  obtain ⟨y116, e115, q117⟩ := vInt_ok q114
  obtain ⟨y119, e118, q120⟩ := vInt_ok q117
  exact ⟨y101b, y101n, y101c, y104b, y104n, y104c, y107b, y107n, y107c, y110, y113, y116, y119, ⟨e100, e103, e106, e109, e112, e115, e118, hd⟩, q120⟩
noncomputable def n24_c1 : Code := cFst n23_c2
noncomputable def n24_c2 : Code := cSnd n23_c2
noncomputable def n25_c1 : Code := cFst n24_c2
noncomputable def n25_c2 : Code := cSnd n24_c2
noncomputable def n26_c1 : Code := cFst n25_c2
noncomputable def n26_c2 : Code := cSnd n25_c2
noncomputable def n27_c1 : Code := cFst n26_c2
noncomputable def n27_c2 : Code := cSnd n26_c2
noncomputable def n28_c1 : Code := cFst n27_c2
noncomputable def n28_c2 : Code := cSnd n27_c2
abbrev n29 (x0b : Option Addr) (x0n : Nat) (x0c : Nat) (x3b : Option Addr) (x3n : Nat) (x3c : Nat) (x5b : Option Addr) (x5n : Nat) (x5c : Nat) (x6 : Int) (x7 : Int) (Kn : T5) (Ke5 : T5) (Ke4 : T5) (Ke3 : T5) (Ke2 : T4) (Kr : T0) (h : H) : Prop :=
  (0 ≤ x7 ∧ x7 < (x3n : Int)) ∧ (vSome x3b fun a121 => ∃ i122, cell h ((a121.add (Int.toNat x7 * 3)).add 1) = some (.int .i64 i122) ∧ (Spl (i122 ≤ (0 : Int)) ((0 ≤ x7 ∧ x7 < (x3n : Int)) ∧ (vSome x3b fun a123 => stL ((a123.add (Int.toNat x7 * 3)).add 2) [(.bool true)] 0 h fun h124 => (0 ≤ x6 ∧ x6 < (x3n : Int)) ∧ (vSome x3b fun a125 => ∃ i126, cell h124 ((a125.add (Int.toNat x6 * 3)).add 1) = some (.int .i64 i126) ∧ (Spl (i126 ≤ (0 : Int)) ((0 ≤ x6 ∧ x6 < (x3n : Int)) ∧ (vSome x3b fun a127 => stL ((a127.add (Int.toNat x6 * 3)).add 2) [(.bool true)] 0 h124 fun h128 => Kn x0b x0n x0c x3b x3n x3c x5b x5n x5c x6 h128)) ((0 ≤ x6 ∧ x6 < (x3n : Int)) ∧ (vSome x3b fun a129 => stL ((a129.add (Int.toNat x6 * 3)).add 2) [(.bool false)] 0 h124 fun h130 => Kn x0b x0n x0c x3b x3n x3c x5b x5n x5c x6 h130)))))) ((0 ≤ x7 ∧ x7 < (x3n : Int)) ∧ (vSome x3b fun a131 => stL ((a131.add (Int.toNat x7 * 3)).add 2) [(.bool false)] 0 h fun h132 => (0 ≤ x6 ∧ x6 < (x3n : Int)) ∧ (vSome x3b fun a133 => ∃ i134, cell h132 ((a133.add (Int.toNat x6 * 3)).add 1) = some (.int .i64 i134) ∧ (Spl (i134 ≤ (0 : Int)) ((0 ≤ x6 ∧ x6 < (x3n : Int)) ∧ (vSome x3b fun a135 => stL ((a135.add (Int.toNat x6 * 3)).add 2) [(.bool true)] 0 h132 fun h136 => Kn x0b x0n x0c x3b x3n x3c x5b x5n x5c x6 h136)) ((0 ≤ x6 ∧ x6 < (x3n : Int)) ∧ (vSome x3b fun a137 => stL ((a137.add (Int.toNat x6 * 3)).add 2) [(.bool false)] 0 h132 fun h138 => Kn x0b x0n x0c x3b x3n x3c x5b x5n x5c x6 h138))))))))
theorem n29_ok (x0b : Option Addr) (x0n : Nat) (x0c : Nat) (x3b : Option Addr) (x3n : Nat) (x3c : Nat) (x5b : Option Addr) (x5n : Nat) (x5c : Nat) (x6 : Int) (x7 : Int) (Kn : T5) (Ke5 : T5) (Ke4 : T5) (Ke3 : T5) (Ke2 : T4) (Kr : T0) (g : Env) (hg : E6 g x0b x0n x0c x3b x3n x3c x5b x5n x5c x6 x7) (h : H) (hS : n29 x0b x0n x0c x3b x3n x3c x5b x5n x5c x6 x7 Kn Ke5 Ke4 Ke3 Ke2 Kr h) : wpC none Tryd.prog 217 n28_c2 (Q6 Kn Ke5 Ke4 Ke3 Ke2 Kr) g h := by
  obtain ⟨hg0, hg3, hg5, hg6, hg7, hds⟩ := hg
  refine wpC_of_wpx (by kernel_rfl) (by kernel_rfl) (g' := (((((⟨g.v, []⟩ : Env).upd (some 0) (.slice x0b x0n x0c)).upd (some 3) (.slice x3b x3n x3c)).upd (some 5) (.slice x5b x5n x5c)).upd (some 6) (.int .i64 x6)).upd (some 7) (.int .i64 x7)) (by rw [env_ds hds, upd_self hg0, upd_self hg3, upd_self hg5, upd_self hg6, upd_self hg7]) ?_
  have e : (n29 x0b x0n x0c x3b x3n x3c x5b x5n x5c x6 x7 Kn Ke5 Ke4 Ke3 Ke2 Kr h) = wpx none Tryd.prog 217 n28_c2 (Q6 Kn Ke5 Ke4 Ke3 Ke2 Kr) ((((((⟨g.v, []⟩ : Env).upd (some 0) (.slice x0b x0n x0c)).upd (some 3) (.slice x3b x3n x3c)).upd (some 5) (.slice x5b x5n x5c)).upd (some 6) (.int .i64 x6)).upd (some 7) (.int .i64 x7)) h := by kernel_rfl
  exact e ▸ hS
def Q7 (Kn : T6) (Ke5 : T5) (Ke4 : T5) (Ke3 : T5) (Ke2 : T4) (Kr : T0) : XPost
  | .normal, g, h => D6 Kn g h
  | .ret, g, h => D0 Kr g h
  | .exit id, g, h => cond (Nat.beq id 5) (D5 Ke5 g h) (cond (Nat.beq id 4) (D5 Ke4 g h) (cond (Nat.beq id 3) (D5 Ke3 g h) (cond (Nat.beq id 2) (D4 Ke2 g h) (False))))
  | _, _, _ => False
noncomputable def n30_c1 : Code := cFst n28_c1
noncomputable def n30_c2 : Code := cSnd n28_c1
abbrev T9 := (Option Addr) → Nat → Nat → (Option Addr) → Nat → Nat → (Option Addr) → Nat → Nat → Int → Int → Int → H → Prop
def E9 (g : Env) (x0b : Option Addr) (x0n : Nat) (x0c : Nat) (x3b : Option Addr) (x3n : Nat) (x3c : Nat) (x5b : Option Addr) (x5n : Nat) (x5c : Nat) (x6 : Int) (x7 : Int) (x10 : Int) : Prop := g.v 0 = (.slice x0b x0n x0c) ∧ g.v 3 = (.slice x3b x3n x3c) ∧ g.v 5 = (.slice x5b x5n x5c) ∧ g.v 6 = (.int .i64 x6) ∧ g.v 7 = (.int .i64 x7) ∧ g.v 10 = (.int .i64 x10) ∧ g.ds = []
def D9 (K : T9) (g : Env) (h : H) : Prop := nilDs g.ds (vSlice (g.v 0) fun s139b s139n s139c => vSlice (g.v 3) fun s140b s140n s140c => vSlice (g.v 5) fun s141b s141n s141c => vInt .i64 (g.v 6) fun i142 => vInt .i64 (g.v 7) fun i143 => vInt .i64 (g.v 10) fun i144 => K s139b s139n s139c s140b s140n s140c s141b s141n s141c i142 i143 i144 h)
theorem D9_ok {K : T9} {g : Env} {h : H} (hq : D9 K g h) : ∃ (x0b : Option Addr) (x0n : Nat) (x0c : Nat) (x3b : Option Addr) (x3n : Nat) (x3c : Nat) (x5b : Option Addr) (x5n : Nat) (x5c : Nat) (x6 : Int) (x7 : Int) (x10 : Int), E9 g x0b x0n x0c x3b x3n x3c x5b x5n x5c x6 x7 x10 ∧ K x0b x0n x0c x3b x3n x3c x5b x5n x5c x6 x7 x10 h := by
  obtain ⟨hd, hq⟩ := nilDs_ok hq
  obtain ⟨y146b, y146n, y146c, e145, q147⟩ := vSlice_ok hq
  obtain ⟨y149b, y149n, y149c, e148, q150⟩ := vSlice_ok q147
  obtain ⟨y152b, y152n, y152c, e151, q153⟩ := vSlice_ok q150
  obtain ⟨y155, e154, q156⟩ := vInt_ok q153
  obtain ⟨y158, e157, q159⟩ := vInt_ok q156
  obtain ⟨y161, e160, q162⟩ := vInt_ok q159
  exact ⟨y146b, y146n, y146c, y149b, y149n, y149c, y152b, y152n, y152c, y155, y158, y161, ⟨e145, e148, e151, e154, e157, e160, hd⟩, q162⟩
noncomputable def n31_c1 : Code := cFst n30_c2
def Q8 (Kn : T6) (Ke8 : T6) (Ke5 : T5) (Ke4 : T5) (Ke3 : T5) (Ke2 : T4) (Kr : T0) : XPost
  | .normal, g, h => D6 Kn g h
  | .ret, g, h => D0 Kr g h
  | .exit id, g, h => cond (Nat.beq id 8) (D6 Ke8 g h) (cond (Nat.beq id 5) (D5 Ke5 g h) (cond (Nat.beq id 4) (D5 Ke4 g h) (cond (Nat.beq id 3) (D5 Ke3 g h) (cond (Nat.beq id 2) (D4 Ke2 g h) (False)))))
  | _, _, _ => False
noncomputable def n32_c1 : Code := cFst n31_c1
def Q9 (Kn : T9) (Ke8 : T6) (Ke5 : T5) (Ke4 : T5) (Ke3 : T5) (Ke2 : T4) (Kr : T0) : XPost
  | .normal, g, h => D9 Kn g h
  | .ret, g, h => D0 Kr g h
  | .exit id, g, h => cond (Nat.beq id 8) (D6 Ke8 g h) (cond (Nat.beq id 5) (D5 Ke5 g h) (cond (Nat.beq id 4) (D5 Ke4 g h) (cond (Nat.beq id 3) (D5 Ke3 g h) (cond (Nat.beq id 2) (D4 Ke2 g h) (False)))))
  | _, _, _ => False
def n32_L (Kn : T6) (Ke8 : T6) (Ke5 : T5) (Ke4 : T5) (Ke3 : T5) (Ke2 : T4) (Kr : T0) : Nat → (Option Addr) → Nat → Nat → (Option Addr) → Nat → Nat → (Option Addr) → Nat → Nat → Int → Int → Int → H → Prop
  | 0 => fun _ _ _ _ _ _ _ _ _ _ _ _ _ => False
  | N + 1 => fun x0b x0n x0c x3b x3n x3c x5b x5n x5c x6 x7 x10 h => Spl (x10 < x6) ((0 ≤ x10 ∧ x10 < (x3n : Int)) ∧ (vSome x3b fun a163 => stL ((a163.add (Int.toNat x10 * 3)).add 2) [(.bool true)] 0 h fun h164 => n32_L Kn Ke8 Ke5 Ke4 Ke3 Ke2 Kr N x0b x0n x0c x3b x3n x3c x5b x5n x5c x6 x7 (IntKind.wrap .i64 (x10 + (1 : Int))) h164)) (Ke8 x0b x0n x0c x3b x3n x3c x5b x5n x5c x6 x7 h)
abbrev n32 (x0b : Option Addr) (x0n : Nat) (x0c : Nat) (x3b : Option Addr) (x3n : Nat) (x3c : Nat) (x5b : Option Addr) (x5n : Nat) (x5c : Nat) (x6 : Int) (x7 : Int) (x10 : Int) (Kn : T6) (Ke8 : T6) (Ke5 : T5) (Ke4 : T5) (Ke3 : T5) (Ke2 : T4) (Kr : T0) (h : H) : Prop := ∃ N, n32_L Kn Ke8 Ke5 Ke4 Ke3 Ke2 Kr N x0b x0n x0c x3b x3n x3c x5b x5n x5c x6 x7 x10 h
theorem n32_ok (x0b : Option Addr) (x0n : Nat) (x0c : Nat) (x3b : Option Addr) (x3n : Nat) (x3c : Nat) (x5b : Option Addr) (x5n : Nat) (x5c : Nat) (x6 : Int) (x7 : Int) (x10 : Int) (Kn : T6) (Ke8 : T6) (Ke5 : T5) (Ke4 : T5) (Ke3 : T5) (Ke2 : T4) (Kr : T0) (g : Env) (hg : E9 g x0b x0n x0c x3b x3n x3c x5b x5n x5c x6 x7 x10) (h : H) (hS : n32 x0b x0n x0c x3b x3n x3c x5b x5n x5c x6 x7 x10 Kn Ke8 Ke5 Ke4 Ke3 Ke2 Kr h) : wpC none Tryd.prog 217 n31_c1 (Q8 Kn Ke8 Ke5 Ke4 Ke3 Ke2 Kr) g h := by
  obtain ⟨N0, hS⟩ := hS
  refine wpC_loop' (x := n32_c1) (by kernel_rfl) (fun k g h => ∃ (x0b : Option Addr) (x0n : Nat) (x0c : Nat) (x3b : Option Addr) (x3n : Nat) (x3c : Nat) (x5b : Option Addr) (x5n : Nat) (x5c : Nat) (x6 : Int) (x7 : Int) (x10 : Int), E9 g x0b x0n x0c x3b x3n x3c x5b x5n x5c x6 x7 x10 ∧ n32_L Kn Ke8 Ke5 Ke4 Ke3 Ke2 Kr k x0b x0n x0c x3b x3n x3c x5b x5n x5c x6 x7 x10 h) (fun g h hr => ?_) (fun N g h hr => ?_) N0 ⟨x0b, x0n, x0c, x3b, x3n, x3c, x5b, x5n, x5c, x6, x7, x10, hg, hS⟩
  · obtain ⟨x0b, x0n, x0c, x3b, x3n, x3c, x5b, x5n, x5c, x6, x7, x10, hg, hS⟩ := hr
    exact hS.elim
  · obtain ⟨x0b, x0n, x0c, x3b, x3n, x3c, x5b, x5n, x5c, x6, x7, x10, hg, hS⟩ := hr
    have hw : wpC none Tryd.prog 217 n32_c1 (Q9 (fun z0b z0n z0c z3b z3n z3c z5b z5n z5c z6 z7 z10 h => n32_L Kn Ke8 Ke5 Ke4 Ke3 Ke2 Kr N z0b z0n z0c z3b z3n z3c z5b z5n z5c z6 z7 z10 h) Ke8 Ke5 Ke4 Ke3 Ke2 Kr) g h := by
      obtain ⟨hg0, hg3, hg5, hg6, hg7, hg10, hds⟩ := hg
      refine wpC_of_wpx (by kernel_rfl) (by kernel_rfl) (g' := ((((((⟨g.v, []⟩ : Env).upd (some 0) (.slice x0b x0n x0c)).upd (some 3) (.slice x3b x3n x3c)).upd (some 5) (.slice x5b x5n x5c)).upd (some 6) (.int .i64 x6)).upd (some 7) (.int .i64 x7)).upd (some 10) (.int .i64 x10)) (by rw [env_ds hds, upd_self hg0, upd_self hg3, upd_self hg5, upd_self hg6, upd_self hg7, upd_self hg10]) ?_
      have e : (n32_L Kn Ke8 Ke5 Ke4 Ke3 Ke2 Kr (N + 1) x0b x0n x0c x3b x3n x3c x5b x5n x5c x6 x7 x10 h) = wpx none Tryd.prog 217 n32_c1 (Q9 (fun z0b z0n z0c z3b z3n z3c z5b z5n z5c z6 z7 z10 h => n32_L Kn Ke8 Ke5 Ke4 Ke3 Ke2 Kr N z0b z0n z0c z3b z3n z3c z5b z5n z5c z6 z7 z10 h) Ke8 Ke5 Ke4 Ke3 Ke2 Kr) (((((((⟨g.v, []⟩ : Env).upd (some 0) (.slice x0b x0n x0c)).upd (some 3) (.slice x3b x3n x3c)).upd (some 5) (.slice x5b x5n x5c)).upd (some 6) (.int .i64 x6)).upd (some 7) (.int .i64 x7)).upd (some 10) (.int .i64 x10)) h := by kernel_rfl
      exact e ▸ hS
    refine hw.mono ?_
    intro e g' h' hq
    cases e with
    | normal => exact D9_ok (K := (fun z0b z0n z0c z3b z3n z3c z5b z5n z5c z6 z7 z10 h => n32_L Kn Ke8 Ke5 Ke4 Ke3 Ke2 Kr N z0b z0n z0c z3b z3n z3c z5b z5n z5c z6 z7 z10 h)) hq
    | _ => exact hq
abbrev n31 (x0b : Option Addr) (x0n : Nat) (x0c : Nat) (x3b : Option Addr) (x3n : Nat) (x3c : Nat) (x5b : Option Addr) (x5n : Nat) (x5c : Nat) (x6 : Int) (x7 : Int) (x10 : Int) (Kn : T6) (Ke5 : T5) (Ke4 : T5) (Ke3 : T5) (Ke2 : T4) (Kr : T0) (h : H) : Prop := n32 x0b x0n x0c x3b x3n x3c x5b x5n x5c x6 x7 x10 Kn Kn Ke5 Ke4 Ke3 Ke2 Kr h
theorem n31_ok (x0b : Option Addr) (x0n : Nat) (x0c : Nat) (x3b : Option Addr) (x3n : Nat) (x3c : Nat) (x5b : Option Addr) (x5n : Nat) (x5c : Nat) (x6 : Int) (x7 : Int) (x10 : Int) (Kn : T6) (Ke5 : T5) (Ke4 : T5) (Ke3 : T5) (Ke2 : T4) (Kr : T0) (g : Env) (hg : E9 g x0b x0n x0c x3b x3n x3c x5b x5n x5c x6 x7 x10) (h : H) (hS : n31 x0b x0n x0c x3b x3n x3c x5b x5n x5c x6 x7 x10 Kn Ke5 Ke4 Ke3 Ke2 Kr h) : wpC none Tryd.prog 217 n30_c2 (Q7 Kn Ke5 Ke4 Ke3 Ke2 Kr) g h := by
  refine wpC_block' (id := 8) (x := n31_c1) (by kernel_rfl) (n32_ok x0b x0n x0c x3b x3n x3c x5b x5n x5c x6 x7 x10 Kn Kn Ke5 Ke4 Ke3 Ke2 Kr g hg h hS) ?_
  intro e g' h' hq
  cases e <;> exact hq
def Q10 (Kn : T9) (Ke5 : T5) (Ke4 : T5) (Ke3 : T5) (Ke2 : T4) (Kr : T0) : XPost
  | .normal, g, h => D9 Kn g h
  | .ret, g, h => D0 Kr g h
  | .exit id, g, h => cond (Nat.beq id 5) (D5 Ke5 g h) (cond (Nat.beq id 4) (D5 Ke4 g h) (cond (Nat.beq id 3) (D5 Ke3 g h) (cond (Nat.beq id 2) (D4 Ke2 g h) (False))))
  | _, _, _ => False
abbrev n30 (x0b : Option Addr) (x0n : Nat) (x0c : Nat) (x3b : Option Addr) (x3n : Nat) (x3c : Nat) (x5b : Option Addr) (x5n : Nat) (x5c : Nat) (x6 : Int) (x7 : Int) (Kn : T6) (Ke5 : T5) (Ke4 : T5) (Ke3 : T5) (Ke2 : T4) (Kr : T0) (h : H) : Prop :=
  n31 x0b x0n x0c x3b x3n x3c x5b x5n x5c x6 x7 (IntKind.wrap .i64 (x7 + (1 : Int))) Kn Ke5 Ke4 Ke3 Ke2 Kr h
theorem n30_ok (x0b : Option Addr) (x0n : Nat) (x0c : Nat) (x3b : Option Addr) (x3n : Nat) (x3c : Nat) (x5b : Option Addr) (x5n : Nat) (x5c : Nat) (x6 : Int) (x7 : Int) (Kn : T6) (Ke5 : T5) (Ke4 : T5) (Ke3 : T5) (Ke2 : T4) (Kr : T0) (g : Env) (hg : E6 g x0b x0n x0c x3b x3n x3c x5b x5n x5c x6 x7) (h : H) (hS : n30 x0b x0n x0c x3b x3n x3c x5b x5n x5c x6 x7 Kn Ke5 Ke4 Ke3 Ke2 Kr h) : wpC none Tryd.prog 217 n28_c1 (Q7 Kn Ke5 Ke4 Ke3 Ke2 Kr) g h := by
  obtain ⟨hg0, hg3, hg5, hg6, hg7, hds⟩ := hg
  refine wpC_seq' (x := n30_c1) (y := n30_c2) (Q' := (Q10 (fun z0b z0n z0c z3b z3n z3c z5b z5n z5c z6 z7 z10 h => n31 z0b z0n z0c z3b z3n z3c z5b z5n z5c z6 z7 z10 Kn Ke5 Ke4 Ke3 Ke2 Kr h) Ke5 Ke4 Ke3 Ke2 Kr)) (by kernel_rfl) ?_ ?_
  · refine wpC_of_wpx (by kernel_rfl) (by kernel_rfl) (g' := (((((⟨g.v, []⟩ : Env).upd (some 0) (.slice x0b x0n x0c)).upd (some 3) (.slice x3b x3n x3c)).upd (some 5) (.slice x5b x5n x5c)).upd (some 6) (.int .i64 x6)).upd (some 7) (.int .i64 x7)) (by rw [env_ds hds, upd_self hg0, upd_self hg3, upd_self hg5, upd_self hg6, upd_self hg7]) ?_
    have e : (n30 x0b x0n x0c x3b x3n x3c x5b x5n x5c x6 x7 Kn Ke5 Ke4 Ke3 Ke2 Kr h) = wpx none Tryd.prog 217 n30_c1 (Q10 (fun z0b z0n z0c z3b z3n z3c z5b z5n z5c z6 z7 z10 h => n31 z0b z0n z0c z3b z3n z3c z5b z5n z5c z6 z7 z10 Kn Ke5 Ke4 Ke3 Ke2 Kr h) Ke5 Ke4 Ke3 Ke2 Kr) ((((((⟨g.v, []⟩ : Env).upd (some 0) (.slice x0b x0n x0c)).upd (some 3) (.slice x3b x3n x3c)).upd (some 5) (.slice x5b x5n x5c)).upd (some 6) (.int .i64 x6)).upd (some 7) (.int .i64 x7)) h := by kernel_rfl
    exact e ▸ hS
  · intro e g' h' hq
    cases e with
    | normal =>
      have hq : D9 (fun z0b z0n z0c z3b z3n z3c z5b z5n z5c z6 z7 z10 h => n31 z0b z0n z0c z3b z3n z3c z5b z5n z5c z6 z7 z10 Kn Ke5 Ke4 Ke3 Ke2 Kr h) g' h' := hq
      obtain ⟨y0b, y0n, y0c, y3b, y3n, y3c, y5b, y5n, y5c, y6, y7, y10, hg', hq⟩ := D9_ok hq
      exact n31_ok y0b y0n y0c y3b y3n y3c y5b y5n y5c y6 y7 y10 Kn Ke5 Ke4 Ke3 Ke2 Kr g' hg' h' hq
    | _ => exact hq
abbrev n28 (x0b : Option Addr) (x0n : Nat) (x0c : Nat) (x3b : Option Addr) (x3n : Nat) (x3c : Nat) (x5b : Option Addr) (x5n : Nat) (x5c : Nat) (x6 : Int) (x7 : Int) (Kn : T5) (Ke5 : T5) (Ke4 : T5) (Ke3 : T5) (Ke2 : T4) (Kr : T0) (h : H) : Prop := n30 x0b x0n x0c x3b x3n x3c x5b x5n x5c x6 x7 (fun z0b z0n z0c z3b z3n z3c z5b z5n z5c z6 z7 h => n29 z0b z0n z0c z3b z3n z3c z5b z5n z5c z6 z7 Kn Ke5 Ke4 Ke3 Ke2 Kr h) Ke5 Ke4 Ke3 Ke2 Kr h
theorem n28_ok (x0b : Option Addr) (x0n : Nat) (x0c : Nat) (x3b : Option Addr) (x3n : Nat) (x3c : Nat) (x5b : Option Addr) (x5n : Nat) (x5c : Nat) (x6 : Int) (x7 : Int) (Kn : T5) (Ke5 : T5) (Ke4 : T5) (Ke3 : T5) (Ke2 : T4) (Kr : T0) (g : Env) (hg : E6 g x0b x0n x0c x3b x3n x3c x5b x5n x5c x6 x7) (h : H) (hS : n28 x0b x0n x0c x3b x3n x3c x5b x5n x5c x6 x7 Kn Ke5 Ke4 Ke3 Ke2 Kr h) : wpC none Tryd.prog 217 n27_c2 (Q6 Kn Ke5 Ke4 Ke3 Ke2 Kr) g h := by
  refine wpC_seq' (x := n28_c1) (y := n28_c2) (by kernel_rfl) (n30_ok x0b x0n x0c x3b x3n x3c x5b x5n x5c x6 x7 (fun z0b z0n z0c z3b z3n z3c z5b z5n z5c z6 z7 h => n29 z0b z0n z0c z3b z3n z3c z5b z5n z5c z6 z7 Kn Ke5 Ke4 Ke3 Ke2 Kr h) Ke5 Ke4 Ke3 Ke2 Kr g hg h hS) ?_
  intro e g' h' hq
  cases e with
  | normal =>
    have hq : D6 (fun z0b z0n z0c z3b z3n z3c z5b z5n z5c z6 z7 h => n29 z0b z0n z0c z3b z3n z3c z5b z5n z5c z6 z7 Kn Ke5 Ke4 Ke3 Ke2 Kr h) g' h' := hq
    obtain ⟨y0b, y0n, y0c, y3b, y3n, y3c, y5b, y5n, y5c, y6, y7, hg', hq⟩ := D6_ok hq
    exact n29_ok y0b y0n y0c y3b y3n y3c y5b y5n y5c y6 y7 Kn Ke5 Ke4 Ke3 Ke2 Kr g' hg' h' hq
  | _ => exact hq
abbrev n27 (x0b : Option Addr) (x0n : Nat) (x0c : Nat) (x3b : Option Addr) (x3n : Nat) (x3c : Nat) (x5b : Option Addr) (x5n : Nat) (x5c : Nat) (x6 : Int) (x7 : Int) (x8 : Int) (x9 : Int) (Kn : T5) (Ke5 : T5) (Ke4 : T5) (Ke3 : T5) (Ke2 : T4) (Kr : T0) (h : H) : Prop :=
  (0 ≤ x6 ∧ x6 < (x0n : Int)) ∧ (vSome x0b fun a165 => ∃ i166, cell h ((a165.add (Int.toNat x6 * 5)).add 1) = some (.int .i64 i166) ∧ ((0 ≤ x6 ∧ x6 < (x3n : Int)) ∧ (vSome x3b fun a167 => ∃ i168, cell h ((a167.add (Int.toNat x6 * 3)).add 0) = some (.int .i64 i168) ∧ (newx h #[(.int .i64 x9), (.int .i64 (IntKind.wrap .i64 (i166 + i168))), (.int .i64 x8)] 35 fun a169 h170 => SemH Tryd.prog (Builtin.append_ #[32, 32] 32 ⟨[(.slice x5b x5n x5c), (.slice (some a169) 1 1)]⟩) h170 fun v171 h172 => vSlice v171 fun s173b s173n s173c => n28 x0b x0n x0c x3b x3n x3c s173b s173n s173c x6 x7 Kn Ke5 Ke4 Ke3 Ke2 Kr h172))))
theorem n27_ok (x0b : Option Addr) (x0n : Nat) (x0c : Nat) (x3b : Option Addr) (x3n : Nat) (x3c : Nat) (x5b : Option Addr) (x5n : Nat) (x5c : Nat) (x6 : Int) (x7 : Int) (x8 : Int) (x9 : Int) (Kn : T5) (Ke5 : T5) (Ke4 : T5) (Ke3 : T5) (Ke2 : T4) (Kr : T0) (g : Env) (hg : E8 g x0b x0n x0c x3b x3n x3c x5b x5n x5c x6 x7 x8 x9) (h : H) (hS : n27 x0b x0n x0c x3b x3n x3c x5b x5n x5c x6 x7 x8 x9 Kn Ke5 Ke4 Ke3 Ke2 Kr h) : wpC none Tryd.prog 217 n26_c2 (Q6 Kn Ke5 Ke4 Ke3 Ke2 Kr) g h := by
  obtain ⟨hg0, hg3, hg5, hg6, hg7, hg8, hg9, hds⟩ := hg
  refine wpC_seq' (x := n27_c1) (y := n27_c2) (Q' := (Q7 (fun z0b z0n z0c z3b z3n z3c z5b z5n z5c z6 z7 h => n28 z0b z0n z0c z3b z3n z3c z5b z5n z5c z6 z7 Kn Ke5 Ke4 Ke3 Ke2 Kr h) Ke5 Ke4 Ke3 Ke2 Kr)) (by kernel_rfl) ?_ ?_
  · refine wpC_of_wpx (by kernel_rfl) (by kernel_rfl) (g' := (((((((⟨g.v, []⟩ : Env).upd (some 0) (.slice x0b x0n x0c)).upd (some 3) (.slice x3b x3n x3c)).upd (some 5) (.slice x5b x5n x5c)).upd (some 6) (.int .i64 x6)).upd (some 7) (.int .i64 x7)).upd (some 8) (.int .i64 x8)).upd (some 9) (.int .i64 x9)) (by rw [env_ds hds, upd_self hg0, upd_self hg3, upd_self hg5, upd_self hg6, upd_self hg7, upd_self hg8, upd_self hg9]) ?_
    have e : (n27 x0b x0n x0c x3b x3n x3c x5b x5n x5c x6 x7 x8 x9 Kn Ke5 Ke4 Ke3 Ke2 Kr h) = wpx none Tryd.prog 217 n27_c1 (Q7 (fun z0b z0n z0c z3b z3n z3c z5b z5n z5c z6 z7 h => n28 z0b z0n z0c z3b z3n z3c z5b z5n z5c z6 z7 Kn Ke5 Ke4 Ke3 Ke2 Kr h) Ke5 Ke4 Ke3 Ke2 Kr) ((((((((⟨g.v, []⟩ : Env).upd (some 0) (.slice x0b x0n x0c)).upd (some 3) (.slice x3b x3n x3c)).upd (some 5) (.slice x5b x5n x5c)).upd (some 6) (.int .i64 x6)).upd (some 7) (.int .i64 x7)).upd (some 8) (.int .i64 x8)).upd (some 9) (.int .i64 x9)) h := by kernel_rfl
    exact e ▸ hS
  · intro e g' h' hq
    cases e with
    | normal =>
      have hq : D6 (fun z0b z0n z0c z3b z3n z3c z5b z5n z5c z6 z7 h => n28 z0b z0n z0c z3b z3n z3c z5b z5n z5c z6 z7 Kn Ke5 Ke4 Ke3 Ke2 Kr h) g' h' := hq
      obtain ⟨y0b, y0n, y0c, y3b, y3n, y3c, y5b, y5n, y5c, y6, y7, hg', hq⟩ := D6_ok hq
      exact n28_ok y0b y0n y0c y3b y3n y3c y5b y5n y5c y6 y7 Kn Ke5 Ke4 Ke3 Ke2 Kr g' hg' h' hq
    | _ => exact hq
def Q11 (Kn : T8) (Ke5 : T5) (Ke4 : T5) (Ke3 : T5) (Ke2 : T4) (Kr : T0) : XPost
  | .normal, g, h => D8 Kn g h
  | .ret, g, h => D0 Kr g h
  | .exit id, g, h => cond (Nat.beq id 5) (D5 Ke5 g h) (cond (Nat.beq id 4) (D5 Ke4 g h) (cond (Nat.beq id 3) (D5 Ke3 g h) (cond (Nat.beq id 2) (D4 Ke2 g h) (False))))
  | _, _, _ => False
abbrev n26 (x0b : Option Addr) (x0n : Nat) (x0c : Nat) (x3b : Option Addr) (x3n : Nat) (x3c : Nat) (x5b : Option Addr) (x5n : Nat) (x5c : Nat) (x6 : Int) (x7 : Int) (x8 : Int) (x9 : Int) (Kn : T5) (Ke5 : T5) (Ke4 : T5) (Ke3 : T5) (Ke2 : T4) (Kr : T0) (h : H) : Prop :=
  (0 ≤ x6 ∧ x6 < (x3n : Int)) ∧ (vSome x3b fun a174 => ∃ i175, cell h ((a174.add (Int.toNat x6 * 3)).add 1) = some (.int .i64 i175) ∧ ((0 ≤ x6 ∧ x6 < (x3n : Int)) ∧ (vSome x3b fun a176 => stL ((a176.add (Int.toNat x6 * 3)).add 1) [(.int .i64 (IntKind.wrap .i64 (i175 - x8)))] 0 h fun h177 => n27 x0b x0n x0c x3b x3n x3c x5b x5n x5c x6 x7 x8 x9 Kn Ke5 Ke4 Ke3 Ke2 Kr h177)))
theorem n26_ok (x0b : Option Addr) (x0n : Nat) (x0c : Nat) (x3b : Option Addr) (x3n : Nat) (x3c : Nat) (x5b : Option Addr) (x5n : Nat) (x5c : Nat) (x6 : Int) (x7 : Int) (x8 : Int) (x9 : Int) (Kn : T5) (Ke5 : T5) (Ke4 : T5) (Ke3 : T5) (Ke2 : T4) (Kr : T0) (g : Env) (hg : E8 g x0b x0n x0c x3b x3n x3c x5b x5n x5c x6 x7 x8 x9) (h : H) (hS : n26 x0b x0n x0c x3b x3n x3c x5b x5n x5c x6 x7 x8 x9 Kn Ke5 Ke4 Ke3 Ke2 Kr h) : wpC none Tryd.prog 217 n25_c2 (Q6 Kn Ke5 Ke4 Ke3 Ke2 Kr) g h := by
  obtain ⟨hg0, hg3, hg5, hg6, hg7, hg8, hg9, hds⟩ := hg
  refine wpC_seq' (x := n26_c1) (y := n26_c2) (Q' := (Q11 (fun z0b z0n z0c z3b z3n z3c z5b z5n z5c z6 z7 z8 z9 h => n27 z0b z0n z0c z3b z3n z3c z5b z5n z5c z6 z7 z8 z9 Kn Ke5 Ke4 Ke3 Ke2 Kr h) Ke5 Ke4 Ke3 Ke2 Kr)) (by kernel_rfl) ?_ ?_
  · refine wpC_of_wpx (by kernel_rfl) (by kernel_rfl) (g' := (((((((⟨g.v, []⟩ : Env).upd (some 0) (.slice x0b x0n x0c)).upd (some 3) (.slice x3b x3n x3c)).upd (some 5) (.slice x5b x5n x5c)).upd (some 6) (.int .i64 x6)).upd (some 7) (.int .i64 x7)).upd (some 8) (.int .i64 x8)).upd (some 9) (.int .i64 x9)) (by rw [env_ds hds, upd_self hg0, upd_self hg3, upd_self hg5, upd_self hg6, upd_self hg7, upd_self hg8, upd_self hg9]) ?_
    have e : (n26 x0b x0n x0c x3b x3n x3c x5b x5n x5c x6 x7 x8 x9 Kn Ke5 Ke4 Ke3 Ke2 Kr h) = wpx none Tryd.prog 217 n26_c1 (Q11 (fun z0b z0n z0c z3b z3n z3c z5b z5n z5c z6 z7 z8 z9 h => n27 z0b z0n z0c z3b z3n z3c z5b z5n z5c z6 z7 z8 z9 Kn Ke5 Ke4 Ke3 Ke2 Kr h) Ke5 Ke4 Ke3 Ke2 Kr) ((((((((⟨g.v, []⟩ : Env).upd (some 0) (.slice x0b x0n x0c)).upd (some 3) (.slice x3b x3n x3c)).upd (some 5) (.slice x5b x5n x5c)).upd (some 6) (.int .i64 x6)).upd (some 7) (.int .i64 x7)).upd (some 8) (.int .i64 x8)).upd (some 9) (.int .i64 x9)) h := by kernel_rfl
    exact e ▸ hS
  · intro e g' h' hq
    cases e with
    | normal =>
      have hq : D8 (fun z0b z0n z0c z3b z3n z3c z5b z5n z5c z6 z7 z8 z9 h => n27 z0b z0n z0c z3b z3n z3c z5b z5n z5c z6 z7 z8 z9 Kn Ke5 Ke4 Ke3 Ke2 Kr h) g' h' := hq
      obtain ⟨y0b, y0n, y0c, y3b, y3n, y3c, y5b, y5n, y5c, y6, y7, y8, y9, hg', hq⟩ := D8_ok hq
      exact n27_ok y0b y0n y0c y3b y3n y3c y5b y5n y5c y6 y7 y8 y9 Kn Ke5 Ke4 Ke3 Ke2 Kr g' hg' h' hq
    | _ => exact hq
abbrev n25 (x0b : Option Addr) (x0n : Nat) (x0c : Nat) (x3b : Option Addr) (x3n : Nat) (x3c : Nat) (x5b : Option Addr) (x5n : Nat) (x5c : Nat) (x6 : Int) (x7 : Int) (x8 : Int) (x9 : Int) (Kn : T5) (Ke5 : T5) (Ke4 : T5) (Ke3 : T5) (Ke2 : T4) (Kr : T0) (h : H) : Prop :=
  (0 ≤ x6 ∧ x6 < (x3n : Int)) ∧ (vSome x3b fun a178 => ∃ i179, cell h ((a178.add (Int.toNat x6 * 3)).add 0) = some (.int .i64 i179) ∧ ((0 ≤ x6 ∧ x6 < (x3n : Int)) ∧ (vSome x3b fun a180 => stL ((a180.add (Int.toNat x6 * 3)).add 0) [(.int .i64 (IntKind.wrap .i64 (i179 + x8)))] 0 h fun h181 => n26 x0b x0n x0c x3b x3n x3c x5b x5n x5c x6 x7 x8 x9 Kn Ke5 Ke4 Ke3 Ke2 Kr h181)))
theorem n25_ok (x0b : Option Addr) (x0n : Nat) (x0c : Nat) (x3b : Option Addr) (x3n : Nat) (x3c : Nat) (x5b : Option Addr) (x5n : Nat) (x5c : Nat) (x6 : Int) (x7 : Int) (x8 : Int) (x9 : Int) (Kn : T5) (Ke5 : T5) (Ke4 : T5) (Ke3 : T5) (Ke2 : T4) (Kr : T0) (g : Env) (hg : E8 g x0b x0n x0c x3b x3n x3c x5b x5n x5c x6 x7 x8 x9) (h : H) (hS : n25 x0b x0n x0c x3b x3n x3c x5b x5n x5c x6 x7 x8 x9 Kn Ke5 Ke4 Ke3 Ke2 Kr h) : wpC none Tryd.prog 217 n24_c2 (Q6 Kn Ke5 Ke4 Ke3 Ke2 Kr) g h := by
  obtain ⟨hg0, hg3, hg5, hg6, hg7, hg8, hg9, hds⟩ := hg
  refine wpC_seq' (x := n25_c1) (y := n25_c2) (Q' := (Q11 (fun z0b z0n z0c z3b z3n z3c z5b z5n z5c z6 z7 z8 z9 h => n26 z0b z0n z0c z3b z3n z3c z5b z5n z5c z6 z7 z8 z9 Kn Ke5 Ke4 Ke3 Ke2 Kr h) Ke5 Ke4 Ke3 Ke2 Kr)) (by kernel_rfl) ?_ ?_
  · refine wpC_of_wpx (by kernel_rfl) (by kernel_rfl) (g' := (((((((⟨g.v, []⟩ : Env).upd (some 0) (.slice x0b x0n x0c)).upd (some 3) (.slice x3b x3n x3c)).upd (some 5) (.slice x5b x5n x5c)).upd (some 6) (.int .i64 x6)).upd (some 7) (.int .i64 x7)).upd (some 8) (.int .i64 x8)).upd (some 9) (.int .i64 x9)) (by rw [env_ds hds, upd_self hg0, upd_self hg3, upd_self hg5, upd_self hg6, upd_self hg7, upd_self hg8, upd_self hg9]) ?_
    have e : (n25 x0b x0n x0c x3b x3n x3c x5b x5n x5c x6 x7 x8 x9 Kn Ke5 Ke4 Ke3 Ke2 Kr h) = wpx none Tryd.prog 217 n25_c1 (Q11 (fun z0b z0n z0c z3b z3n z3c z5b z5n z5c z6 z7 z8 z9 h => n26 z0b z0n z0c z3b z3n z3c z5b z5n z5c z6 z7 z8 z9 Kn Ke5 Ke4 Ke3 Ke2 Kr h) Ke5 Ke4 Ke3 Ke2 Kr) ((((((((⟨g.v, []⟩ : Env).upd (some 0) (.slice x0b x0n x0c)).upd (some 3) (.slice x3b x3n x3c)).upd (some 5) (.slice x5b x5n x5c)).upd (some 6) (.int .i64 x6)).upd (some 7) (.int .i64 x7)).upd (some 8) (.int .i64 x8)).upd (some 9) (.int .i64 x9)) h := by kernel_rfl
    exact e ▸ hS
  · intro e g' h' hq
    cases e with
    | normal =>
      have hq : D8 (fun z0b z0n z0c z3b z3n z3c z5b z5n z5c z6 z7 z8 z9 h => n26 z0b z0n z0c z3b z3n z3c z5b z5n z5c z6 z7 z8 z9 Kn Ke5 Ke4 Ke3 Ke2 Kr h) g' h' := hq
      obtain ⟨y0b, y0n, y0c, y3b, y3n, y3c, y5b, y5n, y5c, y6, y7, y8, y9, hg', hq⟩ := D8_ok hq
      exact n26_ok y0b y0n y0c y3b y3n y3c y5b y5n y5c y6 y7 y8 y9 Kn Ke5 Ke4 Ke3 Ke2 Kr g' hg' h' hq
    | _ => exact hq
abbrev n24 (x0b : Option Addr) (x0n : Nat) (x0c : Nat) (x3b : Option Addr) (x3n : Nat) (x3c : Nat) (x5b : Option Addr) (x5n : Nat) (x5c : Nat) (x6 : Int) (x7 : Int) (x8 : Int) (x9 : Int) (Kn : T5) (Ke5 : T5) (Ke4 : T5) (Ke3 : T5) (Ke2 : T4) (Kr : T0) (h : H) : Prop :=
  (0 ≤ x7 ∧ x7 < (x3n : Int)) ∧ (vSome x3b fun a182 => ∃ i183, cell h ((a182.add (Int.toNat x7 * 3)).add 1) = some (.int .i64 i183) ∧ ((0 ≤ x7 ∧ x7 < (x3n : Int)) ∧ (vSome x3b fun a184 => stL ((a184.add (Int.toNat x7 * 3)).add 1) [(.int .i64 (IntKind.wrap .i64 (i183 - x8)))] 0 h fun h185 => n25 x0b x0n x0c x3b x3n x3c x5b x5n x5c x6 x7 x8 x9 Kn Ke5 Ke4 Ke3 Ke2 Kr h185)))
theorem n24_ok (x0b : Option Addr) (x0n : Nat) (x0c : Nat) (x3b : Option Addr) (x3n : Nat) (x3c : Nat) (x5b : Option Addr) (x5n : Nat) (x5c : Nat) (x6 : Int) (x7 : Int) (x8 : Int) (x9 : Int) (Kn : T5) (Ke5 : T5) (Ke4 : T5) (Ke3 : T5) (Ke2 : T4) (Kr : T0) (g : Env) (hg : E8 g x0b x0n x0c x3b x3n x3c x5b x5n x5c x6 x7 x8 x9) (h : H) (hS : n24 x0b x0n x0c x3b x3n x3c x5b x5n x5c x6 x7 x8 x9 Kn Ke5 Ke4 Ke3 Ke2 Kr h) : wpC none Tryd.prog 217 n23_c2 (Q6 Kn Ke5 Ke4 Ke3 Ke2 Kr) g h := by
  obtain ⟨hg0, hg3, hg5, hg6, hg7, hg8, hg9, hds⟩ := hg
  refine wpC_seq' (x := n24_c1) (y := n24_c2) (Q' := (Q11 (fun z0b z0n z0c z3b z3n z3c z5b z5n z5c z6 z7 z8 z9 h => n25 z0b z0n z0c z3b z3n z3c z5b z5n z5c z6 z7 z8 z9 Kn Ke5 Ke4 Ke3 Ke2 Kr h) Ke5 Ke4 Ke3 Ke2 Kr)) (by kernel_rfl) ?_ ?_
  · refine wpC_of_wpx (by kernel_rfl) (by kernel_rfl) (g' := (((((((⟨g.v, []⟩ : Env).upd (some 0) (.slice x0b x0n x0c)).upd (some 3) (.slice x3b x3n x3c)).upd (some 5) (.slice x5b x5n x5c)).upd (some 6) (.int .i64 x6)).upd (some 7) (.int .i64 x7)).upd (some 8) (.int .i64 x8)).upd (some 9) (.int .i64 x9)) (by rw [env_ds hds, upd_self hg0, upd_self hg3, upd_self hg5, upd_self hg6, upd_self hg7, upd_self hg8, upd_self hg9]) ?_
    have e : (n24 x0b x0n x0c x3b x3n x3c x5b x5n x5c x6 x7 x8 x9 Kn Ke5 Ke4 Ke3 Ke2 Kr h) = wpx none Tryd.prog 217 n24_c1 (Q11 (fun z0b z0n z0c z3b z3n z3c z5b z5n z5c z6 z7 z8 z9 h => n25 z0b z0n z0c z3b z3n z3c z5b z5n z5c z6 z7 z8 z9 Kn Ke5 Ke4 Ke3 Ke2 Kr h) Ke5 Ke4 Ke3 Ke2 Kr) ((((((((⟨g.v, []⟩ : Env).upd (some 0) (.slice x0b x0n x0c)).upd (some 3) (.slice x3b x3n x3c)).upd (some 5) (.slice x5b x5n x5c)).upd (some 6) (.int .i64 x6)).upd (some 7) (.int .i64 x7)).upd (some 8) (.int .i64 x8)).upd (some 9) (.int .i64 x9)) h := by kernel_rfl
    exact e ▸ hS
  · intro e g' h' hq
    cases e with
    | normal =>
      have hq : D8 (fun z0b z0n z0c z3b z3n z3c z5b z5n z5c z6 z7 z8 z9 h => n25 z0b z0n z0c z3b z3n z3c z5b z5n z5c z6 z7 z8 z9 Kn Ke5 Ke4 Ke3 Ke2 Kr h) g' h' := hq
      obtain ⟨y0b, y0n, y0c, y3b, y3n, y3c, y5b, y5n, y5c, y6, y7, y8, y9, hg', hq⟩ := D8_ok hq
      exact n25_ok y0b y0n y0c y3b y3n y3c y5b y5n y5c y6 y7 y8 y9 Kn Ke5 Ke4 Ke3 Ke2 Kr g' hg' h' hq
    | _ => exact hq
abbrev n23 (x0b : Option Addr) (x0n : Nat) (x0c : Nat) (x3b : Option Addr) (x3n : Nat) (x3c : Nat) (x5b : Option Addr) (x5n : Nat) (x5c : Nat) (x6 : Int) (x7 : Int) (x8 : Int) (Kn : T5) (Ke5 : T5) (Ke4 : T5) (Ke3 : T5) (Ke2 : T4) (Kr : T0) (h : H) : Prop :=
  (0 ≤ x7 ∧ x7 < (x0n : Int)) ∧ (vSome x0b fun a186 => ∃ i187, cell h ((a186.add (Int.toNat x7 * 5)).add 1) = some (.int .i64 i187) ∧ ((0 ≤ x7 ∧ x7 < (x3n : Int)) ∧ (vSome x3b fun a188 => ∃ i189, cell h ((a188.add (Int.toNat x7 * 3)).add 0) = some (.int .i64 i189) ∧ ((0 ≤ x7 ∧ x7 < (x3n : Int)) ∧ (vSome x3b fun a190 => ∃ i191, cell h ((a190.add (Int.toNat x7 * 3)).add 1) = some (.int .i64 i191) ∧ (n24 x0b x0n x0c x3b x3n x3c x5b x5n x5c x6 x7 x8 (IntKind.wrap .i64 ((IntKind.wrap .i64 ((IntKind.wrap .i64 (i187 + i189)) + i191)) - x8)) Kn Ke5 Ke4 Ke3 Ke2 Kr h))))))
theorem n23_ok (x0b : Option Addr) (x0n : Nat) (x0c : Nat) (x3b : Option Addr) (x3n : Nat) (x3c : Nat) (x5b : Option Addr) (x5n : Nat) (x5c : Nat) (x6 : Int) (x7 : Int) (x8 : Int) (Kn : T5) (Ke5 : T5) (Ke4 : T5) (Ke3 : T5) (Ke2 : T4) (Kr : T0) (g : Env) (hg : E7 g x0b x0n x0c x3b x3n x3c x5b x5n x5c x6 x7 x8) (h : H) (hS : n23 x0b x0n x0c x3b x3n x3c x5b x5n x5c x6 x7 x8 Kn Ke5 Ke4 Ke3 Ke2 Kr h) : wpC none Tryd.prog 217 n22_c2 (Q6 Kn Ke5 Ke4 Ke3 Ke2 Kr) g h := by
  obtain ⟨hg0, hg3, hg5, hg6, hg7, hg8, hds⟩ := hg
  refine wpC_seq' (x := n23_c1) (y := n23_c2) (Q' := (Q11 (fun z0b z0n z0c z3b z3n z3c z5b z5n z5c z6 z7 z8 z9 h => n24 z0b z0n z0c z3b z3n z3c z5b z5n z5c z6 z7 z8 z9 Kn Ke5 Ke4 Ke3 Ke2 Kr h) Ke5 Ke4 Ke3 Ke2 Kr)) (by kernel_rfl) ?_ ?_
  · refine wpC_of_wpx (by kernel_rfl) (by kernel_rfl) (g' := ((((((⟨g.v, []⟩ : Env).upd (some 0) (.slice x0b x0n x0c)).upd (some 3) (.slice x3b x3n x3c)).upd (some 5) (.slice x5b x5n x5c)).upd (some 6) (.int .i64 x6)).upd (some 7) (.int .i64 x7)).upd (some 8) (.int .i64 x8)) (by rw [env_ds hds, upd_self hg0, upd_self hg3, upd_self hg5, upd_self hg6, upd_self hg7, upd_self hg8]) ?_
    have e : (n23 x0b x0n x0c x3b x3n x3c x5b x5n x5c x6 x7 x8 Kn Ke5 Ke4 Ke3 Ke2 Kr h) = wpx none Tryd.prog 217 n23_c1 (Q11 (fun z0b z0n z0c z3b z3n z3c z5b z5n z5c z6 z7 z8 z9 h => n24 z0b z0n z0c z3b z3n z3c z5b z5n z5c z6 z7 z8 z9 Kn Ke5 Ke4 Ke3 Ke2 Kr h) Ke5 Ke4 Ke3 Ke2 Kr) (((((((⟨g.v, []⟩ : Env).upd (some 0) (.slice x0b x0n x0c)).upd (some 3) (.slice x3b x3n x3c)).upd (some 5) (.slice x5b x5n x5c)).upd (some 6) (.int .i64 x6)).upd (some 7) (.int .i64 x7)).upd (some 8) (.int .i64 x8)) h := by kernel_rfl
    exact e ▸ hS
  · intro e g' h' hq
    cases e with
    | normal =>
      have hq : D8 (fun z0b z0n z0c z3b z3n z3c z5b z5n z5c z6 z7 z8 z9 h => n24 z0b z0n z0c z3b z3n z3c z5b z5n z5c z6 z7 z8 z9 Kn Ke5 Ke4 Ke3 Ke2 Kr h) g' h' := hq
      obtain ⟨y0b, y0n, y0c, y3b, y3n, y3c, y5b, y5n, y5c, y6, y7, y8, y9, hg', hq⟩ := D8_ok hq
      exact n24_ok y0b y0n y0c y3b y3n y3c y5b y5n y5c y6 y7 y8 y9 Kn Ke5 Ke4 Ke3 Ke2 Kr g' hg' h' hq
    | _ => exact hq
def Q12 (Kn : T7) (Ke5 : T5) (Ke4 : T5) (Ke3 : T5) (Ke2 : T4) (Kr : T0) : XPost
  | .normal, g, h => D7 Kn g h
  | .ret, g, h => D0 Kr g h
  | .exit id, g, h => cond (Nat.beq id 5) (D5 Ke5 g h) (cond (Nat.beq id 4) (D5 Ke4 g h) (cond (Nat.beq id 3) (D5 Ke3 g h) (cond (Nat.beq id 2) (D4 Ke2 g h) (False))))
  | _, _, _ => False
abbrev n22 (x0b : Option Addr) (x0n : Nat) (x0c : Nat) (x3b : Option Addr) (x3n : Nat) (x3c : Nat) (x5b : Option Addr) (x5n : Nat) (x5c : Nat) (x6 : Int) (x7 : Int) (x8 : Int) (Kn : T5) (Ke5 : T5) (Ke4 : T5) (Ke3 : T5) (Ke2 : T4) (Kr : T0) (h : H) : Prop :=
  (0 ≤ x7 ∧ x7 < (x3n : Int)) ∧ (vSome x3b fun a192 => ∃ i193, cell h ((a192.add (Int.toNat x7 * 3)).add 1) = some (.int .i64 i193) ∧ (Spl (i193 ≥ (2 : Int)) ((0 ≤ x6 ∧ x6 < (x3n : Int)) ∧ (vSome x3b fun a194 => ∃ i195, cell h ((a194.add (Int.toNat x6 * 3)).add 1) = some (.int .i64 i195) ∧ (Spl (i195 ≥ (2 : Int)) (n23 x0b x0n x0c x3b x3n x3c x5b x5n x5c x6 x7 (2 : Int) Kn Ke5 Ke4 Ke3 Ke2 Kr h) (n23 x0b x0n x0c x3b x3n x3c x5b x5n x5c x6 x7 x8 Kn Ke5 Ke4 Ke3 Ke2 Kr h)))) (n23 x0b x0n x0c x3b x3n x3c x5b x5n x5c x6 x7 x8 Kn Ke5 Ke4 Ke3 Ke2 Kr h)))
theorem n22_ok (x0b : Option Addr) (x0n : Nat) (x0c : Nat) (x3b : Option Addr) (x3n : Nat) (x3c : Nat) (x5b : Option Addr) (x5n : Nat) (x5c : Nat) (x6 : Int) (x7 : Int) (x8 : Int) (Kn : T5) (Ke5 : T5) (Ke4 : T5) (Ke3 : T5) (Ke2 : T4) (Kr : T0) (g : Env) (hg : E7 g x0b x0n x0c x3b x3n x3c x5b x5n x5c x6 x7 x8) (h : H) (hS : n22 x0b x0n x0c x3b x3n x3c x5b x5n x5c x6 x7 x8 Kn Ke5 Ke4 Ke3 Ke2 Kr h) : wpC none Tryd.prog 217 n21_c2 (Q6 Kn Ke5 Ke4 Ke3 Ke2 Kr) g h := by
  obtain ⟨hg0, hg3, hg5, hg6, hg7, hg8, hds⟩ := hg
  refine wpC_seq' (x := n22_c1) (y := n22_c2) (Q' := (Q12 (fun z0b z0n z0c z3b z3n z3c z5b z5n z5c z6 z7 z8 h => n23 z0b z0n z0c z3b z3n z3c z5b z5n z5c z6 z7 z8 Kn Ke5 Ke4 Ke3 Ke2 Kr h) Ke5 Ke4 Ke3 Ke2 Kr)) (by kernel_rfl) ?_ ?_
  · refine wpC_of_wpx (by kernel_rfl) (by kernel_rfl) (g' := ((((((⟨g.v, []⟩ : Env).upd (some 0) (.slice x0b x0n x0c)).upd (some 3) (.slice x3b x3n x3c)).upd (some 5) (.slice x5b x5n x5c)).upd (some 6) (.int .i64 x6)).upd (some 7) (.int .i64 x7)).upd (some 8) (.int .i64 x8)) (by rw [env_ds hds, upd_self hg0, upd_self hg3, upd_self hg5, upd_self hg6, upd_self hg7, upd_self hg8]) ?_
    have e : (n22 x0b x0n x0c x3b x3n x3c x5b x5n x5c x6 x7 x8 Kn Ke5 Ke4 Ke3 Ke2 Kr h) = wpx none Tryd.prog 217 n22_c1 (Q12 (fun z0b z0n z0c z3b z3n z3c z5b z5n z5c z6 z7 z8 h => n23 z0b z0n z0c z3b z3n z3c z5b z5n z5c z6 z7 z8 Kn Ke5 Ke4 Ke3 Ke2 Kr h) Ke5 Ke4 Ke3 Ke2 Kr) (((((((⟨g.v, []⟩ : Env).upd (some 0) (.slice x0b x0n x0c)).upd (some 3) (.slice x3b x3n x3c)).upd (some 5) (.slice x5b x5n x5c)).upd (some 6) (.int .i64 x6)).upd (some 7) (.int .i64 x7)).upd (some 8) (.int .i64 x8)) h := by kernel_rfl
    exact e ▸ hS
  · intro e g' h' hq
    cases e with
    | normal =>
      have hq : D7 (fun z0b z0n z0c z3b z3n z3c z5b z5n z5c z6 z7 z8 h => n23 z0b z0n z0c z3b z3n z3c z5b z5n z5c z6 z7 z8 Kn Ke5 Ke4 Ke3 Ke2 Kr h) g' h' := hq
      obtain ⟨y0b, y0n, y0c, y3b, y3n, y3c, y5b, y5n, y5c, y6, y7, y8, hg', hq⟩ := D7_ok hq
      exact n23_ok y0b y0n y0c y3b y3n y3c y5b y5n y5c y6 y7 y8 Kn Ke5 Ke4 Ke3 Ke2 Kr g' hg' h' hq
    | _ => exact hq
abbrev n21 (x0b : Option Addr) (x0n : Nat) (x0c : Nat) (x3b : Option Addr) (x3n : Nat) (x3c : Nat) (x5b : Option Addr) (x5n : Nat) (x5c : Nat) (x6 : Int) (x7 : Int) (Kn : T5) (Ke5 : T5) (Ke4 : T5) (Ke3 : T5) (Ke2 : T4) (Kr : T0) (h : H) : Prop :=
  n22 x0b x0n x0c x3b x3n x3c x5b x5n x5c x6 x7 (1 : Int) Kn Ke5 Ke4 Ke3 Ke2 Kr h
theorem n21_ok (x0b : Option Addr) (x0n : Nat) (x0c : Nat) (x3b : Option Addr) (x3n : Nat) (x3c : Nat) (x5b : Option Addr) (x5n : Nat) (x5c : Nat) (x6 : Int) (x7 : Int) (Kn : T5) (Ke5 : T5) (Ke4 : T5) (Ke3 : T5) (Ke2 : T4) (Kr : T0) (g : Env) (hg : E6 g x0b x0n x0c x3b x3n x3c x5b x5n x5c x6 x7) (h : H) (hS : n21 x0b x0n x0c x3b x3n x3c x5b x5n x5c x6 x7 Kn Ke5 Ke4 Ke3 Ke2 Kr h) : wpC none Tryd.prog 217 n20_c2 (Q6 Kn Ke5 Ke4 Ke3 Ke2 Kr) g h := by
  obtain ⟨hg0, hg3, hg5, hg6, hg7, hds⟩ := hg
  refine wpC_seq' (x := n21_c1) (y := n21_c2) (Q' := (Q12 (fun z0b z0n z0c z3b z3n z3c z5b z5n z5c z6 z7 z8 h => n22 z0b z0n z0c z3b z3n z3c z5b z5n z5c z6 z7 z8 Kn Ke5 Ke4 Ke3 Ke2 Kr h) Ke5 Ke4 Ke3 Ke2 Kr)) (by kernel_rfl) ?_ ?_
  · refine wpC_of_wpx (by kernel_rfl) (by kernel_rfl) (g' := (((((⟨g.v, []⟩ : Env).upd (some 0) (.slice x0b x0n x0c)).upd (some 3) (.slice x3b x3n x3c)).upd (some 5) (.slice x5b x5n x5c)).upd (some 6) (.int .i64 x6)).upd (some 7) (.int .i64 x7)) (by rw [env_ds hds, upd_self hg0, upd_self hg3, upd_self hg5, upd_self hg6, upd_self hg7]) ?_
    have e : (n21 x0b x0n x0c x3b x3n x3c x5b x5n x5c x6 x7 Kn Ke5 Ke4 Ke3 Ke2 Kr h) = wpx none Tryd.prog 217 n21_c1 (Q12 (fun z0b z0n z0c z3b z3n z3c z5b z5n z5c z6 z7 z8 h => n22 z0b z0n z0c z3b z3n z3c z5b z5n z5c z6 z7 z8 Kn Ke5 Ke4 Ke3 Ke2 Kr h) Ke5 Ke4 Ke3 Ke2 Kr) ((((((⟨g.v, []⟩ : Env).upd (some 0) (.slice x0b x0n x0c)).upd (some 3) (.slice x3b x3n x3c)).upd (some 5) (.slice x5b x5n x5c)).upd (some 6) (.int .i64 x6)).upd (some 7) (.int .i64 x7)) h := by kernel_rfl
    exact e ▸ hS
  · intro e g' h' hq
    cases e with
    | normal =>
      have hq : D7 (fun z0b z0n z0c z3b z3n z3c z5b z5n z5c z6 z7 z8 h => n22 z0b z0n z0c z3b z3n z3c z5b z5n z5c z6 z7 z8 Kn Ke5 Ke4 Ke3 Ke2 Kr h) g' h' := hq
      obtain ⟨y0b, y0n, y0c, y3b, y3n, y3c, y5b, y5n, y5c, y6, y7, y8, hg', hq⟩ := D7_ok hq
      exact n22_ok y0b y0n y0c y3b y3n y3c y5b y5n y5c y6 y7 y8 Kn Ke5 Ke4 Ke3 Ke2 Kr g' hg' h' hq
    | _ => exact hq
abbrev n20 (x0b : Option Addr) (x0n : Nat) (x0c : Nat) (x3b : Option Addr) (x3n : Nat) (x3c : Nat) (x5b : Option Addr) (x5n : Nat) (x5c : Nat) (x6 : Int) (x7 : Int) (Kn : T5) (Ke5 : T5) (Ke4 : T5) (Ke3 : T5) (Ke2 : T4) (Kr : T0) (h : H) : Prop :=
  Spl (x7 < (0 : Int)) ((0 ≤ x6 ∧ x6 < (x0n : Int)) ∧ (vSome x0b fun a196 => ∃ b197, cell h ((a196.add (Int.toNat x6 * 5)).add 3) = some (.bool b197) ∧ (cond b197 ((0 ≤ x6 ∧ x6 < (x3n : Int)) ∧ (vSome x3b fun a198 => stL ((a198.add (Int.toNat x6 * 3)).add 2) [(.bool false)] 0 h fun h199 => Ke4 x0b x0n x0c x3b x3n x3c x5b x5n x5c x6 h199)) ((0 ≤ x6 ∧ x6 < (x3n : Int)) ∧ (vSome x3b fun a200 => stL ((a200.add (Int.toNat x6 * 3)).add 2) [(.bool true)] 0 h fun h201 => Ke4 x0b x0n x0c x3b x3n x3c x5b x5n x5c x6 h201))))) (n21 x0b x0n x0c x3b x3n x3c x5b x5n x5c x6 x7 Kn Ke5 Ke4 Ke3 Ke2 Kr h)
theorem n20_ok (x0b : Option Addr) (x0n : Nat) (x0c : Nat) (x3b : Option Addr) (x3n : Nat) (x3c : Nat) (x5b : Option Addr) (x5n : Nat) (x5c : Nat) (x6 : Int) (x7 : Int) (Kn : T5) (Ke5 : T5) (Ke4 : T5) (Ke3 : T5) (Ke2 : T4) (Kr : T0) (g : Env) (hg : E6 g x0b x0n x0c x3b x3n x3c x5b x5n x5c x6 x7) (h : H) (hS : n20 x0b x0n x0c x3b x3n x3c x5b x5n x5c x6 x7 Kn Ke5 Ke4 Ke3 Ke2 Kr h) : wpC none Tryd.prog 217 n19_c2 (Q6 Kn Ke5 Ke4 Ke3 Ke2 Kr) g h := by
  obtain ⟨hg0, hg3, hg5, hg6, hg7, hds⟩ := hg
  refine wpC_seq' (x := n20_c1) (y := n20_c2) (Q' := (Q7 (fun z0b z0n z0c z3b z3n z3c z5b z5n z5c z6 z7 h => n21 z0b z0n z0c z3b z3n z3c z5b z5n z5c z6 z7 Kn Ke5 Ke4 Ke3 Ke2 Kr h) Ke5 Ke4 Ke3 Ke2 Kr)) (by kernel_rfl) ?_ ?_
  · refine wpC_of_wpx (by kernel_rfl) (by kernel_rfl) (g' := (((((⟨g.v, []⟩ : Env).upd (some 0) (.slice x0b x0n x0c)).upd (some 3) (.slice x3b x3n x3c)).upd (some 5) (.slice x5b x5n x5c)).upd (some 6) (.int .i64 x6)).upd (some 7) (.int .i64 x7)) (by rw [env_ds hds, upd_self hg0, upd_self hg3, upd_self hg5, upd_self hg6, upd_self hg7]) ?_
    have e : (n20 x0b x0n x0c x3b x3n x3c x5b x5n x5c x6 x7 Kn Ke5 Ke4 Ke3 Ke2 Kr h) = wpx none Tryd.prog 217 n20_c1 (Q7 (fun z0b z0n z0c z3b z3n z3c z5b z5n z5c z6 z7 h => n21 z0b z0n z0c z3b z3n z3c z5b z5n z5c z6 z7 Kn Ke5 Ke4 Ke3 Ke2 Kr h) Ke5 Ke4 Ke3 Ke2 Kr) ((((((⟨g.v, []⟩ : Env).upd (some 0) (.slice x0b x0n x0c)).upd (some 3) (.slice x3b x3n x3c)).upd (some 5) (.slice x5b x5n x5c)).upd (some 6) (.int .i64 x6)).upd (some 7) (.int .i64 x7)) h := by kernel_rfl
    exact e ▸ hS
  · intro e g' h' hq
    cases e with
    | normal =>
      have hq : D6 (fun z0b z0n z0c z3b z3n z3c z5b z5n z5c z6 z7 h => n21 z0b z0n z0c z3b z3n z3c z5b z5n z5c z6 z7 Kn Ke5 Ke4 Ke3 Ke2 Kr h) g' h' := hq
      obtain ⟨y0b, y0n, y0c, y3b, y3n, y3c, y5b, y5n, y5c, y6, y7, hg', hq⟩ := D6_ok hq
      exact n21_ok y0b y0n y0c y3b y3n y3c y5b y5n y5c y6 y7 Kn Ke5 Ke4 Ke3 Ke2 Kr g' hg' h' hq
    | _ => exact hq
noncomputable def n33_c1 : Code := cFst n19_c1
def Q13 (Kn : T6) (Ke6 : T6) (Ke5 : T5) (Ke4 : T5) (Ke3 : T5) (Ke2 : T4) (Kr : T0) : XPost
  | .normal, g, h => D6 Kn g h
  | .ret, g, h => D0 Kr g h
  | .exit id, g, h => cond (Nat.beq id 6) (D6 Ke6 g h) (cond (Nat.beq id 5) (D5 Ke5 g h) (cond (Nat.beq id 4) (D5 Ke4 g h) (cond (Nat.beq id 3) (D5 Ke3 g h) (cond (Nat.beq id 2) (D4 Ke2 g h) (False)))))
  | _, _, _ => False
noncomputable def n34_c1 : Code := cFst n33_c1
def n34_L (Kn : T6) (Ke6 : T6) (Ke5 : T5) (Ke4 : T5) (Ke3 : T5) (Ke2 : T4) (Kr : T0) : Nat → (Option Addr) → Nat → Nat → (Option Addr) → Nat → Nat → (Option Addr) → Nat → Nat → Int → Int → H → Prop
  | 0 => fun _ _ _ _ _ _ _ _ _ _ _ _ => False
  | N + 1 => fun x0b x0n x0c x3b x3n x3c x5b x5n x5c x6 x7 h => Spl (x7 ≥ (0 : Int)) ((0 ≤ x7 ∧ x7 < (x3n : Int)) ∧ (vSome x3b fun a202 => ∃ b203, cell h ((a202.add (Int.toNat x7 * 3)).add 2) = some (.bool b203) ∧ (cond b203 (n34_L Kn Ke6 Ke5 Ke4 Ke3 Ke2 Kr N x0b x0n x0c x3b x3n x3c x5b x5n x5c x6 (IntKind.wrap .i64 (x7 - (1 : Int))) h) ((0 ≤ x7 ∧ x7 < (x0n : Int)) ∧ (vSome x0b fun a204 => ∃ i205, cell h ((a204.add (Int.toNat x7 * 5)).add 0) = some (.int .u8 i205) ∧ ((0 ≤ x6 ∧ x6 < (x0n : Int)) ∧ (vSome x0b fun a206 => ∃ i207, cell h ((a206.add (Int.toNat x6 * 5)).add 0) = some (.int .u8 i207) ∧ (Spl (i205 = i207) ((0 ≤ x7 ∧ x7 < (x0n : Int)) ∧ (vSome x0b fun a208 => ∃ b209, cell h ((a208.add (Int.toNat x7 * 5)).add 3) = some (.bool b209) ∧ (cond b209 ((0 ≤ x7 ∧ x7 < (x0n : Int)) ∧ (vSome x0b fun a210 => ∃ i211, cell h (((a210.add (Int.toNat x7 * 5))).add 0) = some (.int .u8 i211) ∧ (∃ i212, cell h (((a210.add (Int.toNat x7 * 5))).add 1) = some (.int .i64 i212) ∧ (∃ i213, cell h (((a210.add (Int.toNat x7 * 5))).add 2) = some (.int .i64 i213) ∧ (∃ b214, cell h (((a210.add (Int.toNat x7 * 5))).add 3) = some (.bool b214) ∧ (∃ b215, cell h (((a210.add (Int.toNat x7 * 5))).add 4) = some (.bool b215) ∧ ((0 ≤ x6 ∧ x6 < (x0n : Int)) ∧ (vSome x0b fun a216 => ∃ i217, cell h (((a216.add (Int.toNat x6 * 5))).add 0) = some (.int .u8 i217) ∧ (∃ i218, cell h (((a216.add (Int.toNat x6 * 5))).add 1) = some (.int .i64 i218) ∧ (∃ i219, cell h (((a216.add (Int.toNat x6 * 5))).add 2) = some (.int .i64 i219) ∧ (∃ b220, cell h (((a216.add (Int.toNat x6 * 5))).add 3) = some (.bool b220) ∧ (∃ b221, cell h (((a216.add (Int.toNat x6 * 5))).add 4) = some (.bool b221) ∧ (HCalls Tryd.prog 27 ⟨[(.agg ⟨[(.int .u8 i211), (.int .i64 i212), (.int .i64 i213), (.bool b214), (.bool b215)]⟩), (.agg ⟨[(.int .u8 i217), (.int .i64 i218), (.int .i64 i219), (.bool b220), (.bool b221)]⟩)]⟩ h fun v222 h223 => vBool v222 fun b224 => cond b224 (n34_L Kn Ke6 Ke5 Ke4 Ke3 Ke2 Kr N x0b x0n x0c x3b x3n x3c x5b x5n x5c x6 (IntKind.wrap .i64 (x7 - (1 : Int))) h223) (Ke6 x0b x0n x0c x3b x3n x3c x5b x5n x5c x6 x7 h223)))))))))))))) (n34_L Kn Ke6 Ke5 Ke4 Ke3 Ke2 Kr N x0b x0n x0c x3b x3n x3c x5b x5n x5c x6 (IntKind.wrap .i64 (x7 - (1 : Int))) h)))) (n34_L Kn Ke6 Ke5 Ke4 Ke3 Ke2 Kr N x0b x0n x0c x3b x3n x3c x5b x5n x5c x6 (IntKind.wrap .i64 (x7 - (1 : Int))) h))))))))) (Ke6 x0b x0n x0c x3b x3n x3c x5b x5n x5c x6 x7 h)
abbrev n34 (x0b : Option Addr) (x0n : Nat) (x0c : Nat) (x3b : Option Addr) (x3n : Nat) (x3c : Nat) (x5b : Option Addr) (x5n : Nat) (x5c : Nat) (x6 : Int) (x7 : Int) (Kn : T6) (Ke6 : T6) (Ke5 : T5) (Ke4 : T5) (Ke3 : T5) (Ke2 : T4) (Kr : T0) (h : H) : Prop := ∃ N, n34_L Kn Ke6 Ke5 Ke4 Ke3 Ke2 Kr N x0b x0n x0c x3b x3n x3c x5b x5n x5c x6 x7 h
theorem n34_ok (x0b : Option Addr) (x0n : Nat) (x0c : Nat) (x3b : Option Addr) (x3n : Nat) (x3c : Nat) (x5b : Option Addr) (x5n : Nat) (x5c : Nat) (x6 : Int) (x7 : Int) (Kn : T6) (Ke6 : T6) (Ke5 : T5) (Ke4 : T5) (Ke3 : T5) (Ke2 : T4) (Kr : T0) (g : Env) (hg : E6 g x0b x0n x0c x3b x3n x3c x5b x5n x5c x6 x7) (h : H) (hS : n34 x0b x0n x0c x3b x3n x3c x5b x5n x5c x6 x7 Kn Ke6 Ke5 Ke4 Ke3 Ke2 Kr h) : wpC none Tryd.prog 217 n33_c1 (Q13 Kn Ke6 Ke5 Ke4 Ke3 Ke2 Kr) g h := by
  obtain ⟨N0, hS⟩ := hS
  refine wpC_loop' (x := n34_c1) (by kernel_rfl) (fun k g h => ∃ (x0b : Option Addr) (x0n : Nat) (x0c : Nat) (x3b : Option Addr) (x3n : Nat) (x3c : Nat) (x5b : Option Addr) (x5n : Nat) (x5c : Nat) (x6 : Int) (x7 : Int), E6 g x0b x0n x0c x3b x3n x3c x5b x5n x5c x6 x7 ∧ n34_L Kn Ke6 Ke5 Ke4 Ke3 Ke2 Kr k x0b x0n x0c x3b x3n x3c x5b x5n x5c x6 x7 h) (fun g h hr => ?_) (fun N g h hr => ?_) N0 ⟨x0b, x0n, x0c, x3b, x3n, x3c, x5b, x5n, x5c, x6, x7, hg, hS⟩
  · obtain ⟨x0b, x0n, x0c, x3b, x3n, x3c, x5b, x5n, x5c, x6, x7, hg, hS⟩ := hr
    exact hS.elim
  · obtain ⟨x0b, x0n, x0c, x3b, x3n, x3c, x5b, x5n, x5c, x6, x7, hg, hS⟩ := hr
    have hw : wpC none Tryd.prog 217 n34_c1 (Q13 (fun z0b z0n z0c z3b z3n z3c z5b z5n z5c z6 z7 h => n34_L Kn Ke6 Ke5 Ke4 Ke3 Ke2 Kr N z0b z0n z0c z3b z3n z3c z5b z5n z5c z6 z7 h) Ke6 Ke5 Ke4 Ke3 Ke2 Kr) g h := by
      obtain ⟨hg0, hg3, hg5, hg6, hg7, hds⟩ := hg
      refine wpC_of_wpx (by kernel_rfl) (by kernel_rfl) (g' := (((((⟨g.v, []⟩ : Env).upd (some 0) (.slice x0b x0n x0c)).upd (some 3) (.slice x3b x3n x3c)).upd (some 5) (.slice x5b x5n x5c)).upd (some 6) (.int .i64 x6)).upd (some 7) (.int .i64 x7)) (by rw [env_ds hds, upd_self hg0, upd_self hg3, upd_self hg5, upd_self hg6, upd_self hg7]) ?_
      have e : (n34_L Kn Ke6 Ke5 Ke4 Ke3 Ke2 Kr (N + 1) x0b x0n x0c x3b x3n x3c x5b x5n x5c x6 x7 h) = wpx none Tryd.prog 217 n34_c1 (Q13 (fun z0b z0n z0c z3b z3n z3c z5b z5n z5c z6 z7 h => n34_L Kn Ke6 Ke5 Ke4 Ke3 Ke2 Kr N z0b z0n z0c z3b z3n z3c z5b z5n z5c z6 z7 h) Ke6 Ke5 Ke4 Ke3 Ke2 Kr) ((((((⟨g.v, []⟩ : Env).upd (some 0) (.slice x0b x0n x0c)).upd (some 3) (.slice x3b x3n x3c)).upd (some 5) (.slice x5b x5n x5c)).upd (some 6) (.int .i64 x6)).upd (some 7) (.int .i64 x7)) h := by kernel_rfl
      exact e ▸ hS
    refine hw.mono ?_
    intro e g' h' hq
    cases e with
    | normal => exact D6_ok (K := (fun z0b z0n z0c z3b z3n z3c z5b z5n z5c z6 z7 h => n34_L Kn Ke6 Ke5 Ke4 Ke3 Ke2 Kr N z0b z0n z0c z3b z3n z3c z5b z5n z5c z6 z7 h)) hq
    | _ => exact hq
abbrev n33 (x0b : Option Addr) (x0n : Nat) (x0c : Nat) (x3b : Option Addr) (x3n : Nat) (x3c : Nat) (x5b : Option Addr) (x5n : Nat) (x5c : Nat) (x6 : Int) (x7 : Int) (Kn : T6) (Ke5 : T5) (Ke4 : T5) (Ke3 : T5) (Ke2 : T4) (Kr : T0) (h : H) : Prop := n34 x0b x0n x0c x3b x3n x3c x5b x5n x5c x6 x7 Kn Kn Ke5 Ke4 Ke3 Ke2 Kr h
theorem n33_ok (x0b : Option Addr) (x0n : Nat) (x0c : Nat) (x3b : Option Addr) (x3n : Nat) (x3c : Nat) (x5b : Option Addr) (x5n : Nat) (x5c : Nat) (x6 : Int) (x7 : Int) (Kn : T6) (Ke5 : T5) (Ke4 : T5) (Ke3 : T5) (Ke2 : T4) (Kr : T0) (g : Env) (hg : E6 g x0b x0n x0c x3b x3n x3c x5b x5n x5c x6 x7) (h : H) (hS : n33 x0b x0n x0c x3b x3n x3c x5b x5n x5c x6 x7 Kn Ke5 Ke4 Ke3 Ke2 Kr h) : wpC none Tryd.prog 217 n19_c1 (Q7 Kn Ke5 Ke4 Ke3 Ke2 Kr) g h := by
  refine wpC_block' (id := 6) (x := n33_c1) (by kernel_rfl) (n34_ok x0b x0n x0c x3b x3n x3c x5b x5n x5c x6 x7 Kn Kn Ke5 Ke4 Ke3 Ke2 Kr g hg h hS) ?_
  intro e g' h' hq
  cases e <;> exact hq
abbrev n19 (x0b : Option Addr) (x0n : Nat) (x0c : Nat) (x3b : Option Addr) (x3n : Nat) (x3c : Nat) (x5b : Option Addr) (x5n : Nat) (x5c : Nat) (x6 : Int) (x7 : Int) (Kn : T5) (Ke5 : T5) (Ke4 : T5) (Ke3 : T5) (Ke2 : T4) (Kr : T0) (h : H) : Prop := n33 x0b x0n x0c x3b x3n x3c x5b x5n x5c x6 x7 (fun z0b z0n z0c z3b z3n z3c z5b z5n z5c z6 z7 h => n20 z0b z0n z0c z3b z3n z3c z5b z5n z5c z6 z7 Kn Ke5 Ke4 Ke3 Ke2 Kr h) Ke5 Ke4 Ke3 Ke2 Kr h
theorem n19_ok (x0b : Option Addr) (x0n : Nat) (x0c : Nat) (x3b : Option Addr) (x3n : Nat) (x3c : Nat) (x5b : Option Addr) (x5n : Nat) (x5c : Nat) (x6 : Int) (x7 : Int) (Kn : T5) (Ke5 : T5) (Ke4 : T5) (Ke3 : T5) (Ke2 : T4) (Kr : T0) (g : Env) (hg : E6 g x0b x0n x0c x3b x3n x3c x5b x5n x5c x6 x7) (h : H) (hS : n19 x0b x0n x0c x3b x3n x3c x5b x5n x5c x6 x7 Kn Ke5 Ke4 Ke3 Ke2 Kr h) : wpC none Tryd.prog 217 n18_c2 (Q6 Kn Ke5 Ke4 Ke3 Ke2 Kr) g h := by
  refine wpC_seq' (x := n19_c1) (y := n19_c2) (by kernel_rfl) (n33_ok x0b x0n x0c x3b x3n x3c x5b x5n x5c x6 x7 (fun z0b z0n z0c z3b z3n z3c z5b z5n z5c z6 z7 h => n20 z0b z0n z0c z3b z3n z3c z5b z5n z5c z6 z7 Kn Ke5 Ke4 Ke3 Ke2 Kr h) Ke5 Ke4 Ke3 Ke2 Kr g hg h hS) ?_
  intro e g' h' hq
  cases e with
  | normal =>
    have hq : D6 (fun z0b z0n z0c z3b z3n z3c z5b z5n z5c z6 z7 h => n20 z0b z0n z0c z3b z3n z3c z5b z5n z5c z6 z7 Kn Ke5 Ke4 Ke3 Ke2 Kr h) g' h' := hq
    obtain ⟨y0b, y0n, y0c, y3b, y3n, y3c, y5b, y5n, y5c, y6, y7, hg', hq⟩ := D6_ok hq
    exact n20_ok y0b y0n y0c y3b y3n y3c y5b y5n y5c y6 y7 Kn Ke5 Ke4 Ke3 Ke2 Kr g' hg' h' hq
  | _ => exact hq
abbrev n18 (x0b : Option Addr) (x0n : Nat) (x0c : Nat) (x3b : Option Addr) (x3n : Nat) (x3c : Nat) (x5b : Option Addr) (x5n : Nat) (x5c : Nat) (x6 : Int) (Kn : T5) (Ke5 : T5) (Ke4 : T5) (Ke3 : T5) (Ke2 : T4) (Kr : T0) (h : H) : Prop :=
  n19 x0b x0n x0c x3b x3n x3c x5b x5n x5c x6 (IntKind.wrap .i64 (x6 - (1 : Int))) Kn Ke5 Ke4 Ke3 Ke2 Kr h
theorem n18_ok (x0b : Option Addr) (x0n : Nat) (x0c : Nat) (x3b : Option Addr) (x3n : Nat) (x3c : Nat) (x5b : Option Addr) (x5n : Nat) (x5c : Nat) (x6 : Int) (Kn : T5) (Ke5 : T5) (Ke4 : T5) (Ke3 : T5) (Ke2 : T4) (Kr : T0) (g : Env) (hg : E5 g x0b x0n x0c x3b x3n x3c x5b x5n x5c x6) (h : H) (hS : n18 x0b x0n x0c x3b x3n x3c x5b x5n x5c x6 Kn Ke5 Ke4 Ke3 Ke2 Kr h) : wpC none Tryd.prog 217 n17_c1 (Q6 Kn Ke5 Ke4 Ke3 Ke2 Kr) g h := by
  obtain ⟨hg0, hg3, hg5, hg6, hds⟩ := hg
  refine wpC_seq' (x := n18_c1) (y := n18_c2) (Q' := (Q7 (fun z0b z0n z0c z3b z3n z3c z5b z5n z5c z6 z7 h => n19 z0b z0n z0c z3b z3n z3c z5b z5n z5c z6 z7 Kn Ke5 Ke4 Ke3 Ke2 Kr h) Ke5 Ke4 Ke3 Ke2 Kr)) (by kernel_rfl) ?_ ?_
  · refine wpC_of_wpx (by kernel_rfl) (by kernel_rfl) (g' := ((((⟨g.v, []⟩ : Env).upd (some 0) (.slice x0b x0n x0c)).upd (some 3) (.slice x3b x3n x3c)).upd (some 5) (.slice x5b x5n x5c)).upd (some 6) (.int .i64 x6)) (by rw [env_ds hds, upd_self hg0, upd_self hg3, upd_self hg5, upd_self hg6]) ?_
    have e : (n18 x0b x0n x0c x3b x3n x3c x5b x5n x5c x6 Kn Ke5 Ke4 Ke3 Ke2 Kr h) = wpx none Tryd.prog 217 n18_c1 (Q7 (fun z0b z0n z0c z3b z3n z3c z5b z5n z5c z6 z7 h => n19 z0b z0n z0c z3b z3n z3c z5b z5n z5c z6 z7 Kn Ke5 Ke4 Ke3 Ke2 Kr h) Ke5 Ke4 Ke3 Ke2 Kr) (((((⟨g.v, []⟩ : Env).upd (some 0) (.slice x0b x0n x0c)).upd (some 3) (.slice x3b x3n x3c)).upd (some 5) (.slice x5b x5n x5c)).upd (some 6) (.int .i64 x6)) h := by kernel_rfl
    exact e ▸ hS
  · intro e g' h' hq
    cases e with
    | normal =>
      have hq : D6 (fun z0b z0n z0c z3b z3n z3c z5b z5n z5c z6 z7 h => n19 z0b z0n z0c z3b z3n z3c z5b z5n z5c z6 z7 Kn Ke5 Ke4 Ke3 Ke2 Kr h) g' h' := hq
      obtain ⟨y0b, y0n, y0c, y3b, y3n, y3c, y5b, y5n, y5c, y6, y7, hg', hq⟩ := D6_ok hq
      exact n19_ok y0b y0n y0c y3b y3n y3c y5b y5n y5c y6 y7 Kn Ke5 Ke4 Ke3 Ke2 Kr g' hg' h' hq
    | _ => exact hq
abbrev n17 (x0b : Option Addr) (x0n : Nat) (x0c : Nat) (x3b : Option Addr) (x3n : Nat) (x3c : Nat) (x5b : Option Addr) (x5n : Nat) (x5c : Nat) (x6 : Int) (Kn : T5) (Ke4 : T5) (Ke3 : T5) (Ke2 : T4) (Kr : T0) (h : H) : Prop := n18 x0b x0n x0c x3b x3n x3c x5b x5n x5c x6 Kn Kn Ke4 Ke3 Ke2 Kr h
theorem n17_ok (x0b : Option Addr) (x0n : Nat) (x0c : Nat) (x3b : Option Addr) (x3n : Nat) (x3c : Nat) (x5b : Option Addr) (x5n : Nat) (x5c : Nat) (x6 : Int) (Kn : T5) (Ke4 : T5) (Ke3 : T5) (Ke2 : T4) (Kr : T0) (g : Env) (hg : E5 g x0b x0n x0c x3b x3n x3c x5b x5n x5c x6) (h : H) (hS : n17 x0b x0n x0c x3b x3n x3c x5b x5n x5c x6 Kn Ke4 Ke3 Ke2 Kr h) : wpC none Tryd.prog 217 n16_c2 (Q5 Kn Ke4 Ke3 Ke2 Kr) g h := by
  refine wpC_block' (id := 5) (x := n17_c1) (by kernel_rfl) (n18_ok x0b x0n x0c x3b x3n x3c x5b x5n x5c x6 Kn Kn Ke4 Ke3 Ke2 Kr g hg h hS) ?_
  intro e g' h' hq
  cases e <;> exact hq
abbrev n16 (x0b : Option Addr) (x0n : Nat) (x0c : Nat) (x3b : Option Addr) (x3n : Nat) (x3c : Nat) (x5b : Option Addr) (x5n : Nat) (x5c : Nat) (x6 : Int) (Kn : T5) (Ke4 : T5) (Ke3 : T5) (Ke2 : T4) (Kr : T0) (h : H) : Prop :=
  (0 ≤ x6 ∧ x6 < (x0n : Int)) ∧ (vSome x0b fun a225 => ∃ b226, cell h ((a225.add (Int.toNat x6 * 5)).add 4) = some (.bool b226) ∧ (cond b226 ((0 ≤ x6 ∧ x6 < (x3n : Int)) ∧ (vSome x3b fun a227 => ∃ b228, cell h ((a227.add (Int.toNat x6 * 3)).add 2) = some (.bool b228) ∧ (cond b228 (Ke4 x0b x0n x0c x3b x3n x3c x5b x5n x5c x6 h) (n17 x0b x0n x0c x3b x3n x3c x5b x5n x5c x6 Kn Ke4 Ke3 Ke2 Kr h)))) (Ke4 x0b x0n x0c x3b x3n x3c x5b x5n x5c x6 h)))
theorem n16_ok (x0b : Option Addr) (x0n : Nat) (x0c : Nat) (x3b : Option Addr) (x3n : Nat) (x3c : Nat) (x5b : Option Addr) (x5n : Nat) (x5c : Nat) (x6 : Int) (Kn : T5) (Ke4 : T5) (Ke3 : T5) (Ke2 : T4) (Kr : T0) (g : Env) (hg : E5 g x0b x0n x0c x3b x3n x3c x5b x5n x5c x6) (h : H) (hS : n16 x0b x0n x0c x3b x3n x3c x5b x5n x5c x6 Kn Ke4 Ke3 Ke2 Kr h) : wpC none Tryd.prog 217 n15_c1 (Q5 Kn Ke4 Ke3 Ke2 Kr) g h := by
  obtain ⟨hg0, hg3, hg5, hg6, hds⟩ := hg
  refine wpC_seq' (x := n16_c1) (y := n16_c2) (Q' := (Q5 (fun z0b z0n z0c z3b z3n z3c z5b z5n z5c z6 h => n17 z0b z0n z0c z3b z3n z3c z5b z5n z5c z6 Kn Ke4 Ke3 Ke2 Kr h) Ke4 Ke3 Ke2 Kr)) (by kernel_rfl) ?_ ?_
  · refine wpC_of_wpx (by kernel_rfl) (by kernel_rfl) (g' := ((((⟨g.v, []⟩ : Env).upd (some 0) (.slice x0b x0n x0c)).upd (some 3) (.slice x3b x3n x3c)).upd (some 5) (.slice x5b x5n x5c)).upd (some 6) (.int .i64 x6)) (by rw [env_ds hds, upd_self hg0, upd_self hg3, upd_self hg5, upd_self hg6]) ?_
    have e : (n16 x0b x0n x0c x3b x3n x3c x5b x5n x5c x6 Kn Ke4 Ke3 Ke2 Kr h) = wpx none Tryd.prog 217 n16_c1 (Q5 (fun z0b z0n z0c z3b z3n z3c z5b z5n z5c z6 h => n17 z0b z0n z0c z3b z3n z3c z5b z5n z5c z6 Kn Ke4 Ke3 Ke2 Kr h) Ke4 Ke3 Ke2 Kr) (((((⟨g.v, []⟩ : Env).upd (some 0) (.slice x0b x0n x0c)).upd (some 3) (.slice x3b x3n x3c)).upd (some 5) (.slice x5b x5n x5c)).upd (some 6) (.int .i64 x6)) h := by kernel_rfl
    exact e ▸ hS
  · intro e g' h' hq
    cases e with
    | normal =>
      have hq : D5 (fun z0b z0n z0c z3b z3n z3c z5b z5n z5c z6 h => n17 z0b z0n z0c z3b z3n z3c z5b z5n z5c z6 Kn Ke4 Ke3 Ke2 Kr h) g' h' := hq
      obtain ⟨y0b, y0n, y0c, y3b, y3n, y3c, y5b, y5n, y5c, y6, hg', hq⟩ := D5_ok hq
      exact n17_ok y0b y0n y0c y3b y3n y3c y5b y5n y5c y6 Kn Ke4 Ke3 Ke2 Kr g' hg' h' hq
    | _ => exact hq
def n15_L (Kn : T5) (Ke4 : T5) (Ke3 : T5) (Ke2 : T4) (Kr : T0) : Nat → (Option Addr) → Nat → Nat → (Option Addr) → Nat → Nat → (Option Addr) → Nat → Nat → Int → H → Prop
  | 0 => fun _ _ _ _ _ _ _ _ _ _ _ => False
  | N + 1 => fun x0b x0n x0c x3b x3n x3c x5b x5n x5c x6 h => n16 x0b x0n x0c x3b x3n x3c x5b x5n x5c x6 (fun z0b z0n z0c z3b z3n z3c z5b z5n z5c z6 h => n15_L Kn Ke4 Ke3 Ke2 Kr N z0b z0n z0c z3b z3n z3c z5b z5n z5c z6 h) Ke4 Ke3 Ke2 Kr h
abbrev n15 (x0b : Option Addr) (x0n : Nat) (x0c : Nat) (x3b : Option Addr) (x3n : Nat) (x3c : Nat) (x5b : Option Addr) (x5n : Nat) (x5c : Nat) (x6 : Int) (Kn : T5) (Ke4 : T5) (Ke3 : T5) (Ke2 : T4) (Kr : T0) (h : H) : Prop := ∃ N, n15_L Kn Ke4 Ke3 Ke2 Kr N x0b x0n x0c x3b x3n x3c x5b x5n x5c x6 h
theorem n15_ok (x0b : Option Addr) (x0n : Nat) (x0c : Nat) (x3b : Option Addr) (x3n : Nat) (x3c : Nat) (x5b : Option Addr) (x5n : Nat) (x5c : Nat) (x6 : Int) (Kn : T5) (Ke4 : T5) (Ke3 : T5) (Ke2 : T4) (Kr : T0) (g : Env) (hg : E5 g x0b x0n x0c x3b x3n x3c x5b x5n x5c x6) (h : H) (hS : n15 x0b x0n x0c x3b x3n x3c x5b x5n x5c x6 Kn Ke4 Ke3 Ke2 Kr h) : wpC none Tryd.prog 217 n14_c1 (Q5 Kn Ke4 Ke3 Ke2 Kr) g h := by
  obtain ⟨N0, hS⟩ := hS
  refine wpC_loop' (x := n15_c1) (by kernel_rfl) (fun k g h => ∃ (x0b : Option Addr) (x0n : Nat) (x0c : Nat) (x3b : Option Addr) (x3n : Nat) (x3c : Nat) (x5b : Option Addr) (x5n : Nat) (x5c : Nat) (x6 : Int), E5 g x0b x0n x0c x3b x3n x3c x5b x5n x5c x6 ∧ n15_L Kn Ke4 Ke3 Ke2 Kr k x0b x0n x0c x3b x3n x3c x5b x5n x5c x6 h) (fun g h hr => ?_) (fun N g h hr => ?_) N0 ⟨x0b, x0n, x0c, x3b, x3n, x3c, x5b, x5n, x5c, x6, hg, hS⟩
  · obtain ⟨x0b, x0n, x0c, x3b, x3n, x3c, x5b, x5n, x5c, x6, hg, hS⟩ := hr
    exact hS.elim
  · obtain ⟨x0b, x0n, x0c, x3b, x3n, x3c, x5b, x5n, x5c, x6, hg, hS⟩ := hr
    refine (n16_ok x0b x0n x0c x3b x3n x3c x5b x5n x5c x6 (fun z0b z0n z0c z3b z3n z3c z5b z5n z5c z6 h => n15_L Kn Ke4 Ke3 Ke2 Kr N z0b z0n z0c z3b z3n z3c z5b z5n z5c z6 h) Ke4 Ke3 Ke2 Kr g hg h hS).mono ?_
    intro e g' h' hq
    cases e with
    | normal => exact D5_ok (K := (fun z0b z0n z0c z3b z3n z3c z5b z5n z5c z6 h => n15_L Kn Ke4 Ke3 Ke2 Kr N z0b z0n z0c z3b z3n z3c z5b z5n z5c z6 h)) hq
    | _ => exact hq
abbrev n14 (x0b : Option Addr) (x0n : Nat) (x0c : Nat) (x3b : Option Addr) (x3n : Nat) (x3c : Nat) (x5b : Option Addr) (x5n : Nat) (x5c : Nat) (x6 : Int) (Kn : T5) (Ke3 : T5) (Ke2 : T4) (Kr : T0) (h : H) : Prop := n15 x0b x0n x0c x3b x3n x3c x5b x5n x5c x6 Kn Kn Ke3 Ke2 Kr h
theorem n14_ok (x0b : Option Addr) (x0n : Nat) (x0c : Nat) (x3b : Option Addr) (x3n : Nat) (x3c : Nat) (x5b : Option Addr) (x5n : Nat) (x5c : Nat) (x6 : Int) (Kn : T5) (Ke3 : T5) (Ke2 : T4) (Kr : T0) (g : Env) (hg : E5 g x0b x0n x0c x3b x3n x3c x5b x5n x5c x6) (h : H) (hS : n14 x0b x0n x0c x3b x3n x3c x5b x5n x5c x6 Kn Ke3 Ke2 Kr h) : wpC none Tryd.prog 217 n13_c1 (Q4 Kn Ke3 Ke2 Kr) g h := by
  refine wpC_block' (id := 4) (x := n14_c1) (by kernel_rfl) (n15_ok x0b x0n x0c x3b x3n x3c x5b x5n x5c x6 Kn Kn Ke3 Ke2 Kr g hg h hS) ?_
  intro e g' h' hq
  cases e <;> exact hq
abbrev n13 (x0b : Option Addr) (x0n : Nat) (x0c : Nat) (x3b : Option Addr) (x3n : Nat) (x3c : Nat) (x5b : Option Addr) (x5n : Nat) (x5c : Nat) (x6 : Int) (Kn : T5) (Ke2 : T4) (Kr : T0) (h : H) : Prop := n14 x0b x0n x0c x3b x3n x3c x5b x5n x5c x6 Kn Kn Ke2 Kr h
theorem n13_ok (x0b : Option Addr) (x0n : Nat) (x0c : Nat) (x3b : Option Addr) (x3n : Nat) (x3c : Nat) (x5b : Option Addr) (x5n : Nat) (x5c : Nat) (x6 : Int) (Kn : T5) (Ke2 : T4) (Kr : T0) (g : Env) (hg : E5 g x0b x0n x0c x3b x3n x3c x5b x5n x5c x6) (h : H) (hS : n13 x0b x0n x0c x3b x3n x3c x5b x5n x5c x6 Kn Ke2 Kr h) : wpC none Tryd.prog 217 n11_c1 (Q3 Kn Ke2 Kr) g h := by
  refine wpC_block' (id := 3) (x := n13_c1) (by kernel_rfl) (n14_ok x0b x0n x0c x3b x3n x3c x5b x5n x5c x6 Kn Kn Ke2 Kr g hg h hS) ?_
  intro e g' h' hq
  cases e <;> exact hq
abbrev n11 (x0b : Option Addr) (x0n : Nat) (x0c : Nat) (x3b : Option Addr) (x3n : Nat) (x3c : Nat) (x5b : Option Addr) (x5n : Nat) (x5c : Nat) (x6 : Int) (Kn : T5) (Ke2 : T4) (Kr : T0) (h : H) : Prop := n13 x0b x0n x0c x3b x3n x3c x5b x5n x5c x6 (fun z0b z0n z0c z3b z3n z3c z5b z5n z5c z6 h => n12 z0b z0n z0c z3b z3n z3c z5b z5n z5c z6 Kn Ke2 Kr h) Ke2 Kr h
theorem n11_ok (x0b : Option Addr) (x0n : Nat) (x0c : Nat) (x3b : Option Addr) (x3n : Nat) (x3c : Nat) (x5b : Option Addr) (x5n : Nat) (x5c : Nat) (x6 : Int) (Kn : T5) (Ke2 : T4) (Kr : T0) (g : Env) (hg : E5 g x0b x0n x0c x3b x3n x3c x5b x5n x5c x6) (h : H) (hS : n11 x0b x0n x0c x3b x3n x3c x5b x5n x5c x6 Kn Ke2 Kr h) : wpC none Tryd.prog 217 n10_c2 (Q3 Kn Ke2 Kr) g h := by
  refine wpC_seq' (x := n11_c1) (y := n11_c2) (by kernel_rfl) (n13_ok x0b x0n x0c x3b x3n x3c x5b x5n x5c x6 (fun z0b z0n z0c z3b z3n z3c z5b z5n z5c z6 h => n12 z0b z0n z0c z3b z3n z3c z5b z5n z5c z6 Kn Ke2 Kr h) Ke2 Kr g hg h hS) ?_
  intro e g' h' hq
  cases e with
  | normal =>
    have hq : D5 (fun z0b z0n z0c z3b z3n z3c z5b z5n z5c z6 h => n12 z0b z0n z0c z3b z3n z3c z5b z5n z5c z6 Kn Ke2 Kr h) g' h' := hq
    obtain ⟨y0b, y0n, y0c, y3b, y3n, y3c, y5b, y5n, y5c, y6, hg', hq⟩ := D5_ok hq
    exact n12_ok y0b y0n y0c y3b y3n y3c y5b y5n y5c y6 Kn Ke2 Kr g' hg' h' hq
  | _ => exact hq
abbrev n10 (x0b : Option Addr) (x0n : Nat) (x0c : Nat) (x3b : Option Addr) (x3n : Nat) (x3c : Nat) (x5b : Option Addr) (x5n : Nat) (x5c : Nat) (x6 : Int) (Kn : T5) (Ke2 : T4) (Kr : T0) (h : H) : Prop :=
  Spl (x6 < (x0n : Int)) (n11 x0b x0n x0c x3b x3n x3c x5b x5n x5c x6 Kn Ke2 Kr h) (Ke2 x5b x5n x5c h)
theorem n10_ok (x0b : Option Addr) (x0n : Nat) (x0c : Nat) (x3b : Option Addr) (x3n : Nat) (x3c : Nat) (x5b : Option Addr) (x5n : Nat) (x5c : Nat) (x6 : Int) (Kn : T5) (Ke2 : T4) (Kr : T0) (g : Env) (hg : E5 g x0b x0n x0c x3b x3n x3c x5b x5n x5c x6) (h : H) (hS : n10 x0b x0n x0c x3b x3n x3c x5b x5n x5c x6 Kn Ke2 Kr h) : wpC none Tryd.prog 217 n9_c1 (Q3 Kn Ke2 Kr) g h := by
  obtain ⟨hg0, hg3, hg5, hg6, hds⟩ := hg
  refine wpC_seq' (x := n10_c1) (y := n10_c2) (Q' := (Q3 (fun z0b z0n z0c z3b z3n z3c z5b z5n z5c z6 h => n11 z0b z0n z0c z3b z3n z3c z5b z5n z5c z6 Kn Ke2 Kr h) Ke2 Kr)) (by kernel_rfl) ?_ ?_
  · refine wpC_of_wpx (by kernel_rfl) (by kernel_rfl) (g' := ((((⟨g.v, []⟩ : Env).upd (some 0) (.slice x0b x0n x0c)).upd (some 3) (.slice x3b x3n x3c)).upd (some 5) (.slice x5b x5n x5c)).upd (some 6) (.int .i64 x6)) (by rw [env_ds hds, upd_self hg0, upd_self hg3, upd_self hg5, upd_self hg6]) ?_
    have e : (n10 x0b x0n x0c x3b x3n x3c x5b x5n x5c x6 Kn Ke2 Kr h) = wpx none Tryd.prog 217 n10_c1 (Q3 (fun z0b z0n z0c z3b z3n z3c z5b z5n z5c z6 h => n11 z0b z0n z0c z3b z3n z3c z5b z5n z5c z6 Kn Ke2 Kr h) Ke2 Kr) (((((⟨g.v, []⟩ : Env).upd (some 0) (.slice x0b x0n x0c)).upd (some 3) (.slice x3b x3n x3c)).upd (some 5) (.slice x5b x5n x5c)).upd (some 6) (.int .i64 x6)) h := by kernel_rfl
    exact e ▸ hS
  · intro e g' h' hq
    cases e with
    | normal =>
      have hq : D5 (fun z0b z0n z0c z3b z3n z3c z5b z5n z5c z6 h => n11 z0b z0n z0c z3b z3n z3c z5b z5n z5c z6 Kn Ke2 Kr h) g' h' := hq
      obtain ⟨y0b, y0n, y0c, y3b, y3n, y3c, y5b, y5n, y5c, y6, hg', hq⟩ := D5_ok hq
      exact n11_ok y0b y0n y0c y3b y3n y3c y5b y5n y5c y6 Kn Ke2 Kr g' hg' h' hq
    | _ => exact hq
def n9_L (Kn : T4) (Ke2 : T4) (Kr : T0) : Nat → (Option Addr) → Nat → Nat → (Option Addr) → Nat → Nat → (Option Addr) → Nat → Nat → Int → H → Prop
  | 0 => fun _ _ _ _ _ _ _ _ _ _ _ => False
  | N + 1 => fun x0b x0n x0c x3b x3n x3c x5b x5n x5c x6 h => n10 x0b x0n x0c x3b x3n x3c x5b x5n x5c x6 (fun z0b z0n z0c z3b z3n z3c z5b z5n z5c z6 h => n9_L Kn Ke2 Kr N z0b z0n z0c z3b z3n z3c z5b z5n z5c z6 h) Ke2 Kr h
abbrev n9 (x0b : Option Addr) (x0n : Nat) (x0c : Nat) (x3b : Option Addr) (x3n : Nat) (x3c : Nat) (x5b : Option Addr) (x5n : Nat) (x5c : Nat) (x6 : Int) (Kn : T4) (Ke2 : T4) (Kr : T0) (h : H) : Prop := ∃ N, n9_L Kn Ke2 Kr N x0b x0n x0c x3b x3n x3c x5b x5n x5c x6 h
theorem n9_ok (x0b : Option Addr) (x0n : Nat) (x0c : Nat) (x3b : Option Addr) (x3n : Nat) (x3c : Nat) (x5b : Option Addr) (x5n : Nat) (x5c : Nat) (x6 : Int) (Kn : T4) (Ke2 : T4) (Kr : T0) (g : Env) (hg : E5 g x0b x0n x0c x3b x3n x3c x5b x5n x5c x6) (h : H) (hS : n9 x0b x0n x0c x3b x3n x3c x5b x5n x5c x6 Kn Ke2 Kr h) : wpC none Tryd.prog 217 n8_c1 (Q2 Kn Ke2 Kr) g h := by
  obtain ⟨N0, hS⟩ := hS
  refine wpC_loop' (x := n9_c1) (by kernel_rfl) (fun k g h => ∃ (x0b : Option Addr) (x0n : Nat) (x0c : Nat) (x3b : Option Addr) (x3n : Nat) (x3c : Nat) (x5b : Option Addr) (x5n : Nat) (x5c : Nat) (x6 : Int), E5 g x0b x0n x0c x3b x3n x3c x5b x5n x5c x6 ∧ n9_L Kn Ke2 Kr k x0b x0n x0c x3b x3n x3c x5b x5n x5c x6 h) (fun g h hr => ?_) (fun N g h hr => ?_) N0 ⟨x0b, x0n, x0c, x3b, x3n, x3c, x5b, x5n, x5c, x6, hg, hS⟩
  · obtain ⟨x0b, x0n, x0c, x3b, x3n, x3c, x5b, x5n, x5c, x6, hg, hS⟩ := hr
    exact hS.elim
  · obtain ⟨x0b, x0n, x0c, x3b, x3n, x3c, x5b, x5n, x5c, x6, hg, hS⟩ := hr
    refine (n10_ok x0b x0n x0c x3b x3n x3c x5b x5n x5c x6 (fun z0b z0n z0c z3b z3n z3c z5b z5n z5c z6 h => n9_L Kn Ke2 Kr N z0b z0n z0c z3b z3n z3c z5b z5n z5c z6 h) Ke2 Kr g hg h hS).mono ?_
    intro e g' h' hq
    cases e with
    | normal => exact D5_ok (K := (fun z0b z0n z0c z3b z3n z3c z5b z5n z5c z6 h => n9_L Kn Ke2 Kr N z0b z0n z0c z3b z3n z3c z5b z5n z5c z6 h)) hq
    | _ => exact hq
abbrev n8 (x0b : Option Addr) (x0n : Nat) (x0c : Nat) (x3b : Option Addr) (x3n : Nat) (x3c : Nat) (x5b : Option Addr) (x5n : Nat) (x5c : Nat) (x6 : Int) (Kn : T4) (Kr : T0) (h : H) : Prop := n9 x0b x0n x0c x3b x3n x3c x5b x5n x5c x6 Kn Kn Kr h
theorem n8_ok (x0b : Option Addr) (x0n : Nat) (x0c : Nat) (x3b : Option Addr) (x3n : Nat) (x3c : Nat) (x5b : Option Addr) (x5n : Nat) (x5c : Nat) (x6 : Int) (Kn : T4) (Kr : T0) (g : Env) (hg : E5 g x0b x0n x0c x3b x3n x3c x5b x5n x5c x6) (h : H) (hS : n8 x0b x0n x0c x3b x3n x3c x5b x5n x5c x6 Kn Kr h) : wpC none Tryd.prog 217 n7_c2 (Q1 Kn Kr) g h := by
  refine wpC_block' (id := 2) (x := n8_c1) (by kernel_rfl) (n9_ok x0b x0n x0c x3b x3n x3c x5b x5n x5c x6 Kn Kn Kr g hg h hS) ?_
  intro e g' h' hq
  cases e <;> exact hq
def Q14 (Kn : T5) (Kr : T0) : XPost
  | .normal, g, h => D5 Kn g h
  | .ret, g, h => D0 Kr g h
  | _, _, _ => False
abbrev n7 (x0b : Option Addr) (x0n : Nat) (x0c : Nat) (x3b : Option Addr) (x3n : Nat) (x3c : Nat) (x5b : Option Addr) (x5n : Nat) (x5c : Nat) (Kn : T4) (Kr : T0) (h : H) : Prop :=
  n8 x0b x0n x0c x3b x3n x3c x5b x5n x5c (0 : Int) Kn Kr h
theorem n7_ok (x0b : Option Addr) (x0n : Nat) (x0c : Nat) (x3b : Option Addr) (x3n : Nat) (x3c : Nat) (x5b : Option Addr) (x5n : Nat) (x5c : Nat) (Kn : T4) (Kr : T0) (g : Env) (hg : E3 g x0b x0n x0c x3b x3n x3c x5b x5n x5c) (h : H) (hS : n7 x0b x0n x0c x3b x3n x3c x5b x5n x5c Kn Kr h) : wpC none Tryd.prog 217 n5_c1 (Q1 Kn Kr) g h := by
  obtain ⟨hg0, hg3, hg5, hds⟩ := hg
  refine wpC_seq' (x := n7_c1) (y := n7_c2) (Q' := (Q14 (fun z0b z0n z0c z3b z3n z3c z5b z5n z5c z6 h => n8 z0b z0n z0c z3b z3n z3c z5b z5n z5c z6 Kn Kr h) Kr)) (by kernel_rfl) ?_ ?_
  · refine wpC_of_wpx (by kernel_rfl) (by kernel_rfl) (g' := (((⟨g.v, []⟩ : Env).upd (some 0) (.slice x0b x0n x0c)).upd (some 3) (.slice x3b x3n x3c)).upd (some 5) (.slice x5b x5n x5c)) (by rw [env_ds hds, upd_self hg0, upd_self hg3, upd_self hg5]) ?_
    have e : (n7 x0b x0n x0c x3b x3n x3c x5b x5n x5c Kn Kr h) = wpx none Tryd.prog 217 n7_c1 (Q14 (fun z0b z0n z0c z3b z3n z3c z5b z5n z5c z6 h => n8 z0b z0n z0c z3b z3n z3c z5b z5n z5c z6 Kn Kr h) Kr) ((((⟨g.v, []⟩ : Env).upd (some 0) (.slice x0b x0n x0c)).upd (some 3) (.slice x3b x3n x3c)).upd (some 5) (.slice x5b x5n x5c)) h := by kernel_rfl
    exact e ▸ hS
  · intro e g' h' hq
    cases e with
    | normal =>
      have hq : D5 (fun z0b z0n z0c z3b z3n z3c z5b z5n z5c z6 h => n8 z0b z0n z0c z3b z3n z3c z5b z5n z5c z6 Kn Kr h) g' h' := hq
      obtain ⟨y0b, y0n, y0c, y3b, y3n, y3c, y5b, y5n, y5c, y6, hg', hq⟩ := D5_ok hq
      exact n8_ok y0b y0n y0c y3b y3n y3c y5b y5n y5c y6 Kn Kr g' hg' h' hq
    | _ => exact hq
abbrev n5 (x0b : Option Addr) (x0n : Nat) (x0c : Nat) (x3b : Option Addr) (x3n : Nat) (x3c : Nat) (x5b : Option Addr) (x5n : Nat) (x5c : Nat) (Kn : T0) (Kr : T0) (h : H) : Prop := n7 x0b x0n x0c x3b x3n x3c x5b x5n x5c (fun z5b z5n z5c h => n6 z5b z5n z5c Kn Kr h) Kr h
theorem n5_ok (x0b : Option Addr) (x0n : Nat) (x0c : Nat) (x3b : Option Addr) (x3n : Nat) (x3c : Nat) (x5b : Option Addr) (x5n : Nat) (x5c : Nat) (Kn : T0) (Kr : T0) (g : Env) (hg : E3 g x0b x0n x0c x3b x3n x3c x5b x5n x5c) (h : H) (hS : n5 x0b x0n x0c x3b x3n x3c x5b x5n x5c Kn Kr h) : wpC none Tryd.prog 217 n4_c2 (Q0 Kn Kr) g h := by
  refine wpC_seq' (x := n5_c1) (y := n5_c2) (by kernel_rfl) (n7_ok x0b x0n x0c x3b x3n x3c x5b x5n x5c (fun z5b z5n z5c h => n6 z5b z5n z5c Kn Kr h) Kr g hg h hS) ?_
  intro e g' h' hq
  cases e with
  | normal =>
    have hq : D4 (fun z5b z5n z5c h => n6 z5b z5n z5c Kn Kr h) g' h' := hq
    obtain ⟨y5b, y5n, y5c, hg', hq⟩ := D4_ok hq
    exact n6_ok y5b y5n y5c Kn Kr g' hg' h' hq
  | _ => exact hq
def Q15 (Kn : T3) (Kr : T0) : XPost
  | .normal, g, h => D3 Kn g h
  | .ret, g, h => D0 Kr g h
  | _, _, _ => False
abbrev n4 (x0b : Option Addr) (x0n : Nat) (x0c : Nat) (x3b : Option Addr) (x3n : Nat) (x3c : Nat) (Kn : T0) (Kr : T0) (h : H) : Prop :=
  n5 x0b x0n x0c x3b x3n x3c none 0 0 Kn Kr h
theorem n4_ok (x0b : Option Addr) (x0n : Nat) (x0c : Nat) (x3b : Option Addr) (x3n : Nat) (x3c : Nat) (Kn : T0) (Kr : T0) (g : Env) (hg : E2 g x0b x0n x0c x3b x3n x3c) (h : H) (hS : n4 x0b x0n x0c x3b x3n x3c Kn Kr h) : wpC none Tryd.prog 217 n3_c2 (Q0 Kn Kr) g h := by
  obtain ⟨hg0, hg3, hds⟩ := hg
  refine wpC_seq' (x := n4_c1) (y := n4_c2) (Q' := (Q15 (fun z0b z0n z0c z3b z3n z3c z5b z5n z5c h => n5 z0b z0n z0c z3b z3n z3c z5b z5n z5c Kn Kr h) Kr)) (by kernel_rfl) ?_ ?_
  · refine wpC_of_wpx (by kernel_rfl) (by kernel_rfl) (g' := ((⟨g.v, []⟩ : Env).upd (some 0) (.slice x0b x0n x0c)).upd (some 3) (.slice x3b x3n x3c)) (by rw [env_ds hds, upd_self hg0, upd_self hg3]) ?_
    have e : (n4 x0b x0n x0c x3b x3n x3c Kn Kr h) = wpx none Tryd.prog 217 n4_c1 (Q15 (fun z0b z0n z0c z3b z3n z3c z5b z5n z5c h => n5 z0b z0n z0c z3b z3n z3c z5b z5n z5c Kn Kr h) Kr) (((⟨g.v, []⟩ : Env).upd (some 0) (.slice x0b x0n x0c)).upd (some 3) (.slice x3b x3n x3c)) h := by kernel_rfl
    exact e ▸ hS
  · intro e g' h' hq
    cases e with
    | normal =>
      have hq : D3 (fun z0b z0n z0c z3b z3n z3c z5b z5n z5c h => n5 z0b z0n z0c z3b z3n z3c z5b z5n z5c Kn Kr h) g' h' := hq
      obtain ⟨y0b, y0n, y0c, y3b, y3n, y3c, y5b, y5n, y5c, hg', hq⟩ := D3_ok hq
      exact n5_ok y0b y0n y0c y3b y3n y3c y5b y5n y5c Kn Kr g' hg' h' hq
    | _ => exact hq
def Q16 (Kn : T2) (Kr : T0) : XPost
  | .normal, g, h => D2 Kn g h
  | .ret, g, h => D0 Kr g h
  | _, _, _ => False
noncomputable def n35_c1 : Code := cFst n3_c1
noncomputable def n35_c2 : Code := cSnd n3_c1
abbrev T10 := (Option Addr) → Nat → Nat → (Option Addr) → Nat → Nat → Int → H → Prop
def E10 (g : Env) (x0b : Option Addr) (x0n : Nat) (x0c : Nat) (x3b : Option Addr) (x3n : Nat) (x3c : Nat) (x4 : Int) : Prop := g.v 0 = (.slice x0b x0n x0c) ∧ g.v 3 = (.slice x3b x3n x3c) ∧ g.v 4 = (.int .i64 x4) ∧ g.ds = []
def D10 (K : T10) (g : Env) (h : H) : Prop := nilDs g.ds (vSlice (g.v 0) fun s229b s229n s229c => vSlice (g.v 3) fun s230b s230n s230c => vInt .i64 (g.v 4) fun i231 => K s229b s229n s229c s230b s230n s230c i231 h)
theorem D10_ok {K : T10} {g : Env} {h : H} (hq : D10 K g h) : ∃ (x0b : Option Addr) (x0n : Nat) (x0c : Nat) (x3b : Option Addr) (x3n : Nat) (x3c : Nat) (x4 : Int), E10 g x0b x0n x0c x3b x3n x3c x4 ∧ K x0b x0n x0c x3b x3n x3c x4 h := by
  obtain ⟨hd, hq⟩ := nilDs_ok hq
  obtain ⟨y233b, y233n, y233c, e232, q234⟩ := vSlice_ok hq
  obtain ⟨y236b, y236n, y236c, e235, q237⟩ := vSlice_ok q234
  obtain ⟨y239, e238, q240⟩ := vInt_ok q237
  exact ⟨y233b, y233n, y233c, y236b, y236n, y236c, y239, ⟨e232, e235, e238, hd⟩, q240⟩
noncomputable def n36_c1 : Code := cFst n35_c2
def Q17 (Kn : T2) (Ke0 : T2) (Kr : T0) : XPost
  | .normal, g, h => D2 Kn g h
  | .ret, g, h => D0 Kr g h
  | .exit id, g, h => cond (Nat.beq id 0) (D2 Ke0 g h) (False)
  | _, _, _ => False
noncomputable def n37_c1 : Code := cFst n36_c1
def Q18 (Kn : T10) (Ke0 : T2) (Kr : T0) : XPost
  | .normal, g, h => D10 Kn g h
  | .ret, g, h => D0 Kr g h
  | .exit id, g, h => cond (Nat.beq id 0) (D2 Ke0 g h) (False)
  | _, _, _ => False
def n37_L (Kn : T2) (Ke0 : T2) (Kr : T0) : Nat → (Option Addr) → Nat → Nat → (Option Addr) → Nat → Nat → Int → H → Prop
  | 0 => fun _ _ _ _ _ _ _ _ => False
  | N + 1 => fun x0b x0n x0c x3b x3n x3c x4 h => Spl (x4 < (x0n : Int)) ((0 ≤ x4 ∧ x4 < (x0n : Int)) ∧ (vSome x0b fun a241 => ∃ i242, cell h ((a241.add (Int.toNat x4 * 5)).add 2) = some (.int .i64 i242) ∧ ((0 ≤ x4 ∧ x4 < (x0n : Int)) ∧ (vSome x0b fun a243 => ∃ i244, cell h ((a243.add (Int.toNat x4 * 5)).add 2) = some (.int .i64 i244) ∧ (Spl (i244 ≤ (0 : Int)) (newx h #[(.int .i64 (0 : Int)), (.int .i64 i242), (.bool true)] 48 fun a245 h246 => SemH Tryd.prog (Builtin.append_ #[46, 46] 46 ⟨[(.slice x3b x3n x3c), (.slice (some a245) 1 1)]⟩) h246 fun v247 h248 => vSlice v247 fun s249b s249n s249c => n37_L Kn Ke0 Kr N x0b x0n x0c s249b s249n s249c (IntKind.wrap .i64 (x4 + (1 : Int))) h248) (newx h #[(.int .i64 (0 : Int)), (.int .i64 i242), (.bool false)] 48 fun a250 h251 => SemH Tryd.prog (Builtin.append_ #[46, 46] 46 ⟨[(.slice x3b x3n x3c), (.slice (some a250) 1 1)]⟩) h251 fun v252 h253 => vSlice v252 fun s254b s254n s254c => n37_L Kn Ke0 Kr N x0b x0n x0c s254b s254n s254c (IntKind.wrap .i64 (x4 + (1 : Int))) h253)))))) (Ke0 x0b x0n x0c x3b x3n x3c h)
abbrev n37 (x0b : Option Addr) (x0n : Nat) (x0c : Nat) (x3b : Option Addr) (x3n : Nat) (x3c : Nat) (x4 : Int) (Kn : T2) (Ke0 : T2) (Kr : T0) (h : H) : Prop := ∃ N, n37_L Kn Ke0 Kr N x0b x0n x0c x3b x3n x3c x4 h
theorem n37_ok (x0b : Option Addr) (x0n : Nat) (x0c : Nat) (x3b : Option Addr) (x3n : Nat) (x3c : Nat) (x4 : Int) (Kn : T2) (Ke0 : T2) (Kr : T0) (g : Env) (hg : E10 g x0b x0n x0c x3b x3n x3c x4) (h : H) (hS : n37 x0b x0n x0c x3b x3n x3c x4 Kn Ke0 Kr h) : wpC none Tryd.prog 217 n36_c1 (Q17 Kn Ke0 Kr) g h := by
  obtain ⟨N0, hS⟩ := hS
  refine wpC_loop' (x := n37_c1) (by kernel_rfl) (fun k g h => ∃ (x0b : Option Addr) (x0n : Nat) (x0c : Nat) (x3b : Option Addr) (x3n : Nat) (x3c : Nat) (x4 : Int), E10 g x0b x0n x0c x3b x3n x3c x4 ∧ n37_L Kn Ke0 Kr k x0b x0n x0c x3b x3n x3c x4 h) (fun g h hr => ?_) (fun N g h hr => ?_) N0 ⟨x0b, x0n, x0c, x3b, x3n, x3c, x4, hg, hS⟩
  · obtain ⟨x0b, x0n, x0c, x3b, x3n, x3c, x4, hg, hS⟩ := hr
    exact hS.elim
  · obtain ⟨x0b, x0n, x0c, x3b, x3n, x3c, x4, hg, hS⟩ := hr
    have hw : wpC none Tryd.prog 217 n37_c1 (Q18 (fun z0b z0n z0c z3b z3n z3c z4 h => n37_L Kn Ke0 Kr N z0b z0n z0c z3b z3n z3c z4 h) Ke0 Kr) g h := by
      obtain ⟨hg0, hg3, hg4, hds⟩ := hg
      refine wpC_of_wpx (by kernel_rfl) (by kernel_rfl) (g' := (((⟨g.v, []⟩ : Env).upd (some 0) (.slice x0b x0n x0c)).upd (some 3) (.slice x3b x3n x3c)).upd (some 4) (.int .i64 x4)) (by rw [env_ds hds, upd_self hg0, upd_self hg3, upd_self hg4]) ?_
      have e : (n37_L Kn Ke0 Kr (N + 1) x0b x0n x0c x3b x3n x3c x4 h) = wpx none Tryd.prog 217 n37_c1 (Q18 (fun z0b z0n z0c z3b z3n z3c z4 h => n37_L Kn Ke0 Kr N z0b z0n z0c z3b z3n z3c z4 h) Ke0 Kr) ((((⟨g.v, []⟩ : Env).upd (some 0) (.slice x0b x0n x0c)).upd (some 3) (.slice x3b x3n x3c)).upd (some 4) (.int .i64 x4)) h := by kernel_rfl
      exact e ▸ hS
    refine hw.mono ?_
    intro e g' h' hq
    cases e with
    | normal => exact D10_ok (K := (fun z0b z0n z0c z3b z3n z3c z4 h => n37_L Kn Ke0 Kr N z0b z0n z0c z3b z3n z3c z4 h)) hq
    | _ => exact hq
abbrev n36 (x0b : Option Addr) (x0n : Nat) (x0c : Nat) (x3b : Option Addr) (x3n : Nat) (x3c : Nat) (x4 : Int) (Kn : T2) (Kr : T0) (h : H) : Prop := n37 x0b x0n x0c x3b x3n x3c x4 Kn Kn Kr h
theorem n36_ok (x0b : Option Addr) (x0n : Nat) (x0c : Nat) (x3b : Option Addr) (x3n : Nat) (x3c : Nat) (x4 : Int) (Kn : T2) (Kr : T0) (g : Env) (hg : E10 g x0b x0n x0c x3b x3n x3c x4) (h : H) (hS : n36 x0b x0n x0c x3b x3n x3c x4 Kn Kr h) : wpC none Tryd.prog 217 n35_c2 (Q16 Kn Kr) g h := by
  refine wpC_block' (id := 0) (x := n36_c1) (by kernel_rfl) (n37_ok x0b x0n x0c x3b x3n x3c x4 Kn Kn Kr g hg h hS) ?_
  intro e g' h' hq
  cases e <;> exact hq
def Q19 (Kn : T10) (Kr : T0) : XPost
  | .normal, g, h => D10 Kn g h
  | .ret, g, h => D0 Kr g h
  | _, _, _ => False
abbrev n35 (x0b : Option Addr) (x0n : Nat) (x0c : Nat) (x3b : Option Addr) (x3n : Nat) (x3c : Nat) (Kn : T2) (Kr : T0) (h : H) : Prop :=
  n36 x0b x0n x0c x3b x3n x3c (0 : Int) Kn Kr h
theorem n35_ok (x0b : Option Addr) (x0n : Nat) (x0c : Nat) (x3b : Option Addr) (x3n : Nat) (x3c : Nat) (Kn : T2) (Kr : T0) (g : Env) (hg : E2 g x0b x0n x0c x3b x3n x3c) (h : H) (hS : n35 x0b x0n x0c x3b x3n x3c Kn Kr h) : wpC none Tryd.prog 217 n3_c1 (Q16 Kn Kr) g h := by
  obtain ⟨hg0, hg3, hds⟩ := hg
  refine wpC_seq' (x := n35_c1) (y := n35_c2) (Q' := (Q19 (fun z0b z0n z0c z3b z3n z3c z4 h => n36 z0b z0n z0c z3b z3n z3c z4 Kn Kr h) Kr)) (by kernel_rfl) ?_ ?_
  · refine wpC_of_wpx (by kernel_rfl) (by kernel_rfl) (g' := ((⟨g.v, []⟩ : Env).upd (some 0) (.slice x0b x0n x0c)).upd (some 3) (.slice x3b x3n x3c)) (by rw [env_ds hds, upd_self hg0, upd_self hg3]) ?_
    have e : (n35 x0b x0n x0c x3b x3n x3c Kn Kr h) = wpx none Tryd.prog 217 n35_c1 (Q19 (fun z0b z0n z0c z3b z3n z3c z4 h => n36 z0b z0n z0c z3b z3n z3c z4 Kn Kr h) Kr) (((⟨g.v, []⟩ : Env).upd (some 0) (.slice x0b x0n x0c)).upd (some 3) (.slice x3b x3n x3c)) h := by kernel_rfl
    exact e ▸ hS
  · intro e g' h' hq
    cases e with
    | normal =>
      have hq : D10 (fun z0b z0n z0c z3b z3n z3c z4 h => n36 z0b z0n z0c z3b z3n z3c z4 Kn Kr h) g' h' := hq
      obtain ⟨y0b, y0n, y0c, y3b, y3n, y3c, y4, hg', hq⟩ := D10_ok hq
      exact n36_ok y0b y0n y0c y3b y3n y3c y4 Kn Kr g' hg' h' hq
    | _ => exact hq
abbrev n3 (x0b : Option Addr) (x0n : Nat) (x0c : Nat) (x3b : Option Addr) (x3n : Nat) (x3c : Nat) (Kn : T0) (Kr : T0) (h : H) : Prop := n35 x0b x0n x0c x3b x3n x3c (fun z0b z0n z0c z3b z3n z3c h => n4 z0b z0n z0c z3b z3n z3c Kn Kr h) Kr h
theorem n3_ok (x0b : Option Addr) (x0n : Nat) (x0c : Nat) (x3b : Option Addr) (x3n : Nat) (x3c : Nat) (Kn : T0) (Kr : T0) (g : Env) (hg : E2 g x0b x0n x0c x3b x3n x3c) (h : H) (hS : n3 x0b x0n x0c x3b x3n x3c Kn Kr h) : wpC none Tryd.prog 217 n2_c2 (Q0 Kn Kr) g h := by
  refine wpC_seq' (x := n3_c1) (y := n3_c2) (by kernel_rfl) (n35_ok x0b x0n x0c x3b x3n x3c (fun z0b z0n z0c z3b z3n z3c h => n4 z0b z0n z0c z3b z3n z3c Kn Kr h) Kr g hg h hS) ?_
  intro e g' h' hq
  cases e with
  | normal =>
    have hq : D2 (fun z0b z0n z0c z3b z3n z3c h => n4 z0b z0n z0c z3b z3n z3c Kn Kr h) g' h' := hq
    obtain ⟨y0b, y0n, y0c, y3b, y3n, y3c, hg', hq⟩ := D2_ok hq
    exact n4_ok y0b y0n y0c y3b y3n y3c Kn Kr g' hg' h' hq
  | _ => exact hq
abbrev n2 (x0b : Option Addr) (x0n : Nat) (x0c : Nat) (Kn : T0) (Kr : T0) (h : H) : Prop :=
  n3 x0b x0n x0c none 0 0 Kn Kr h
theorem n2_ok (x0b : Option Addr) (x0n : Nat) (x0c : Nat) (Kn : T0) (Kr : T0) (g : Env) (hg : E1 g x0b x0n x0c) (h : H) (hS : n2 x0b x0n x0c Kn Kr h) : wpC none Tryd.prog 217 n1_c2 (Q0 Kn Kr) g h := by
  obtain ⟨hg0, hds⟩ := hg
  refine wpC_seq' (x := n2_c1) (y := n2_c2) (Q' := (Q16 (fun z0b z0n z0c z3b z3n z3c h => n3 z0b z0n z0c z3b z3n z3c Kn Kr h) Kr)) (by kernel_rfl) ?_ ?_
  · refine wpC_of_wpx (by kernel_rfl) (by kernel_rfl) (g' := (⟨g.v, []⟩ : Env).upd (some 0) (.slice x0b x0n x0c)) (by rw [env_ds hds, upd_self hg0]) ?_
    have e : (n2 x0b x0n x0c Kn Kr h) = wpx none Tryd.prog 217 n2_c1 (Q16 (fun z0b z0n z0c z3b z3n z3c h => n3 z0b z0n z0c z3b z3n z3c Kn Kr h) Kr) ((⟨g.v, []⟩ : Env).upd (some 0) (.slice x0b x0n x0c)) h := by kernel_rfl
    exact e ▸ hS
  · intro e g' h' hq
    cases e with
    | normal =>
      have hq : D2 (fun z0b z0n z0c z3b z3n z3c h => n3 z0b z0n z0c z3b z3n z3c Kn Kr h) g' h' := hq
      obtain ⟨y0b, y0n, y0c, y3b, y3n, y3c, hg', hq⟩ := D2_ok hq
      exact n3_ok y0b y0n y0c y3b y3n y3c Kn Kr g' hg' h' hq
    | _ => exact hq
def Q20 (Kn : T1) (Kr : T0) : XPost
  | .normal, g, h => D1 Kn g h
  | .ret, g, h => D0 Kr g h
  | _, _, _ => False
abbrev n1 (x0b : Option Addr) (x0n : Nat) (x0c : Nat) (Kn : T0) (Kr : T0) (h : H) : Prop :=
  n2 x0b x0n x0c Kn Kr h
theorem n1_ok (x0b : Option Addr) (x0n : Nat) (x0c : Nat) (Kn : T0) (Kr : T0) (g : Env) (hg : E1 g x0b x0n x0c) (h : H) (hS : n1 x0b x0n x0c Kn Kr h) : wpC none Tryd.prog 217 code (Q0 Kn Kr) g h := by
  obtain ⟨hg0, hds⟩ := hg
  refine wpC_seq' (x := n1_c1) (y := n1_c2) (Q' := (Q20 (fun z0b z0n z0c h => n2 z0b z0n z0c Kn Kr h) Kr)) (by kernel_rfl) ?_ ?_
  · refine wpC_of_wpx (by kernel_rfl) (by kernel_rfl) (g' := (⟨g.v, []⟩ : Env).upd (some 0) (.slice x0b x0n x0c)) (by rw [env_ds hds, upd_self hg0]) ?_
    have e : (n1 x0b x0n x0c Kn Kr h) = wpx none Tryd.prog 217 n1_c1 (Q20 (fun z0b z0n z0c h => n2 z0b z0n z0c Kn Kr h) Kr) ((⟨g.v, []⟩ : Env).upd (some 0) (.slice x0b x0n x0c)) h := by kernel_rfl
    exact e ▸ hS
  · intro e g' h' hq
    cases e with
    | normal =>
      have hq : D1 (fun z0b z0n z0c h => n2 z0b z0n z0c Kn Kr h) g' h' := hq
      obtain ⟨y0b, y0n, y0c, hg', hq⟩ := D1_ok hq
      exact n2_ok y0b y0n y0c Kn Kr g' hg' h' hq
    | _ => exact hq
/-- WHAT tympan/tympanref27.Match ASKS -/
abbrev asks (x0b : Option Addr) (x0n : Nat) (x0c : Nat) (K : Value → H → Prop) (h : H) : Prop := n1 x0b x0n x0c (fun y2b y2n y2c h => K (.slice y2b y2n y2c) h) (fun y2b y2n y2c h => K (.slice y2b y2n y2c) h) h
theorem ok (x0b : Option Addr) (x0n : Nat) (x0c : Nat) (K : Value → H → Prop) (h : H) (hS : asks x0b x0n x0c K h) : HCalls Tryd.prog 12 ⟨[(.slice x0b x0n x0c)]⟩ h K := by
  refine calls_of_wpC (c := code) Tryd.func12 (by kernel_rfl) (Nat.le_of_ble_eq_true (by kernel_rfl)) ?_
  refine (n1_ok x0b x0n x0c (fun y2b y2n y2c h => K (.slice y2b y2n y2c) h) (fun y2b y2n y2c h => K (.slice y2b y2n y2c) h) (env0 [(.slice x0b x0n x0c)]) ⟨rfl, rfl⟩ h hS).mono ?_
  intro e g' h' hq
  cases e with
  | normal =>
    have hq : D0 (fun y2b y2n y2c h => K (.slice y2b y2n y2c) h) g' h' := hq
    obtain ⟨y2b, y2n, y2c, ⟨hg2, hd⟩, hq⟩ := D0_ok hq
    show leaveX g'.ds h' _
    rw [hd]
    show K (g'.v 2) h'
    rw [hg2]
    exact hq
  | ret =>
    have hq : D0 (fun y2b y2n y2c h => K (.slice y2b y2n y2c) h) g' h' := hq
    obtain ⟨y2b, y2n, y2c, ⟨hg2, hd⟩, hq⟩ := D0_ok hq
    show leaveX g'.ds h' _
    rw [hd]
    show K (g'.v 2) h'
    rw [hg2]
    exact hq
  | _ => exact hq
end Sx.r27_Match

/-! ### tympan/stars.chain -/
namespace Sx.stars_chain
noncomputable def code : Code := bodyOf Tryd.f24
abbrev T0 := (Option Addr) → H → Prop
def E0 (g : Env) (x2 : Option Addr) : Prop := g.v 2 = (.pointer x2) ∧ g.ds = []
def D0 (K : T0) (g : Env) (h : H) : Prop := nilDs g.ds (vPtr (g.v 2) fun p1 => K p1 h)
theorem D0_ok {K : T0} {g : Env} {h : H} (hq : D0 K g h) : ∃ (x2 : Option Addr), E0 g x2 ∧ K x2 h := by
  obtain ⟨hd, hq⟩ := nilDs_ok hq
  obtain ⟨y3, e2, q4⟩ := vPtr_ok hq
  exact ⟨y3, ⟨e2, hd⟩, q4⟩
def Q0 (Kn : T0) (Kr : T0) : XPost
  | .normal, g, h => D0 Kn g h
  | .ret, g, h => D0 Kr g h
  | _, _, _ => False
abbrev T1 := (Option Addr) → Nat → Nat → H → Prop
def E1 (g : Env) (x0b : Option Addr) (x0n : Nat) (x0c : Nat) : Prop := g.v 0 = (.slice x0b x0n x0c) ∧ g.ds = []
def D1 (K : T1) (g : Env) (h : H) : Prop := nilDs g.ds (vSlice (g.v 0) fun s5b s5n s5c => K s5b s5n s5c h)
theorem D1_ok {K : T1} {g : Env} {h : H} (hq : D1 K g h) : ∃ (x0b : Option Addr) (x0n : Nat) (x0c : Nat), E1 g x0b x0n x0c ∧ K x0b x0n x0c h := by
  obtain ⟨hd, hq⟩ := nilDs_ok hq
  obtain ⟨y7b, y7n, y7c, e6, q8⟩ := vSlice_ok hq
  exact ⟨y7b, y7n, y7c, ⟨e6, hd⟩, q8⟩
noncomputable def n1_c1 : Code := cFst code
noncomputable def n1_c2 : Code := cSnd code
noncomputable def n2_c1 : Code := cFst n1_c2
noncomputable def n2_c2 : Code := cSnd n1_c2
abbrev T2 := (Option Addr) → Nat → Nat → (Option Addr) → H → Prop
def E2 (g : Env) (x0b : Option Addr) (x0n : Nat) (x0c : Nat) (x3 : Option Addr) : Prop := g.v 0 = (.slice x0b x0n x0c) ∧ g.v 3 = (.pointer x3) ∧ g.ds = []
def D2 (K : T2) (g : Env) (h : H) : Prop := nilDs g.ds (vSlice (g.v 0) fun s9b s9n s9c => vPtr (g.v 3) fun p10 => K s9b s9n s9c p10 h)
theorem D2_ok {K : T2} {g : Env} {h : H} (hq : D2 K g h) : ∃ (x0b : Option Addr) (x0n : Nat) (x0c : Nat) (x3 : Option Addr), E2 g x0b x0n x0c x3 ∧ K x0b x0n x0c x3 h := by
  obtain ⟨hd, hq⟩ := nilDs_ok hq
  obtain ⟨y12b, y12n, y12c, e11, q13⟩ := vSlice_ok hq
  obtain ⟨y15, e14, q16⟩ := vPtr_ok q13
  exact ⟨y12b, y12n, y12c, y15, ⟨e11, e14, hd⟩, q16⟩
noncomputable def n3_c1 : Code := cFst n2_c2
noncomputable def n3_c2 : Code := cSnd n2_c2
abbrev T3 := (Option Addr) → Nat → Nat → (Option Addr) → (Option Addr) → H → Prop
def E3 (g : Env) (x0b : Option Addr) (x0n : Nat) (x0c : Nat) (x3 : Option Addr) (x4 : Option Addr) : Prop := g.v 0 = (.slice x0b x0n x0c) ∧ g.v 3 = (.pointer x3) ∧ g.v 4 = (.pointer x4) ∧ g.ds = []
def D3 (K : T3) (g : Env) (h : H) : Prop := nilDs g.ds (vSlice (g.v 0) fun s17b s17n s17c => vPtr (g.v 3) fun p18 => vPtr (g.v 4) fun p19 => K s17b s17n s17c p18 p19 h)
theorem D3_ok {K : T3} {g : Env} {h : H} (hq : D3 K g h) : ∃ (x0b : Option Addr) (x0n : Nat) (x0c : Nat) (x3 : Option Addr) (x4 : Option Addr), E3 g x0b x0n x0c x3 x4 ∧ K x0b x0n x0c x3 x4 h := by
  obtain ⟨hd, hq⟩ := nilDs_ok hq
  obtain ⟨y21b, y21n, y21c, e20, q22⟩ := vSlice_ok hq
  obtain ⟨y24, e23, q25⟩ := vPtr_ok q22
  obtain ⟨y27, e26, q28⟩ := vPtr_ok q25
  exact ⟨y21b, y21n, y21c, y24, y27, ⟨e20, e23, e26, hd⟩, q28⟩
noncomputable def n4_c1 : Code := cFst n3_c2
noncomputable def n4_c2 : Code := cSnd n3_c2
abbrev T4 := (Option Addr) → H → Prop
def E4 (g : Env) (x3 : Option Addr) : Prop := g.v 3 = (.pointer x3) ∧ g.ds = []
def D4 (K : T4) (g : Env) (h : H) : Prop := nilDs g.ds (vPtr (g.v 3) fun p29 => K p29 h)
theorem D4_ok {K : T4} {g : Env} {h : H} (hq : D4 K g h) : ∃ (x3 : Option Addr), E4 g x3 ∧ K x3 h := by
  obtain ⟨hd, hq⟩ := nilDs_ok hq
  obtain ⟨y31, e30, q32⟩ := vPtr_ok hq
  exact ⟨y31, ⟨e30, hd⟩, q32⟩
abbrev n5 (x3 : Option Addr) (Kn : T0) (Kr : T0) (h : H) : Prop :=
  vSome x3 fun a33 => ∃ p34, cell h (a33.add 8) = some (.pointer p34) ∧ (SemH Tryd.prog (binS .neq 41 (.tmp 35) (.const (.pointer none)) (.pointer p34) (.pointer none)) h fun v35 h36 => vBool v35 fun b37 => cond b37 (vSome x3 fun a38 => ∃ p39, cell h36 (a38.add 8) = some (.pointer p39) ∧ (vSome p39 fun a40 => stL (a40.add 7) [(.pointer none)] 0 h36 fun h41 => vSome x3 fun a42 => ∃ p43, cell h41 (a42.add 8) = some (.pointer p43) ∧ (Kr p43 h41))) (vSome x3 fun a44 => ∃ p45, cell h36 (a44.add 8) = some (.pointer p45) ∧ (Kr p45 h36)))
theorem n5_ok (x3 : Option Addr) (Kn : T0) (Kr : T0) (g : Env) (hg : E4 g x3) (h : H) (hS : n5 x3 Kn Kr h) : wpC none Tryd.prog 47 n4_c2 (Q0 Kn Kr) g h := by
  obtain ⟨hg3, hds⟩ := hg
  refine wpC_of_wpx (by kernel_rfl) (by kernel_rfl) (g' := (⟨g.v, []⟩ : Env).upd (some 3) (.pointer x3)) (by rw [env_ds hds, upd_self hg3]) ?_
  have e : (n5 x3 Kn Kr h) = wpx none Tryd.prog 47 n4_c2 (Q0 Kn Kr) ((⟨g.v, []⟩ : Env).upd (some 3) (.pointer x3)) h := by kernel_rfl
  exact e ▸ hS
def Q1 (Kn : T4) (Kr : T0) : XPost
  | .normal, g, h => D4 Kn g h
  | .ret, g, h => D0 Kr g h
  | _, _, _ => False
noncomputable def n6_c1 : Code := cFst n4_c1
noncomputable def n6_c2 : Code := cSnd n4_c1
abbrev T5 := (Option Addr) → (Option Addr) → (Option Addr) → Nat → Nat → Int → Int → H → Prop
def E5 (g : Env) (x3 : Option Addr) (x4 : Option Addr) (x11b : Option Addr) (x11n : Nat) (x11c : Nat) (x12 : Int) (x13 : Int) : Prop := g.v 3 = (.pointer x3) ∧ g.v 4 = (.pointer x4) ∧ g.v 11 = (.slice x11b x11n x11c) ∧ g.v 12 = (.int .i64 x12) ∧ g.v 13 = (.int .i64 x13) ∧ g.ds = []
def D5 (K : T5) (g : Env) (h : H) : Prop := nilDs g.ds (vPtr (g.v 3) fun p46 => vPtr (g.v 4) fun p47 => vSlice (g.v 11) fun s48b s48n s48c => vInt .i64 (g.v 12) fun i49 => vInt .i64 (g.v 13) fun i50 => K p46 p47 s48b s48n s48c i49 i50 h)
theorem D5_ok {K : T5} {g : Env} {h : H} (hq : D5 K g h) : ∃ (x3 : Option Addr) (x4 : Option Addr) (x11b : Option Addr) (x11n : Nat) (x11c : Nat) (x12 : Int) (x13 : Int), E5 g x3 x4 x11b x11n x11c x12 x13 ∧ K x3 x4 x11b x11n x11c x12 x13 h := by
  obtain ⟨hd, hq⟩ := nilDs_ok hq
  obtain ⟨y52, e51, q53⟩ := vPtr_ok hq
  obtain ⟨y55, e54, q56⟩ := vPtr_ok q53
  obtain ⟨y58b, y58n, y58c, e57, q59⟩ := vSlice_ok q56
  obtain ⟨y61, e60, q62⟩ := vInt_ok q59
  obtain ⟨y64, e63, q65⟩ := vInt_ok q62
  exact ⟨y52, y55, y58b, y58n, y58c, y61, y64, ⟨e51, e54, e57, e60, e63, hd⟩, q65⟩
noncomputable def n7_c1 : Code := cFst n6_c2
def Q2 (Kn : T4) (Ke0 : T4) (Kr : T0) : XPost
  | .normal, g, h => D4 Kn g h
  | .ret, g, h => D0 Kr g h
  | .exit id, g, h => cond (Nat.beq id 0) (D4 Ke0 g h) (False)
  | _, _, _ => False
noncomputable def n8_c1 : Code := cFst n7_c1
def Q3 (Kn : T5) (Ke0 : T4) (Kr : T0) : XPost
  | .normal, g, h => D5 Kn g h
  | .ret, g, h => D0 Kr g h
  | .exit id, g, h => cond (Nat.beq id 0) (D4 Ke0 g h) (False)
  | _, _, _ => False
noncomputable def n9_c1 : Code := cFst n8_c1
noncomputable def n9_c2 : Code := cSnd n8_c1
abbrev T6 := (Option Addr) → (Option Addr) → (Option Addr) → Nat → Nat → Int → Int → Value → H → Prop
def E6 (g : Env) (x3 : Option Addr) (x4 : Option Addr) (x11b : Option Addr) (x11n : Nat) (x11c : Nat) (x12 : Int) (x13 : Int) (x14 : Value) : Prop := g.v 3 = (.pointer x3) ∧ g.v 4 = (.pointer x4) ∧ g.v 11 = (.slice x11b x11n x11c) ∧ g.v 12 = (.int .i64 x12) ∧ g.v 13 = (.int .i64 x13) ∧ g.v 14 = x14 ∧ g.ds = []
def D6 (K : T6) (g : Env) (h : H) : Prop := nilDs g.ds (vPtr (g.v 3) fun p66 => vPtr (g.v 4) fun p67 => vSlice (g.v 11) fun s68b s68n s68c => vInt .i64 (g.v 12) fun i69 => vInt .i64 (g.v 13) fun i70 => K p66 p67 s68b s68n s68c i69 i70 (g.v 14) h)
theorem D6_ok {K : T6} {g : Env} {h : H} (hq : D6 K g h) : ∃ (x3 : Option Addr) (x4 : Option Addr) (x11b : Option Addr) (x11n : Nat) (x11c : Nat) (x12 : Int) (x13 : Int) (x14 : Value), E6 g x3 x4 x11b x11n x11c x12 x13 x14 ∧ K x3 x4 x11b x11n x11c x12 x13 x14 h := by
  obtain ⟨hd, hq⟩ := nilDs_ok hq
  obtain ⟨y72, e71, q73⟩ := vPtr_ok hq
  obtain ⟨y75, e74, q76⟩ := vPtr_ok q73
  obtain ⟨y78b, y78n, y78c, e77, q79⟩ := vSlice_ok q76
  obtain ⟨y81, e80, q82⟩ := vInt_ok q79
  obtain ⟨y84, e83, q85⟩ := vInt_ok q82
  exact ⟨y72, y75, y78b, y78n, y78c, y81, y84, (g.v 14), ⟨e71, e74, e77, e80, e83, rfl, hd⟩, q85⟩
noncomputable def n10_c1 : Code := cFst n9_c2
noncomputable def n10_c2 : Code := cSnd n9_c2
noncomputable def n11_c1 : Code := cFst n10_c2
noncomputable def n11_c2 : Code := cSnd n10_c2
abbrev n12 (x3 : Option Addr) (x4 : Option Addr) (x11b : Option Addr) (x11n : Nat) (x11c : Nat) (x12 : Int) (x13 : Int) (Kn : T5) (Ke0 : T4) (Kr : T0) (h : H) : Prop :=
  Rng .i64 (x13 + (1 : Int)) ∧ (Kn x3 x4 x11b x11n x11c x12 (x13 + (1 : Int)) h)
theorem n12_ok (x3 : Option Addr) (x4 : Option Addr) (x11b : Option Addr) (x11n : Nat) (x11c : Nat) (x12 : Int) (x13 : Int) (Kn : T5) (Ke0 : T4) (Kr : T0) (g : Env) (hg : E5 g x3 x4 x11b x11n x11c x12 x13) (h : H) (hS : n12 x3 x4 x11b x11n x11c x12 x13 Kn Ke0 Kr h) : wpC none Tryd.prog 47 n11_c2 (Q3 Kn Ke0 Kr) g h := by
  obtain ⟨hg3, hg4, hg11, hg12, hg13, hds⟩ := hg
  refine wpC_of_wpx (by kernel_rfl) (by kernel_rfl) (g' := (((((⟨g.v, []⟩ : Env).upd (some 3) (.pointer x3)).upd (some 4) (.pointer x4)).upd (some 11) (.slice x11b x11n x11c)).upd (some 12) (.int .i64 x12)).upd (some 13) (.int .i64 x13)) (by rw [env_ds hds, upd_self hg3, upd_self hg4, upd_self hg11, upd_self hg12, upd_self hg13]) ?_
  have e : (n12 x3 x4 x11b x11n x11c x12 x13 Kn Ke0 Kr h) = wpx none Tryd.prog 47 n11_c2 (Q3 Kn Ke0 Kr) ((((((⟨g.v, []⟩ : Env).upd (some 3) (.pointer x3)).upd (some 4) (.pointer x4)).upd (some 11) (.slice x11b x11n x11c)).upd (some 12) (.int .i64 x12)).upd (some 13) (.int .i64 x13)) h := by kernel_rfl
  exact e ▸ hS
noncomputable def n13_c1 : Code := cFst n11_c1
def Q4 (Kn : T5) (Ke1 : T5) (Ke0 : T4) (Kr : T0) : XPost
  | .normal, g, h => D5 Kn g h
  | .ret, g, h => D0 Kr g h
  | .exit id, g, h => cond (Nat.beq id 1) (D5 Ke1 g h) (cond (Nat.beq id 0) (D4 Ke0 g h) (False))
  | _, _, _ => False
noncomputable def n14_c1 : Code := cFst n13_c1
noncomputable def n14_c2 : Code := cSnd n13_c1
abbrev T7 := (Option Addr) → (Option Addr) → Addr → (Option Addr) → Nat → Nat → Int → Int → H → Prop
def E7 (g : Env) (x3 : Option Addr) (x4 : Option Addr) (x6 : Addr) (x11b : Option Addr) (x11n : Nat) (x11c : Nat) (x12 : Int) (x13 : Int) : Prop := g.v 3 = (.pointer x3) ∧ g.v 4 = (.pointer x4) ∧ g.v 6 = (.pointer (some x6)) ∧ g.v 11 = (.slice x11b x11n x11c) ∧ g.v 12 = (.int .i64 x12) ∧ g.v 13 = (.int .i64 x13) ∧ g.ds = []
def D7 (K : T7) (g : Env) (h : H) : Prop := nilDs g.ds (vPtr (g.v 3) fun p86 => vPtr (g.v 4) fun p87 => vAddr (g.v 6) fun a88 => vSlice (g.v 11) fun s89b s89n s89c => vInt .i64 (g.v 12) fun i90 => vInt .i64 (g.v 13) fun i91 => K p86 p87 a88 s89b s89n s89c i90 i91 h)
theorem D7_ok {K : T7} {g : Env} {h : H} (hq : D7 K g h) : ∃ (x3 : Option Addr) (x4 : Option Addr) (x6 : Addr) (x11b : Option Addr) (x11n : Nat) (x11c : Nat) (x12 : Int) (x13 : Int), E7 g x3 x4 x6 x11b x11n x11c x12 x13 ∧ K x3 x4 x6 x11b x11n x11c x12 x13 h := by
  obtain ⟨hd, hq⟩ := nilDs_ok hq
  obtain ⟨y93, e92, q94⟩ := vPtr_ok hq
  obtain ⟨y96, e95, q97⟩ := vPtr_ok q94
  obtain ⟨y99, e98, q100⟩ := vAddr_ok q97
  obtain ⟨y102b, y102n, y102c, e101, q103⟩ := vSlice_ok q100
  obtain ⟨y105, e104, q106⟩ := vInt_ok q103
  obtain ⟨y108, e107, q109⟩ := vInt_ok q106
  exact ⟨y93, y96, y99, y102b, y102n, y102c, y105, y108, ⟨e92, e95, e98, e101, e104, e107, hd⟩, q109⟩
noncomputable def n15_c1 : Code := cFst n14_c2
noncomputable def n15_c2 : Code := cSnd n14_c2
abbrev T8 := (Option Addr) → (Option Addr) → Addr → (Option Addr) → Nat → Nat → Int → Int → Bool → H → Prop
def E8 (g : Env) (x3 : Option Addr) (x4 : Option Addr) (x6 : Addr) (x11b : Option Addr) (x11n : Nat) (x11c : Nat) (x12 : Int) (x13 : Int) (x19 : Bool) : Prop := g.v 3 = (.pointer x3) ∧ g.v 4 = (.pointer x4) ∧ g.v 6 = (.pointer (some x6)) ∧ g.v 11 = (.slice x11b x11n x11c) ∧ g.v 12 = (.int .i64 x12) ∧ g.v 13 = (.int .i64 x13) ∧ g.v 19 = (.bool x19) ∧ g.ds = []
def D8 (K : T8) (g : Env) (h : H) : Prop := nilDs g.ds (vPtr (g.v 3) fun p110 => vPtr (g.v 4) fun p111 => vAddr (g.v 6) fun a112 => vSlice (g.v 11) fun s113b s113n s113c => vInt .i64 (g.v 12) fun i114 => vInt .i64 (g.v 13) fun i115 => vBool (g.v 19) fun b116 => K p110 p111 a112 s113b s113n s113c i114 i115 b116 h)
theorem D8_ok {K : T8} {g : Env} {h : H} (hq : D8 K g h) : ∃ (x3 : Option Addr) (x4 : Option Addr) (x6 : Addr) (x11b : Option Addr) (x11n : Nat) (x11c : Nat) (x12 : Int) (x13 : Int) (x19 : Bool), E8 g x3 x4 x6 x11b x11n x11c x12 x13 x19 ∧ K x3 x4 x6 x11b x11n x11c x12 x13 x19 h := by
  obtain ⟨hd, hq⟩ := nilDs_ok hq
  obtain ⟨y118, e117, q119⟩ := vPtr_ok hq
  obtain ⟨y121, e120, q122⟩ := vPtr_ok q119
  obtain ⟨y124, e123, q125⟩ := vAddr_ok q122
  obtain ⟨y127b, y127n, y127c, e126, q128⟩ := vSlice_ok q125
  obtain ⟨y130, e129, q131⟩ := vInt_ok q128
  obtain ⟨y133, e132, q134⟩ := vInt_ok q131
  obtain ⟨y136, e135, q137⟩ := vBool_ok q134
  exact ⟨y118, y121, y124, y127b, y127n, y127c, y130, y133, y136, ⟨e117, e120, e123, e126, e129, e132, e135, hd⟩, q137⟩
abbrev n16 (x3 : Option Addr) (x4 : Option Addr) (x6 : Addr) (x11b : Option Addr) (x11n : Nat) (x11c : Nat) (x12 : Int) (x13 : Int) (x19 : Bool) (Kn : T5) (Ke1 : T5) (Ke0 : T4) (Kr : T0) (h : H) : Prop :=
  cond x19 (∃ i138, cell h ((x6).add 0) = some (.int .u8 i138) ∧ (∃ i139, cell h ((x6).add 1) = some (.int .i64 i139) ∧ (∃ i140, cell h ((x6).add 2) = some (.int .i64 i140) ∧ (∃ b141, cell h ((x6).add 3) = some (.bool b141) ∧ (∃ b142, cell h ((x6).add 4) = some (.bool b142) ∧ (∃ i143, cell h (x6.add 2) = some (.int .i64 i143) ∧ (newx h ⟨[(.int .u8 i138), (.int .i64 i139), (.int .i64 i140), (.bool b141), (.bool b142), (.int .i64 (0 : Int)), (.int .i64 i143), (.pointer x4), (.pointer none)]⟩ 44 fun a144 h145 => vSome x4 fun a146 => stL (a146.add 8) [(.pointer (some a144))] 0 h145 fun h147 => Kn x3 (some a144) x11b x11n x11c x12 x13 h147))))))) (Kn x3 x4 x11b x11n x11c x12 x13 h)
theorem n16_ok (x3 : Option Addr) (x4 : Option Addr) (x6 : Addr) (x11b : Option Addr) (x11n : Nat) (x11c : Nat) (x12 : Int) (x13 : Int) (x19 : Bool) (Kn : T5) (Ke1 : T5) (Ke0 : T4) (Kr : T0) (g : Env) (hg : E8 g x3 x4 x6 x11b x11n x11c x12 x13 x19) (h : H) (hS : n16 x3 x4 x6 x11b x11n x11c x12 x13 x19 Kn Ke1 Ke0 Kr h) : wpC none Tryd.prog 47 n15_c2 (Q4 Kn Ke1 Ke0 Kr) g h := by
  obtain ⟨hg3, hg4, hg6, hg11, hg12, hg13, hg19, hds⟩ := hg
  refine wpC_of_wpx (by kernel_rfl) (by kernel_rfl) (g' := (((((((⟨g.v, []⟩ : Env).upd (some 3) (.pointer x3)).upd (some 4) (.pointer x4)).upd (some 6) (.pointer (some x6))).upd (some 11) (.slice x11b x11n x11c)).upd (some 12) (.int .i64 x12)).upd (some 13) (.int .i64 x13)).upd (some 19) (.bool x19)) (by rw [env_ds hds, upd_self hg3, upd_self hg4, upd_self hg6, upd_self hg11, upd_self hg12, upd_self hg13, upd_self hg19]) ?_
  have e : (n16 x3 x4 x6 x11b x11n x11c x12 x13 x19 Kn Ke1 Ke0 Kr h) = wpx none Tryd.prog 47 n15_c2 (Q4 Kn Ke1 Ke0 Kr) ((((((((⟨g.v, []⟩ : Env).upd (some 3) (.pointer x3)).upd (some 4) (.pointer x4)).upd (some 6) (.pointer (some x6))).upd (some 11) (.slice x11b x11n x11c)).upd (some 12) (.int .i64 x12)).upd (some 13) (.int .i64 x13)).upd (some 19) (.bool x19)) h := by kernel_rfl
  exact e ▸ hS
def Q5 (Kn : T8) (Ke1 : T5) (Ke0 : T4) (Kr : T0) : XPost
  | .normal, g, h => D8 Kn g h
  | .ret, g, h => D0 Kr g h
  | .exit id, g, h => cond (Nat.beq id 1) (D5 Ke1 g h) (cond (Nat.beq id 0) (D4 Ke0 g h) (False))
  | _, _, _ => False
abbrev n15 (x3 : Option Addr) (x4 : Option Addr) (x6 : Addr) (x11b : Option Addr) (x11n : Nat) (x11c : Nat) (x12 : Int) (x13 : Int) (Kn : T5) (Ke1 : T5) (Ke0 : T4) (Kr : T0) (h : H) : Prop :=
  ∃ i148, cell h (x6.add 2) = some (.int .i64 i148) ∧ (Spl (i148 > (0 : Int)) (n16 x3 x4 x6 x11b x11n x11c x12 x13 true Kn Ke1 Ke0 Kr h) (n16 x3 x4 x6 x11b x11n x11c x12 x13 false Kn Ke1 Ke0 Kr h))
theorem n15_ok (x3 : Option Addr) (x4 : Option Addr) (x6 : Addr) (x11b : Option Addr) (x11n : Nat) (x11c : Nat) (x12 : Int) (x13 : Int) (Kn : T5) (Ke1 : T5) (Ke0 : T4) (Kr : T0) (g : Env) (hg : E7 g x3 x4 x6 x11b x11n x11c x12 x13) (h : H) (hS : n15 x3 x4 x6 x11b x11n x11c x12 x13 Kn Ke1 Ke0 Kr h) : wpC none Tryd.prog 47 n14_c2 (Q4 Kn Ke1 Ke0 Kr) g h := by
  obtain ⟨hg3, hg4, hg6, hg11, hg12, hg13, hds⟩ := hg
  refine wpC_seq' (x := n15_c1) (y := n15_c2) (Q' := (Q5 (fun z3 z4 z6 z11b z11n z11c z12 z13 z19 h => n16 z3 z4 z6 z11b z11n z11c z12 z13 z19 Kn Ke1 Ke0 Kr h) Ke1 Ke0 Kr)) (by kernel_rfl) ?_ ?_
  · refine wpC_of_wpx (by kernel_rfl) (by kernel_rfl) (g' := ((((((⟨g.v, []⟩ : Env).upd (some 3) (.pointer x3)).upd (some 4) (.pointer x4)).upd (some 6) (.pointer (some x6))).upd (some 11) (.slice x11b x11n x11c)).upd (some 12) (.int .i64 x12)).upd (some 13) (.int .i64 x13)) (by rw [env_ds hds, upd_self hg3, upd_self hg4, upd_self hg6, upd_self hg11, upd_self hg12, upd_self hg13]) ?_
    have e : (n15 x3 x4 x6 x11b x11n x11c x12 x13 Kn Ke1 Ke0 Kr h) = wpx none Tryd.prog 47 n15_c1 (Q5 (fun z3 z4 z6 z11b z11n z11c z12 z13 z19 h => n16 z3 z4 z6 z11b z11n z11c z12 z13 z19 Kn Ke1 Ke0 Kr h) Ke1 Ke0 Kr) (((((((⟨g.v, []⟩ : Env).upd (some 3) (.pointer x3)).upd (some 4) (.pointer x4)).upd (some 6) (.pointer (some x6))).upd (some 11) (.slice x11b x11n x11c)).upd (some 12) (.int .i64 x12)).upd (some 13) (.int .i64 x13)) h := by kernel_rfl
    exact e ▸ hS
  · intro e g' h' hq
    cases e with
    | normal =>
      have hq : D8 (fun z3 z4 z6 z11b z11n z11c z12 z13 z19 h => n16 z3 z4 z6 z11b z11n z11c z12 z13 z19 Kn Ke1 Ke0 Kr h) g' h' := hq
      obtain ⟨y3, y4, y6, y11b, y11n, y11c, y12, y13, y19, hg', hq⟩ := D8_ok hq
      exact n16_ok y3 y4 y6 y11b y11n y11c y12 y13 y19 Kn Ke1 Ke0 Kr g' hg' h' hq
    | _ => exact hq
def Q6 (Kn : T7) (Ke1 : T5) (Ke0 : T4) (Kr : T0) : XPost
  | .normal, g, h => D7 Kn g h
  | .ret, g, h => D0 Kr g h
  | .exit id, g, h => cond (Nat.beq id 1) (D5 Ke1 g h) (cond (Nat.beq id 0) (D4 Ke0 g h) (False))
  | _, _, _ => False
abbrev n14 (x3 : Option Addr) (x4 : Option Addr) (x11b : Option Addr) (x11n : Nat) (x11c : Nat) (x12 : Int) (x13 : Int) (Kn : T5) (Ke1 : T5) (Ke0 : T4) (Kr : T0) (h : H) : Prop :=
  (0 ≤ x13 ∧ x13 < (x11n : Int)) ∧ (vSome x11b fun a149 => ∃ i150, cell h (((a149.add (Int.toNat x13 * 5))).add 0) = some (.int .u8 i150) ∧ (∃ i151, cell h (((a149.add (Int.toNat x13 * 5))).add 1) = some (.int .i64 i151) ∧ (∃ i152, cell h (((a149.add (Int.toNat x13 * 5))).add 2) = some (.int .i64 i152) ∧ (∃ b153, cell h (((a149.add (Int.toNat x13 * 5))).add 3) = some (.bool b153) ∧ (∃ b154, cell h (((a149.add (Int.toNat x13 * 5))).add 4) = some (.bool b154) ∧ (newx h ⟨[(.int .u8 (0 : Int)), (.int .i64 (0 : Int)), (.int .i64 (0 : Int)), (.bool false), (.bool false)]⟩ 25 fun a155 h156 => stL a155 [(.int .u8 i150), (.int .i64 i151), (.int .i64 i152), (.bool b153), (.bool b154)] 0 h156 fun h157 => n15 x3 x4 a155 x11b x11n x11c x12 x13 Kn Ke1 Ke0 Kr h157))))))
theorem n14_ok (x3 : Option Addr) (x4 : Option Addr) (x11b : Option Addr) (x11n : Nat) (x11c : Nat) (x12 : Int) (x13 : Int) (Kn : T5) (Ke1 : T5) (Ke0 : T4) (Kr : T0) (g : Env) (hg : E5 g x3 x4 x11b x11n x11c x12 x13) (h : H) (hS : n14 x3 x4 x11b x11n x11c x12 x13 Kn Ke1 Ke0 Kr h) : wpC none Tryd.prog 47 n13_c1 (Q4 Kn Ke1 Ke0 Kr) g h := by
  obtain ⟨hg3, hg4, hg11, hg12, hg13, hds⟩ := hg
  refine wpC_seq' (x := n14_c1) (y := n14_c2) (Q' := (Q6 (fun z3 z4 z6 z11b z11n z11c z12 z13 h => n15 z3 z4 z6 z11b z11n z11c z12 z13 Kn Ke1 Ke0 Kr h) Ke1 Ke0 Kr)) (by kernel_rfl) ?_ ?_
  · refine wpC_of_wpx (by kernel_rfl) (by kernel_rfl) (g' := (((((⟨g.v, []⟩ : Env).upd (some 3) (.pointer x3)).upd (some 4) (.pointer x4)).upd (some 11) (.slice x11b x11n x11c)).upd (some 12) (.int .i64 x12)).upd (some 13) (.int .i64 x13)) (by rw [env_ds hds, upd_self hg3, upd_self hg4, upd_self hg11, upd_self hg12, upd_self hg13]) ?_
    have e : (n14 x3 x4 x11b x11n x11c x12 x13 Kn Ke1 Ke0 Kr h) = wpx none Tryd.prog 47 n14_c1 (Q6 (fun z3 z4 z6 z11b z11n z11c z12 z13 h => n15 z3 z4 z6 z11b z11n z11c z12 z13 Kn Ke1 Ke0 Kr h) Ke1 Ke0 Kr) ((((((⟨g.v, []⟩ : Env).upd (some 3) (.pointer x3)).upd (some 4) (.pointer x4)).upd (some 11) (.slice x11b x11n x11c)).upd (some 12) (.int .i64 x12)).upd (some 13) (.int .i64 x13)) h := by kernel_rfl
    exact e ▸ hS
  · intro e g' h' hq
    cases e with
    | normal =>
      have hq : D7 (fun z3 z4 z6 z11b z11n z11c z12 z13 h => n15 z3 z4 z6 z11b z11n z11c z12 z13 Kn Ke1 Ke0 Kr h) g' h' := hq
      obtain ⟨y3, y4, y6, y11b, y11n, y11c, y12, y13, hg', hq⟩ := D7_ok hq
      exact n15_ok y3 y4 y6 y11b y11n y11c y12 y13 Kn Ke1 Ke0 Kr g' hg' h' hq
    | _ => exact hq
abbrev n13 (x3 : Option Addr) (x4 : Option Addr) (x11b : Option Addr) (x11n : Nat) (x11c : Nat) (x12 : Int) (x13 : Int) (Kn : T5) (Ke0 : T4) (Kr : T0) (h : H) : Prop := n14 x3 x4 x11b x11n x11c x12 x13 Kn Kn Ke0 Kr h
theorem n13_ok (x3 : Option Addr) (x4 : Option Addr) (x11b : Option Addr) (x11n : Nat) (x11c : Nat) (x12 : Int) (x13 : Int) (Kn : T5) (Ke0 : T4) (Kr : T0) (g : Env) (hg : E5 g x3 x4 x11b x11n x11c x12 x13) (h : H) (hS : n13 x3 x4 x11b x11n x11c x12 x13 Kn Ke0 Kr h) : wpC none Tryd.prog 47 n11_c1 (Q3 Kn Ke0 Kr) g h := by
  refine wpC_block' (id := 1) (x := n13_c1) (by kernel_rfl) (n14_ok x3 x4 x11b x11n x11c x12 x13 Kn Kn Ke0 Kr g hg h hS) ?_
  intro e g' h' hq
  cases e <;> exact hq
abbrev n11 (x3 : Option Addr) (x4 : Option Addr) (x11b : Option Addr) (x11n : Nat) (x11c : Nat) (x12 : Int) (x13 : Int) (Kn : T5) (Ke0 : T4) (Kr : T0) (h : H) : Prop := n13 x3 x4 x11b x11n x11c x12 x13 (fun z3 z4 z11b z11n z11c z12 z13 h => n12 z3 z4 z11b z11n z11c z12 z13 Kn Ke0 Kr h) Ke0 Kr h
theorem n11_ok (x3 : Option Addr) (x4 : Option Addr) (x11b : Option Addr) (x11n : Nat) (x11c : Nat) (x12 : Int) (x13 : Int) (Kn : T5) (Ke0 : T4) (Kr : T0) (g : Env) (hg : E5 g x3 x4 x11b x11n x11c x12 x13) (h : H) (hS : n11 x3 x4 x11b x11n x11c x12 x13 Kn Ke0 Kr h) : wpC none Tryd.prog 47 n10_c2 (Q3 Kn Ke0 Kr) g h := by
  refine wpC_seq' (x := n11_c1) (y := n11_c2) (by kernel_rfl) (n13_ok x3 x4 x11b x11n x11c x12 x13 (fun z3 z4 z11b z11n z11c z12 z13 h => n12 z3 z4 z11b z11n z11c z12 z13 Kn Ke0 Kr h) Ke0 Kr g hg h hS) ?_
  intro e g' h' hq
  cases e with
  | normal =>
    have hq : D5 (fun z3 z4 z11b z11n z11c z12 z13 h => n12 z3 z4 z11b z11n z11c z12 z13 Kn Ke0 Kr h) g' h' := hq
    obtain ⟨y3, y4, y11b, y11n, y11c, y12, y13, hg', hq⟩ := D5_ok hq
    exact n12_ok y3 y4 y11b y11n y11c y12 y13 Kn Ke0 Kr g' hg' h' hq
  | _ => exact hq
abbrev n10 (x3 : Option Addr) (x4 : Option Addr) (x11b : Option Addr) (x11n : Nat) (x11c : Nat) (x12 : Int) (x13 : Int) (x14 : Value) (Kn : T5) (Ke0 : T4) (Kr : T0) (h : H) : Prop :=
  vBool x14 fun b158 => cond b158 (n11 x3 x4 x11b x11n x11c x12 x13 Kn Ke0 Kr h) (Ke0 x3 h)
theorem n10_ok (x3 : Option Addr) (x4 : Option Addr) (x11b : Option Addr) (x11n : Nat) (x11c : Nat) (x12 : Int) (x13 : Int) (x14 : Value) (Kn : T5) (Ke0 : T4) (Kr : T0) (g : Env) (hg : E6 g x3 x4 x11b x11n x11c x12 x13 x14) (h : H) (hS : n10 x3 x4 x11b x11n x11c x12 x13 x14 Kn Ke0 Kr h) : wpC none Tryd.prog 47 n9_c2 (Q3 Kn Ke0 Kr) g h := by
  obtain ⟨hg3, hg4, hg11, hg12, hg13, hg14, hds⟩ := hg
  refine wpC_seq' (x := n10_c1) (y := n10_c2) (Q' := (Q3 (fun z3 z4 z11b z11n z11c z12 z13 h => n11 z3 z4 z11b z11n z11c z12 z13 Kn Ke0 Kr h) Ke0 Kr)) (by kernel_rfl) ?_ ?_
  · refine wpC_of_wpx (by kernel_rfl) (by kernel_rfl) (g' := ((((((⟨g.v, []⟩ : Env).upd (some 3) (.pointer x3)).upd (some 4) (.pointer x4)).upd (some 11) (.slice x11b x11n x11c)).upd (some 12) (.int .i64 x12)).upd (some 13) (.int .i64 x13)).upd (some 14) x14) (by rw [env_ds hds, upd_self hg3, upd_self hg4, upd_self hg11, upd_self hg12, upd_self hg13, upd_self hg14]) ?_
    have e : (n10 x3 x4 x11b x11n x11c x12 x13 x14 Kn Ke0 Kr h) = wpx none Tryd.prog 47 n10_c1 (Q3 (fun z3 z4 z11b z11n z11c z12 z13 h => n11 z3 z4 z11b z11n z11c z12 z13 Kn Ke0 Kr h) Ke0 Kr) (((((((⟨g.v, []⟩ : Env).upd (some 3) (.pointer x3)).upd (some 4) (.pointer x4)).upd (some 11) (.slice x11b x11n x11c)).upd (some 12) (.int .i64 x12)).upd (some 13) (.int .i64 x13)).upd (some 14) x14) h := by kernel_rfl
    exact e ▸ hS
  · intro e g' h' hq
    cases e with
    | normal =>
      have hq : D5 (fun z3 z4 z11b z11n z11c z12 z13 h => n11 z3 z4 z11b z11n z11c z12 z13 Kn Ke0 Kr h) g' h' := hq
      obtain ⟨y3, y4, y11b, y11n, y11c, y12, y13, hg', hq⟩ := D5_ok hq
      exact n11_ok y3 y4 y11b y11n y11c y12 y13 Kn Ke0 Kr g' hg' h' hq
    | _ => exact hq
def Q7 (Kn : T6) (Ke0 : T4) (Kr : T0) : XPost
  | .normal, g, h => D6 Kn g h
  | .ret, g, h => D0 Kr g h
  | .exit id, g, h => cond (Nat.beq id 0) (D4 Ke0 g h) (False)
  | _, _, _ => False
abbrev n9 (x3 : Option Addr) (x4 : Option Addr) (x11b : Option Addr) (x11n : Nat) (x11c : Nat) (x12 : Int) (x13 : Int) (Kn : T5) (Ke0 : T4) (Kr : T0) (h : H) : Prop :=
  Spl (x13 < x12) (n10 x3 x4 x11b x11n x11c x12 x13 (.bool true) Kn Ke0 Kr h) (n10 x3 x4 x11b x11n x11c x12 x13 (.bool false) Kn Ke0 Kr h)
theorem n9_ok (x3 : Option Addr) (x4 : Option Addr) (x11b : Option Addr) (x11n : Nat) (x11c : Nat) (x12 : Int) (x13 : Int) (Kn : T5) (Ke0 : T4) (Kr : T0) (g : Env) (hg : E5 g x3 x4 x11b x11n x11c x12 x13) (h : H) (hS : n9 x3 x4 x11b x11n x11c x12 x13 Kn Ke0 Kr h) : wpC none Tryd.prog 47 n8_c1 (Q3 Kn Ke0 Kr) g h := by
  obtain ⟨hg3, hg4, hg11, hg12, hg13, hds⟩ := hg
  refine wpC_seq' (x := n9_c1) (y := n9_c2) (Q' := (Q7 (fun z3 z4 z11b z11n z11c z12 z13 z14 h => n10 z3 z4 z11b z11n z11c z12 z13 z14 Kn Ke0 Kr h) Ke0 Kr)) (by kernel_rfl) ?_ ?_
  · refine wpC_of_wpx (by kernel_rfl) (by kernel_rfl) (g' := (((((⟨g.v, []⟩ : Env).upd (some 3) (.pointer x3)).upd (some 4) (.pointer x4)).upd (some 11) (.slice x11b x11n x11c)).upd (some 12) (.int .i64 x12)).upd (some 13) (.int .i64 x13)) (by rw [env_ds hds, upd_self hg3, upd_self hg4, upd_self hg11, upd_self hg12, upd_self hg13]) ?_
    have e : (n9 x3 x4 x11b x11n x11c x12 x13 Kn Ke0 Kr h) = wpx none Tryd.prog 47 n9_c1 (Q7 (fun z3 z4 z11b z11n z11c z12 z13 z14 h => n10 z3 z4 z11b z11n z11c z12 z13 z14 Kn Ke0 Kr h) Ke0 Kr) ((((((⟨g.v, []⟩ : Env).upd (some 3) (.pointer x3)).upd (some 4) (.pointer x4)).upd (some 11) (.slice x11b x11n x11c)).upd (some 12) (.int .i64 x12)).upd (some 13) (.int .i64 x13)) h := by kernel_rfl
    exact e ▸ hS
  · intro e g' h' hq
    cases e with
    | normal =>
      have hq : D6 (fun z3 z4 z11b z11n z11c z12 z13 z14 h => n10 z3 z4 z11b z11n z11c z12 z13 z14 Kn Ke0 Kr h) g' h' := hq
      obtain ⟨y3, y4, y11b, y11n, y11c, y12, y13, y14, hg', hq⟩ := D6_ok hq
      exact n10_ok y3 y4 y11b y11n y11c y12 y13 y14 Kn Ke0 Kr g' hg' h' hq
    | _ => exact hq
def n8_L (Kn : T4) (Ke0 : T4) (Kr : T0) : Nat → (Option Addr) → (Option Addr) → (Option Addr) → Nat → Nat → Int → Int → H → Prop
  | 0 => fun _ _ _ _ _ _ _ _ => False
  | N + 1 => fun x3 x4 x11b x11n x11c x12 x13 h => n9 x3 x4 x11b x11n x11c x12 x13 (fun z3 z4 z11b z11n z11c z12 z13 h => n8_L Kn Ke0 Kr N z3 z4 z11b z11n z11c z12 z13 h) Ke0 Kr h
abbrev n8 (x3 : Option Addr) (x4 : Option Addr) (x11b : Option Addr) (x11n : Nat) (x11c : Nat) (x12 : Int) (x13 : Int) (Kn : T4) (Ke0 : T4) (Kr : T0) (h : H) : Prop := ∃ N, n8_L Kn Ke0 Kr N x3 x4 x11b x11n x11c x12 x13 h
theorem n8_ok (x3 : Option Addr) (x4 : Option Addr) (x11b : Option Addr) (x11n : Nat) (x11c : Nat) (x12 : Int) (x13 : Int) (Kn : T4) (Ke0 : T4) (Kr : T0) (g : Env) (hg : E5 g x3 x4 x11b x11n x11c x12 x13) (h : H) (hS : n8 x3 x4 x11b x11n x11c x12 x13 Kn Ke0 Kr h) : wpC none Tryd.prog 47 n7_c1 (Q2 Kn Ke0 Kr) g h := by
  obtain ⟨N0, hS⟩ := hS
  refine wpC_loop' (x := n8_c1) (by kernel_rfl) (fun k g h => ∃ (x3 : Option Addr) (x4 : Option Addr) (x11b : Option Addr) (x11n : Nat) (x11c : Nat) (x12 : Int) (x13 : Int), E5 g x3 x4 x11b x11n x11c x12 x13 ∧ n8_L Kn Ke0 Kr k x3 x4 x11b x11n x11c x12 x13 h) (fun g h hr => ?_) (fun N g h hr => ?_) N0 ⟨x3, x4, x11b, x11n, x11c, x12, x13, hg, hS⟩
  · obtain ⟨x3, x4, x11b, x11n, x11c, x12, x13, hg, hS⟩ := hr
    exact hS.elim
  · obtain ⟨x3, x4, x11b, x11n, x11c, x12, x13, hg, hS⟩ := hr
    refine (n9_ok x3 x4 x11b x11n x11c x12 x13 (fun z3 z4 z11b z11n z11c z12 z13 h => n8_L Kn Ke0 Kr N z3 z4 z11b z11n z11c z12 z13 h) Ke0 Kr g hg h hS).mono ?_
    intro e g' h' hq
    cases e with
    | normal => exact D5_ok (K := (fun z3 z4 z11b z11n z11c z12 z13 h => n8_L Kn Ke0 Kr N z3 z4 z11b z11n z11c z12 z13 h)) hq
    | _ => exact hq
abbrev n7 (x3 : Option Addr) (x4 : Option Addr) (x11b : Option Addr) (x11n : Nat) (x11c : Nat) (x12 : Int) (x13 : Int) (Kn : T4) (Kr : T0) (h : H) : Prop := n8 x3 x4 x11b x11n x11c x12 x13 Kn Kn Kr h
theorem n7_ok (x3 : Option Addr) (x4 : Option Addr) (x11b : Option Addr) (x11n : Nat) (x11c : Nat) (x12 : Int) (x13 : Int) (Kn : T4) (Kr : T0) (g : Env) (hg : E5 g x3 x4 x11b x11n x11c x12 x13) (h : H) (hS : n7 x3 x4 x11b x11n x11c x12 x13 Kn Kr h) : wpC none Tryd.prog 47 n6_c2 (Q1 Kn Kr) g h := by
  refine wpC_block' (id := 0) (x := n7_c1) (by kernel_rfl) (n8_ok x3 x4 x11b x11n x11c x12 x13 Kn Kn Kr g hg h hS) ?_
  intro e g' h' hq
  cases e <;> exact hq
def Q8 (Kn : T5) (Kr : T0) : XPost
  | .normal, g, h => D5 Kn g h
  | .ret, g, h => D0 Kr g h
  | _, _, _ => False
abbrev n6 (x0b : Option Addr) (x0n : Nat) (x0c : Nat) (x3 : Option Addr) (x4 : Option Addr) (Kn : T4) (Kr : T0) (h : H) : Prop :=
  n7 x3 x4 x0b x0n x0c (x0n : Int) (0 : Int) Kn Kr h
theorem n6_ok (x0b : Option Addr) (x0n : Nat) (x0c : Nat) (x3 : Option Addr) (x4 : Option Addr) (Kn : T4) (Kr : T0) (g : Env) (hg : E3 g x0b x0n x0c x3 x4) (h : H) (hS : n6 x0b x0n x0c x3 x4 Kn Kr h) : wpC none Tryd.prog 47 n4_c1 (Q1 Kn Kr) g h := by
  obtain ⟨hg0, hg3, hg4, hds⟩ := hg
  refine wpC_seq' (x := n6_c1) (y := n6_c2) (Q' := (Q8 (fun z3 z4 z11b z11n z11c z12 z13 h => n7 z3 z4 z11b z11n z11c z12 z13 Kn Kr h) Kr)) (by kernel_rfl) ?_ ?_
  · refine wpC_of_wpx (by kernel_rfl) (by kernel_rfl) (g' := (((⟨g.v, []⟩ : Env).upd (some 0) (.slice x0b x0n x0c)).upd (some 3) (.pointer x3)).upd (some 4) (.pointer x4)) (by rw [env_ds hds, upd_self hg0, upd_self hg3, upd_self hg4]) ?_
    have e : (n6 x0b x0n x0c x3 x4 Kn Kr h) = wpx none Tryd.prog 47 n6_c1 (Q8 (fun z3 z4 z11b z11n z11c z12 z13 h => n7 z3 z4 z11b z11n z11c z12 z13 Kn Kr h) Kr) ((((⟨g.v, []⟩ : Env).upd (some 0) (.slice x0b x0n x0c)).upd (some 3) (.pointer x3)).upd (some 4) (.pointer x4)) h := by kernel_rfl
    exact e ▸ hS
  · intro e g' h' hq
    cases e with
    | normal =>
      have hq : D5 (fun z3 z4 z11b z11n z11c z12 z13 h => n7 z3 z4 z11b z11n z11c z12 z13 Kn Kr h) g' h' := hq
      obtain ⟨y3, y4, y11b, y11n, y11c, y12, y13, hg', hq⟩ := D5_ok hq
      exact n7_ok y3 y4 y11b y11n y11c y12 y13 Kn Kr g' hg' h' hq
    | _ => exact hq
abbrev n4 (x0b : Option Addr) (x0n : Nat) (x0c : Nat) (x3 : Option Addr) (x4 : Option Addr) (Kn : T0) (Kr : T0) (h : H) : Prop := n6 x0b x0n x0c x3 x4 (fun z3 h => n5 z3 Kn Kr h) Kr h
theorem n4_ok (x0b : Option Addr) (x0n : Nat) (x0c : Nat) (x3 : Option Addr) (x4 : Option Addr) (Kn : T0) (Kr : T0) (g : Env) (hg : E3 g x0b x0n x0c x3 x4) (h : H) (hS : n4 x0b x0n x0c x3 x4 Kn Kr h) : wpC none Tryd.prog 47 n3_c2 (Q0 Kn Kr) g h := by
  refine wpC_seq' (x := n4_c1) (y := n4_c2) (by kernel_rfl) (n6_ok x0b x0n x0c x3 x4 (fun z3 h => n5 z3 Kn Kr h) Kr g hg h hS) ?_
  intro e g' h' hq
  cases e with
  | normal =>
    have hq : D4 (fun z3 h => n5 z3 Kn Kr h) g' h' := hq
    obtain ⟨y3, hg', hq⟩ := D4_ok hq
    exact n5_ok y3 Kn Kr g' hg' h' hq
  | _ => exact hq
def Q9 (Kn : T3) (Kr : T0) : XPost
  | .normal, g, h => D3 Kn g h
  | .ret, g, h => D0 Kr g h
  | _, _, _ => False
abbrev n3 (x0b : Option Addr) (x0n : Nat) (x0c : Nat) (x3 : Option Addr) (Kn : T0) (Kr : T0) (h : H) : Prop :=
  n4 x0b x0n x0c x3 x3 Kn Kr h
theorem n3_ok (x0b : Option Addr) (x0n : Nat) (x0c : Nat) (x3 : Option Addr) (Kn : T0) (Kr : T0) (g : Env) (hg : E2 g x0b x0n x0c x3) (h : H) (hS : n3 x0b x0n x0c x3 Kn Kr h) : wpC none Tryd.prog 47 n2_c2 (Q0 Kn Kr) g h := by
  obtain ⟨hg0, hg3, hds⟩ := hg
  refine wpC_seq' (x := n3_c1) (y := n3_c2) (Q' := (Q9 (fun z0b z0n z0c z3 z4 h => n4 z0b z0n z0c z3 z4 Kn Kr h) Kr)) (by kernel_rfl) ?_ ?_
  · refine wpC_of_wpx (by kernel_rfl) (by kernel_rfl) (g' := ((⟨g.v, []⟩ : Env).upd (some 0) (.slice x0b x0n x0c)).upd (some 3) (.pointer x3)) (by rw [env_ds hds, upd_self hg0, upd_self hg3]) ?_
    have e : (n3 x0b x0n x0c x3 Kn Kr h) = wpx none Tryd.prog 47 n3_c1 (Q9 (fun z0b z0n z0c z3 z4 h => n4 z0b z0n z0c z3 z4 Kn Kr h) Kr) (((⟨g.v, []⟩ : Env).upd (some 0) (.slice x0b x0n x0c)).upd (some 3) (.pointer x3)) h := by kernel_rfl
    exact e ▸ hS
  · intro e g' h' hq
    cases e with
    | normal =>
      have hq : D3 (fun z0b z0n z0c z3 z4 h => n4 z0b z0n z0c z3 z4 Kn Kr h) g' h' := hq
      obtain ⟨y0b, y0n, y0c, y3, y4, hg', hq⟩ := D3_ok hq
      exact n4_ok y0b y0n y0c y3 y4 Kn Kr g' hg' h' hq
    | _ => exact hq
def Q10 (Kn : T2) (Kr : T0) : XPost
  | .normal, g, h => D2 Kn g h
  | .ret, g, h => D0 Kr g h
  | _, _, _ => False
abbrev n2 (x0b : Option Addr) (x0n : Nat) (x0c : Nat) (Kn : T0) (Kr : T0) (h : H) : Prop :=
  newx h ⟨[(.int .u8 (0 : Int)), (.int .i64 (0 : Int)), (.int .i64 (0 : Int)), (.bool false), (.bool false), (.int .i64 (0 : Int)), (.int .i64 (0 : Int)), (.pointer none), (.pointer none)]⟩ 44 fun a159 h160 => n3 x0b x0n x0c (some a159) Kn Kr h160
theorem n2_ok (x0b : Option Addr) (x0n : Nat) (x0c : Nat) (Kn : T0) (Kr : T0) (g : Env) (hg : E1 g x0b x0n x0c) (h : H) (hS : n2 x0b x0n x0c Kn Kr h) : wpC none Tryd.prog 47 n1_c2 (Q0 Kn Kr) g h := by
  obtain ⟨hg0, hds⟩ := hg
  refine wpC_seq' (x := n2_c1) (y := n2_c2) (Q' := (Q10 (fun z0b z0n z0c z3 h => n3 z0b z0n z0c z3 Kn Kr h) Kr)) (by kernel_rfl) ?_ ?_
  · refine wpC_of_wpx (by kernel_rfl) (by kernel_rfl) (g' := (⟨g.v, []⟩ : Env).upd (some 0) (.slice x0b x0n x0c)) (by rw [env_ds hds, upd_self hg0]) ?_
    have e : (n2 x0b x0n x0c Kn Kr h) = wpx none Tryd.prog 47 n2_c1 (Q10 (fun z0b z0n z0c z3 h => n3 z0b z0n z0c z3 Kn Kr h) Kr) ((⟨g.v, []⟩ : Env).upd (some 0) (.slice x0b x0n x0c)) h := by kernel_rfl
    exact e ▸ hS
  · intro e g' h' hq
    cases e with
    | normal =>
      have hq : D2 (fun z0b z0n z0c z3 h => n3 z0b z0n z0c z3 Kn Kr h) g' h' := hq
      obtain ⟨y0b, y0n, y0c, y3, hg', hq⟩ := D2_ok hq
      exact n3_ok y0b y0n y0c y3 Kn Kr g' hg' h' hq
    | _ => exact hq
def Q11 (Kn : T1) (Kr : T0) : XPost
  | .normal, g, h => D1 Kn g h
  | .ret, g, h => D0 Kr g h
  | _, _, _ => False
abbrev n1 (x0b : Option Addr) (x0n : Nat) (x0c : Nat) (Kn : T0) (Kr : T0) (h : H) : Prop :=
  n2 x0b x0n x0c Kn Kr h
theorem n1_ok (x0b : Option Addr) (x0n : Nat) (x0c : Nat) (Kn : T0) (Kr : T0) (g : Env) (hg : E1 g x0b x0n x0c) (h : H) (hS : n1 x0b x0n x0c Kn Kr h) : wpC none Tryd.prog 47 code (Q0 Kn Kr) g h := by
  obtain ⟨hg0, hds⟩ := hg
  refine wpC_seq' (x := n1_c1) (y := n1_c2) (Q' := (Q11 (fun z0b z0n z0c h => n2 z0b z0n z0c Kn Kr h) Kr)) (by kernel_rfl) ?_ ?_
  · refine wpC_of_wpx (by kernel_rfl) (by kernel_rfl) (g' := (⟨g.v, []⟩ : Env).upd (some 0) (.slice x0b x0n x0c)) (by rw [env_ds hds, upd_self hg0]) ?_
    have e : (n1 x0b x0n x0c Kn Kr h) = wpx none Tryd.prog 47 n1_c1 (Q11 (fun z0b z0n z0c h => n2 z0b z0n z0c Kn Kr h) Kr) ((⟨g.v, []⟩ : Env).upd (some 0) (.slice x0b x0n x0c)) h := by kernel_rfl
    exact e ▸ hS
  · intro e g' h' hq
    cases e with
    | normal =>
      have hq : D1 (fun z0b z0n z0c h => n2 z0b z0n z0c Kn Kr h) g' h' := hq
      obtain ⟨y0b, y0n, y0c, hg', hq⟩ := D1_ok hq
      exact n2_ok y0b y0n y0c Kn Kr g' hg' h' hq
    | _ => exact hq
/-- WHAT tympan/stars.chain ASKS -/
abbrev asks (x0b : Option Addr) (x0n : Nat) (x0c : Nat) (K : Value → H → Prop) (h : H) : Prop := n1 x0b x0n x0c (fun y2 h => K (.pointer y2) h) (fun y2 h => K (.pointer y2) h) h
theorem ok (x0b : Option Addr) (x0n : Nat) (x0c : Nat) (K : Value → H → Prop) (h : H) (hS : asks x0b x0n x0c K h) : HCalls Tryd.prog 24 ⟨[(.slice x0b x0n x0c)]⟩ h K := by
  refine calls_of_wpC (c := code) Tryd.func24 (by kernel_rfl) (Nat.le_of_ble_eq_true (by kernel_rfl)) ?_
  refine (n1_ok x0b x0n x0c (fun y2 h => K (.pointer y2) h) (fun y2 h => K (.pointer y2) h) (env0 [(.slice x0b x0n x0c)]) ⟨rfl, rfl⟩ h hS).mono ?_
  intro e g' h' hq
  cases e with
  | normal =>
    have hq : D0 (fun y2 h => K (.pointer y2) h) g' h' := hq
    obtain ⟨y2, ⟨hg2, hd⟩, hq⟩ := D0_ok hq
    show leaveX g'.ds h' _
    rw [hd]
    show K (g'.v 2) h'
    rw [hg2]
    exact hq
  | ret =>
    have hq : D0 (fun y2 h => K (.pointer y2) h) g' h' := hq
    obtain ⟨y2, ⟨hg2, hd⟩, hq⟩ := D0_ok hq
    show leaveX g'.ds h' _
    rw [hd]
    show K (g'.v 2) h'
    rw [hg2]
    exact hq
  | _ => exact hq
end Sx.stars_chain

/-! ### (*tympan/stars.run).suits -/
namespace Sx.stars_run_suits
noncomputable def code : Code := bodyOf Tryd.f25
abbrev T0 := Bool → H → Prop
def E0 (g : Env) (x4 : Bool) : Prop := g.v 4 = (.bool x4) ∧ g.ds = []
def D0 (K : T0) (g : Env) (h : H) : Prop := nilDs g.ds (vBool (g.v 4) fun b1 => K b1 h)
theorem D0_ok {K : T0} {g : Env} {h : H} (hq : D0 K g h) : ∃ (x4 : Bool), E0 g x4 ∧ K x4 h := by
  obtain ⟨hd, hq⟩ := nilDs_ok hq
  obtain ⟨y3, e2, q4⟩ := vBool_ok hq
  exact ⟨y3, ⟨e2, hd⟩, q4⟩
def Q0 (Kn : T0) (Kr : T0) : XPost
  | .normal, g, h => D0 Kn g h
  | .ret, g, h => D0 Kr g h
  | _, _, _ => False
abbrev T1 := (Option Addr) → (Option Addr) → H → Prop
def E1 (g : Env) (x0 : Option Addr) (x1 : Option Addr) : Prop := g.v 0 = (.pointer x0) ∧ g.v 1 = (.pointer x1) ∧ g.ds = []
def D1 (K : T1) (g : Env) (h : H) : Prop := nilDs g.ds (vPtr (g.v 0) fun p5 => vPtr (g.v 1) fun p6 => K p5 p6 h)
theorem D1_ok {K : T1} {g : Env} {h : H} (hq : D1 K g h) : ∃ (x0 : Option Addr) (x1 : Option Addr), E1 g x0 x1 ∧ K x0 x1 h := by
  obtain ⟨hd, hq⟩ := nilDs_ok hq
  obtain ⟨y8, e7, q9⟩ := vPtr_ok hq
  obtain ⟨y11, e10, q12⟩ := vPtr_ok q9
  exact ⟨y8, y11, ⟨e7, e10, hd⟩, q12⟩
noncomputable def n1_c1 : Code := cFst code
noncomputable def n1_c2 : Code := cSnd code
noncomputable def n2_c1 : Code := cFst n1_c2
noncomputable def n2_c2 : Code := cSnd n1_c2
noncomputable def n3_c1 : Code := cFst n2_c2
noncomputable def n3_c2 : Code := cSnd n2_c2
abbrev T2 := (Option Addr) → (Option Addr) → Bool → H → Prop
def E2 (g : Env) (x0 : Option Addr) (x1 : Option Addr) (x5 : Bool) : Prop := g.v 0 = (.pointer x0) ∧ g.v 1 = (.pointer x1) ∧ g.v 5 = (.bool x5) ∧ g.ds = []
def D2 (K : T2) (g : Env) (h : H) : Prop := nilDs g.ds (vPtr (g.v 0) fun p13 => vPtr (g.v 1) fun p14 => vBool (g.v 5) fun b15 => K p13 p14 b15 h)
theorem D2_ok {K : T2} {g : Env} {h : H} (hq : D2 K g h) : ∃ (x0 : Option Addr) (x1 : Option Addr) (x5 : Bool), E2 g x0 x1 x5 ∧ K x0 x1 x5 h := by
  obtain ⟨hd, hq⟩ := nilDs_ok hq
  obtain ⟨y17, e16, q18⟩ := vPtr_ok hq
  obtain ⟨y20, e19, q21⟩ := vPtr_ok q18
  obtain ⟨y23, e22, q24⟩ := vBool_ok q21
  exact ⟨y17, y20, y23, ⟨e16, e19, e22, hd⟩, q24⟩
abbrev n4 (x0 : Option Addr) (x1 : Option Addr) (x5 : Bool) (Kn : T0) (Kr : T0) (h : H) : Prop :=
  cond x5 (vSome x1 fun a25 => ∃ i26, cell h ((a25.add 0).add 2) = some (.int .i64 i26) ∧ ((3 : Int) ≠ 0 ∧ (Spl ((Int.tmod i26 (3 : Int)) = (0 : Int)) (Kr true h) (vSome x0 fun a27 => ∃ i28, cell h ((a27.add 0).add 2) = some (.int .i64 i28) ∧ (vSome x1 fun a29 => ∃ i30, cell h ((a29.add 0).add 2) = some (.int .i64 i30) ∧ (Rng .i64 (i28 + i30) ∧ ((3 : Int) ≠ 0 ∧ (Spl ((Int.tmod (i28 + i30) (3 : Int)) = (0 : Int)) (Kr false h) (Kr true h))))))))) (Kr true h)
theorem n4_ok (x0 : Option Addr) (x1 : Option Addr) (x5 : Bool) (Kn : T0) (Kr : T0) (g : Env) (hg : E2 g x0 x1 x5) (h : H) (hS : n4 x0 x1 x5 Kn Kr h) : wpC none Tryd.prog 63 n3_c2 (Q0 Kn Kr) g h := by
  obtain ⟨hg0, hg1, hg5, hds⟩ := hg
  refine wpC_of_wpx (by kernel_rfl) (by kernel_rfl) (g' := (((⟨g.v, []⟩ : Env).upd (some 0) (.pointer x0)).upd (some 1) (.pointer x1)).upd (some 5) (.bool x5)) (by rw [env_ds hds, upd_self hg0, upd_self hg1, upd_self hg5]) ?_
  have e : (n4 x0 x1 x5 Kn Kr h) = wpx none Tryd.prog 63 n3_c2 (Q0 Kn Kr) ((((⟨g.v, []⟩ : Env).upd (some 0) (.pointer x0)).upd (some 1) (.pointer x1)).upd (some 5) (.bool x5)) h := by kernel_rfl
  exact e ▸ hS
def Q1 (Kn : T2) (Kr : T0) : XPost
  | .normal, g, h => D2 Kn g h
  | .ret, g, h => D0 Kr g h
  | _, _, _ => False
abbrev n3 (x0 : Option Addr) (x1 : Option Addr) (Kn : T0) (Kr : T0) (h : H) : Prop :=
  vSome x1 fun a31 => ∃ b32, cell h ((a31.add 0).add 3) = some (.bool b32) ∧ (cond b32 (n4 x0 x1 true Kn Kr h) (vSome x0 fun a33 => ∃ b34, cell h ((a33.add 0).add 4) = some (.bool b34) ∧ (cond b34 (n4 x0 x1 true Kn Kr h) (n4 x0 x1 false Kn Kr h))))
theorem n3_ok (x0 : Option Addr) (x1 : Option Addr) (Kn : T0) (Kr : T0) (g : Env) (hg : E1 g x0 x1) (h : H) (hS : n3 x0 x1 Kn Kr h) : wpC none Tryd.prog 63 n2_c2 (Q0 Kn Kr) g h := by
  obtain ⟨hg0, hg1, hds⟩ := hg
  refine wpC_seq' (x := n3_c1) (y := n3_c2) (Q' := (Q1 (fun z0 z1 z5 h => n4 z0 z1 z5 Kn Kr h) Kr)) (by kernel_rfl) ?_ ?_
  · refine wpC_of_wpx (by kernel_rfl) (by kernel_rfl) (g' := ((⟨g.v, []⟩ : Env).upd (some 0) (.pointer x0)).upd (some 1) (.pointer x1)) (by rw [env_ds hds, upd_self hg0, upd_self hg1]) ?_
    have e : (n3 x0 x1 Kn Kr h) = wpx none Tryd.prog 63 n3_c1 (Q1 (fun z0 z1 z5 h => n4 z0 z1 z5 Kn Kr h) Kr) (((⟨g.v, []⟩ : Env).upd (some 0) (.pointer x0)).upd (some 1) (.pointer x1)) h := by kernel_rfl
    exact e ▸ hS
  · intro e g' h' hq
    cases e with
    | normal =>
      have hq : D2 (fun z0 z1 z5 h => n4 z0 z1 z5 Kn Kr h) g' h' := hq
      obtain ⟨y0, y1, y5, hg', hq⟩ := D2_ok hq
      exact n4_ok y0 y1 y5 Kn Kr g' hg' h' hq
    | _ => exact hq
def Q2 (Kn : T1) (Kr : T0) : XPost
  | .normal, g, h => D1 Kn g h
  | .ret, g, h => D0 Kr g h
  | _, _, _ => False
abbrev n2 (x0 : Option Addr) (x1 : Option Addr) (Kn : T0) (Kr : T0) (h : H) : Prop :=
  vSome x0 fun a35 => ∃ i36, cell h ((a35.add 0).add 0) = some (.int .u8 i36) ∧ (vSome x1 fun a37 => ∃ i38, cell h ((a37.add 0).add 0) = some (.int .u8 i38) ∧ (Spl (i36 = i38) (vSome x0 fun a39 => ∃ b40, cell h ((a39.add 0).add 3) = some (.bool b40) ∧ (cond b40 (n3 x0 x1 Kn Kr h) (Kr false h))) (Kr false h)))
theorem n2_ok (x0 : Option Addr) (x1 : Option Addr) (Kn : T0) (Kr : T0) (g : Env) (hg : E1 g x0 x1) (h : H) (hS : n2 x0 x1 Kn Kr h) : wpC none Tryd.prog 63 n1_c2 (Q0 Kn Kr) g h := by
  obtain ⟨hg0, hg1, hds⟩ := hg
  refine wpC_seq' (x := n2_c1) (y := n2_c2) (Q' := (Q2 (fun z0 z1 h => n3 z0 z1 Kn Kr h) Kr)) (by kernel_rfl) ?_ ?_
  · refine wpC_of_wpx (by kernel_rfl) (by kernel_rfl) (g' := ((⟨g.v, []⟩ : Env).upd (some 0) (.pointer x0)).upd (some 1) (.pointer x1)) (by rw [env_ds hds, upd_self hg0, upd_self hg1]) ?_
    have e : (n2 x0 x1 Kn Kr h) = wpx none Tryd.prog 63 n2_c1 (Q2 (fun z0 z1 h => n3 z0 z1 Kn Kr h) Kr) (((⟨g.v, []⟩ : Env).upd (some 0) (.pointer x0)).upd (some 1) (.pointer x1)) h := by kernel_rfl
    exact e ▸ hS
  · intro e g' h' hq
    cases e with
    | normal =>
      have hq : D1 (fun z0 z1 h => n3 z0 z1 Kn Kr h) g' h' := hq
      obtain ⟨y0, y1, hg', hq⟩ := D1_ok hq
      exact n3_ok y0 y1 Kn Kr g' hg' h' hq
    | _ => exact hq
abbrev n1 (x0 : Option Addr) (x1 : Option Addr) (Kn : T0) (Kr : T0) (h : H) : Prop :=
  n2 x0 x1 Kn Kr h
theorem n1_ok (x0 : Option Addr) (x1 : Option Addr) (Kn : T0) (Kr : T0) (g : Env) (hg : E1 g x0 x1) (h : H) (hS : n1 x0 x1 Kn Kr h) : wpC none Tryd.prog 63 code (Q0 Kn Kr) g h := by
  obtain ⟨hg0, hg1, hds⟩ := hg
  refine wpC_seq' (x := n1_c1) (y := n1_c2) (Q' := (Q2 (fun z0 z1 h => n2 z0 z1 Kn Kr h) Kr)) (by kernel_rfl) ?_ ?_
  · refine wpC_of_wpx (by kernel_rfl) (by kernel_rfl) (g' := ((⟨g.v, []⟩ : Env).upd (some 0) (.pointer x0)).upd (some 1) (.pointer x1)) (by rw [env_ds hds, upd_self hg0, upd_self hg1]) ?_
    have e : (n1 x0 x1 Kn Kr h) = wpx none Tryd.prog 63 n1_c1 (Q2 (fun z0 z1 h => n2 z0 z1 Kn Kr h) Kr) (((⟨g.v, []⟩ : Env).upd (some 0) (.pointer x0)).upd (some 1) (.pointer x1)) h := by kernel_rfl
    exact e ▸ hS
  · intro e g' h' hq
    cases e with
    | normal =>
      have hq : D1 (fun z0 z1 h => n2 z0 z1 Kn Kr h) g' h' := hq
      obtain ⟨y0, y1, hg', hq⟩ := D1_ok hq
      exact n2_ok y0 y1 Kn Kr g' hg' h' hq
    | _ => exact hq
/-- WHAT (*tympan/stars.run).suits ASKS -/
abbrev asks (x0 : Option Addr) (x1 : Option Addr) (K : Value → H → Prop) (h : H) : Prop := n1 x0 x1 (fun y4 h => K (.bool y4) h) (fun y4 h => K (.bool y4) h) h
theorem ok (x0 : Option Addr) (x1 : Option Addr) (K : Value → H → Prop) (h : H) (hS : asks x0 x1 K h) : HCalls Tryd.prog 25 ⟨[(.pointer x0), (.pointer x1)]⟩ h K := by
  refine calls_of_wpC (c := code) Tryd.func25 (by kernel_rfl) (Nat.le_of_ble_eq_true (by kernel_rfl)) ?_
  refine (n1_ok x0 x1 (fun y4 h => K (.bool y4) h) (fun y4 h => K (.bool y4) h) (env0 [(.pointer x0), (.pointer x1)]) ⟨rfl, rfl, rfl⟩ h hS).mono ?_
  intro e g' h' hq
  cases e with
  | normal =>
    have hq : D0 (fun y4 h => K (.bool y4) h) g' h' := hq
    obtain ⟨y4, ⟨hg4, hd⟩, hq⟩ := D0_ok hq
    show leaveX g'.ds h' _
    rw [hd]
    show K (g'.v 4) h'
    rw [hg4]
    exact hq
  | ret =>
    have hq : D0 (fun y4 h => K (.bool y4) h) g' h' := hq
    obtain ⟨y4, ⟨hg4, hd⟩, hq⟩ := D0_ok hq
    show leaveX g'.ds h' _
    rw [hd]
    show K (g'.v 4) h'
    rw [hg4]
    exact hq
  | _ => exact hq
end Sx.stars_run_suits

/-! ### (*tympan/stars.run).cut -/
namespace Sx.stars_run_cut
noncomputable def code : Code := bodyOf Tryd.f26
abbrev T0 := H → Prop
def E0 (g : Env)  : Prop := g.ds = []
def D0 (K : T0) (g : Env) (h : H) : Prop := nilDs g.ds (K h)
theorem D0_ok {K : T0} {g : Env} {h : H} (hq : D0 K g h) : E0 g  ∧ K  h := by
  obtain ⟨hd, hq⟩ := nilDs_ok hq
  skip
  exact ⟨hd, hq⟩
def Q0 (Kn : T0) (Kr : T0) : XPost
  | .normal, g, h => D0 Kn g h
  | .ret, g, h => D0 Kr g h
  | _, _, _ => False
abbrev T1 := (Option Addr) → H → Prop
def E1 (g : Env) (x0 : Option Addr) : Prop := g.v 0 = (.pointer x0) ∧ g.ds = []
def D1 (K : T1) (g : Env) (h : H) : Prop := nilDs g.ds (vPtr (g.v 0) fun p1 => K p1 h)
theorem D1_ok {K : T1} {g : Env} {h : H} (hq : D1 K g h) : ∃ (x0 : Option Addr), E1 g x0 ∧ K x0 h := by
  obtain ⟨hd, hq⟩ := nilDs_ok hq
  obtain ⟨y3, e2, q4⟩ := vPtr_ok hq
  exact ⟨y3, ⟨e2, hd⟩, q4⟩
noncomputable def n1_c1 : Code := cFst code
noncomputable def n1_c2 : Code := cSnd code
abbrev n2 (x0 : Option Addr) (Kn : T0) (Kr : T0) (h : H) : Prop :=
  vSome x0 fun a5 => ∃ p6, cell h (a5.add 8) = some (.pointer p6) ∧ (SemH Tryd.prog (binS .neq 41 (.tmp 20) (.const (.pointer none)) (.pointer p6) (.pointer none)) h fun v7 h8 => vBool v7 fun b9 => cond b9 (vSome x0 fun a10 => ∃ p11, cell h8 (a10.add 8) = some (.pointer p11) ∧ (vSome x0 fun a12 => ∃ p13, cell h8 (a12.add 7) = some (.pointer p13) ∧ (vSome p11 fun a14 => stL (a14.add 7) [(.pointer p13)] 0 h8 fun h15 => Kn h15))) (Kn h8))
theorem n2_ok (x0 : Option Addr) (Kn : T0) (Kr : T0) (g : Env) (hg : E1 g x0) (h : H) (hS : n2 x0 Kn Kr h) : wpC none Tryd.prog 32 n1_c2 (Q0 Kn Kr) g h := by
  obtain ⟨hg0, hds⟩ := hg
  refine wpC_of_wpx (by kernel_rfl) (by kernel_rfl) (g' := (⟨g.v, []⟩ : Env).upd (some 0) (.pointer x0)) (by rw [env_ds hds, upd_self hg0]) ?_
  have e : (n2 x0 Kn Kr h) = wpx none Tryd.prog 32 n1_c2 (Q0 Kn Kr) ((⟨g.v, []⟩ : Env).upd (some 0) (.pointer x0)) h := by kernel_rfl
  exact e ▸ hS
def Q1 (Kn : T1) (Kr : T0) : XPost
  | .normal, g, h => D1 Kn g h
  | .ret, g, h => D0 Kr g h
  | _, _, _ => False
abbrev n1 (x0 : Option Addr) (Kn : T0) (Kr : T0) (h : H) : Prop :=
  vSome x0 fun a16 => ∃ p17, cell h (a16.add 7) = some (.pointer p17) ∧ (SemH Tryd.prog (binS .neq 41 (.tmp 5) (.const (.pointer none)) (.pointer p17) (.pointer none)) h fun v18 h19 => vBool v18 fun b20 => cond b20 (vSome x0 fun a21 => ∃ p22, cell h19 (a21.add 7) = some (.pointer p22) ∧ (vSome x0 fun a23 => ∃ p24, cell h19 (a23.add 8) = some (.pointer p24) ∧ (vSome p22 fun a25 => stL (a25.add 8) [(.pointer p24)] 0 h19 fun h26 => n2 x0 Kn Kr h26))) (n2 x0 Kn Kr h19))
theorem n1_ok (x0 : Option Addr) (Kn : T0) (Kr : T0) (g : Env) (hg : E1 g x0) (h : H) (hS : n1 x0 Kn Kr h) : wpC none Tryd.prog 32 code (Q0 Kn Kr) g h := by
  obtain ⟨hg0, hds⟩ := hg
  refine wpC_seq' (x := n1_c1) (y := n1_c2) (Q' := (Q1 (fun z0 h => n2 z0 Kn Kr h) Kr)) (by kernel_rfl) ?_ ?_
  · refine wpC_of_wpx (by kernel_rfl) (by kernel_rfl) (g' := (⟨g.v, []⟩ : Env).upd (some 0) (.pointer x0)) (by rw [env_ds hds, upd_self hg0]) ?_
    have e : (n1 x0 Kn Kr h) = wpx none Tryd.prog 32 n1_c1 (Q1 (fun z0 h => n2 z0 Kn Kr h) Kr) ((⟨g.v, []⟩ : Env).upd (some 0) (.pointer x0)) h := by kernel_rfl
    exact e ▸ hS
  · intro e g' h' hq
    cases e with
    | normal =>
      have hq : D1 (fun z0 h => n2 z0 Kn Kr h) g' h' := hq
      obtain ⟨y0, hg', hq⟩ := D1_ok hq
      exact n2_ok y0 Kn Kr g' hg' h' hq
    | _ => exact hq
/-- WHAT (*tympan/stars.run).cut ASKS -/
abbrev asks (x0 : Option Addr) (K : Value → H → Prop) (h : H) : Prop := n1 x0 (fun h => K (.tuple ⟨[]⟩) h) (fun h => K (.tuple ⟨[]⟩) h) h
theorem ok (x0 : Option Addr) (K : Value → H → Prop) (h : H) (hS : asks x0 K h) : HCalls Tryd.prog 26 ⟨[(.pointer x0)]⟩ h K := by
  refine calls_of_wpC (c := code) Tryd.func26 (by kernel_rfl) (Nat.le_of_ble_eq_true (by kernel_rfl)) ?_
  refine (n1_ok x0 (fun h => K (.tuple ⟨[]⟩) h) (fun h => K (.tuple ⟨[]⟩) h) (env0 [(.pointer x0)]) ⟨rfl, rfl⟩ h hS).mono ?_
  intro e g' h' hq
  cases e with
  | normal =>
    have hq : D0 (fun h => K (.tuple ⟨[]⟩) h) g' h' := hq
    obtain ⟨hd, hq⟩ := D0_ok hq
    show leaveX g'.ds h' _
    rw [hd]
    show K (.tuple ⟨[]⟩) h'
    exact hq
  | ret =>
    have hq : D0 (fun h => K (.tuple ⟨[]⟩) h) g' h' := hq
    obtain ⟨hd, hq⟩ := D0_ok hq
    show leaveX g'.ds h' _
    rw [hd]
    show K (.tuple ⟨[]⟩) h'
    exact hq
  | _ => exact hq
end Sx.stars_run_cut

/-! ### tympan/tympanref27.clash -/
namespace Sx.r27_clash
noncomputable def code : Code := bodyOf Tryd.f27
abbrev T0 := Bool → H → Prop
def E0 (g : Env) (x4 : Bool) : Prop := g.v 4 = (.bool x4) ∧ g.ds = []
def D0 (K : T0) (g : Env) (h : H) : Prop := nilDs g.ds (vBool (g.v 4) fun b1 => K b1 h)
theorem D0_ok {K : T0} {g : Env} {h : H} (hq : D0 K g h) : ∃ (x4 : Bool), E0 g x4 ∧ K x4 h := by
  obtain ⟨hd, hq⟩ := nilDs_ok hq
  obtain ⟨y3, e2, q4⟩ := vBool_ok hq
  exact ⟨y3, ⟨e2, hd⟩, q4⟩
def Q0 (Kn : T0) (Kr : T0) : XPost
  | .normal, g, h => D0 Kn g h
  | .ret, g, h => D0 Kr g h
  | _, _, _ => False
abbrev T1 := Int → Int → Int → Bool → Bool → Int → Int → Int → Bool → Bool → H → Prop
def E1 (g : Env) (x0_0 : Int) (x0_1 : Int) (x0_2 : Int) (x0_3 : Bool) (x0_4 : Bool) (x1_0 : Int) (x1_1 : Int) (x1_2 : Int) (x1_3 : Bool) (x1_4 : Bool) : Prop := g.v 0 = (.agg ⟨[(.int .u8 x0_0), (.int .i64 x0_1), (.int .i64 x0_2), (.bool x0_3), (.bool x0_4)]⟩) ∧ g.v 1 = (.agg ⟨[(.int .u8 x1_0), (.int .i64 x1_1), (.int .i64 x1_2), (.bool x1_3), (.bool x1_4)]⟩) ∧ g.ds = []
def D1 (K : T1) (g : Env) (h : H) : Prop := nilDs g.ds (vAgg (g.v 0) fun l5 => uncons l5 fun e6 l7 => vInt .u8 e6 fun i8 => uncons l7 fun e9 l10 => vInt .i64 e9 fun i11 => uncons l10 fun e12 l13 => vInt .i64 e12 fun i14 => uncons l13 fun e15 l16 => vBool e15 fun b17 => uncons l16 fun e18 l19 => vBool e18 fun b20 => unnil l19 (vAgg (g.v 1) fun l21 => uncons l21 fun e22 l23 => vInt .u8 e22 fun i24 => uncons l23 fun e25 l26 => vInt .i64 e25 fun i27 => uncons l26 fun e28 l29 => vInt .i64 e28 fun i30 => uncons l29 fun e31 l32 => vBool e31 fun b33 => uncons l32 fun e34 l35 => vBool e34 fun b36 => unnil l35 (K i8 i11 i14 b17 b20 i24 i27 i30 b33 b36 h)))
theorem D1_ok {K : T1} {g : Env} {h : H} (hq : D1 K g h) : ∃ (x0_0 : Int) (x0_1 : Int) (x0_2 : Int) (x0_3 : Bool) (x0_4 : Bool) (x1_0 : Int) (x1_1 : Int) (x1_2 : Int) (x1_3 : Bool) (x1_4 : Bool), E1 g x0_0 x0_1 x0_2 x0_3 x0_4 x1_0 x1_1 x1_2 x1_3 x1_4 ∧ K x0_0 x0_1 x0_2 x0_3 x0_4 x1_0 x1_1 x1_2 x1_3 x1_4 h := by
  obtain ⟨hd, hq⟩ := nilDs_ok hq
  obtain ⟨l38, e37, q39⟩ := vAgg_ok hq
  obtain ⟨u40, l41, rfl, q42⟩ := uncons_ok q39
  obtain ⟨y43, rfl, q44⟩ := vInt_ok q42
  obtain ⟨u45, l46, rfl, q47⟩ := uncons_ok q44
  obtain ⟨y48, rfl, q49⟩ := vInt_ok q47
  obtain ⟨u50, l51, rfl, q52⟩ := uncons_ok q49
  obtain ⟨y53, rfl, q54⟩ := vInt_ok q52
  obtain ⟨u55, l56, rfl, q57⟩ := uncons_ok q54
  obtain ⟨y58, rfl, q59⟩ := vBool_ok q57
  obtain ⟨u60, l61, rfl, q62⟩ := uncons_ok q59
  obtain ⟨y63, rfl, q64⟩ := vBool_ok q62
  obtain ⟨rfl, q65⟩ := unnil_ok q64
  obtain ⟨l67, e66, q68⟩ := vAgg_ok q65
  obtain ⟨u69, l70, rfl, q71⟩ := uncons_ok q68
  obtain ⟨y72, rfl, q73⟩ := vInt_ok q71
  obtain ⟨u74, l75, rfl, q76⟩ := uncons_ok q73
  obtain ⟨y77, rfl, q78⟩ := vInt_ok q76
  obtain ⟨u79, l80, rfl, q81⟩ := uncons_ok q78
  obtain ⟨y82, rfl, q83⟩ := vInt_ok q81
  obtain ⟨u84, l85, rfl, q86⟩ := uncons_ok q83
  obtain ⟨y87, rfl, q88⟩ := vBool_ok q86
  obtain ⟨u89, l90, rfl, q91⟩ := uncons_ok q88
  obtain ⟨y92, rfl, q93⟩ := vBool_ok q91
  obtain ⟨rfl, q94⟩ := unnil_ok q93
  exact ⟨y43, y48, y53, y58, y63, y72, y77, y82, y87, y92, ⟨e37, e66, hd⟩, q94⟩
abbrev n1 (x0_0 : Int) (x0_1 : Int) (x0_2 : Int) (x0_3 : Bool) (x0_4 : Bool) (x1_0 : Int) (x1_1 : Int) (x1_2 : Int) (x1_3 : Bool) (x1_4 : Bool) (Kn : T0) (Kr : T0) (h : H) : Prop :=
  newx h ⟨[(.int .u8 x0_0), (.int .i64 x0_1), (.int .i64 x0_2), (.bool x0_3), (.bool x0_4)]⟩ 25 fun a95 h96 => newx h96 ⟨[(.int .u8 x1_0), (.int .i64 x1_1), (.int .i64 x1_2), (.bool x1_3), (.bool x1_4)]⟩ 25 fun a97 h98 => ∃ b99, cell h98 (a97.add 3) = some (.bool b99) ∧ (cond b99 (∃ i100, cell h98 (a97.add 2) = some (.int .i64 i100) ∧ ((3 : Int) ≠ 0 ∧ (Spl ((Int.tmod i100 (3 : Int)) = (0 : Int)) (Kr false h98) (∃ i101, cell h98 (a95.add 2) = some (.int .i64 i101) ∧ (∃ i102, cell h98 (a97.add 2) = some (.int .i64 i102) ∧ (Rng .i64 (i101 + i102) ∧ ((3 : Int) ≠ 0 ∧ (Spl ((Int.tmod (i101 + i102) (3 : Int)) = (0 : Int)) (Kr true h98) (Kr false h98))))))))) (∃ b103, cell h98 (a95.add 4) = some (.bool b103) ∧ (cond b103 (∃ i104, cell h98 (a97.add 2) = some (.int .i64 i104) ∧ ((3 : Int) ≠ 0 ∧ (Spl ((Int.tmod i104 (3 : Int)) = (0 : Int)) (Kr false h98) (∃ i105, cell h98 (a95.add 2) = some (.int .i64 i105) ∧ (∃ i106, cell h98 (a97.add 2) = some (.int .i64 i106) ∧ (Rng .i64 (i105 + i106) ∧ ((3 : Int) ≠ 0 ∧ (Spl ((Int.tmod (i105 + i106) (3 : Int)) = (0 : Int)) (Kr true h98) (Kr false h98))))))))) (Kr false h98))))
theorem n1_ok (x0_0 : Int) (x0_1 : Int) (x0_2 : Int) (x0_3 : Bool) (x0_4 : Bool) (x1_0 : Int) (x1_1 : Int) (x1_2 : Int) (x1_3 : Bool) (x1_4 : Bool) (Kn : T0) (Kr : T0) (g : Env) (hg : E1 g x0_0 x0_1 x0_2 x0_3 x0_4 x1_0 x1_1 x1_2 x1_3 x1_4) (h : H) (hS : n1 x0_0 x0_1 x0_2 x0_3 x0_4 x1_0 x1_1 x1_2 x1_3 x1_4 Kn Kr h) : wpC none Tryd.prog 26 code (Q0 Kn Kr) g h := by
  obtain ⟨hg0, hg1, hds⟩ := hg
  refine wpC_of_wpx (by kernel_rfl) (by kernel_rfl) (g' := ((⟨g.v, []⟩ : Env).upd (some 0) (.agg ⟨[(.int .u8 x0_0), (.int .i64 x0_1), (.int .i64 x0_2), (.bool x0_3), (.bool x0_4)]⟩)).upd (some 1) (.agg ⟨[(.int .u8 x1_0), (.int .i64 x1_1), (.int .i64 x1_2), (.bool x1_3), (.bool x1_4)]⟩)) (by rw [env_ds hds, upd_self hg0, upd_self hg1]) ?_
  have e : (n1 x0_0 x0_1 x0_2 x0_3 x0_4 x1_0 x1_1 x1_2 x1_3 x1_4 Kn Kr h) = wpx none Tryd.prog 26 code (Q0 Kn Kr) (((⟨g.v, []⟩ : Env).upd (some 0) (.agg ⟨[(.int .u8 x0_0), (.int .i64 x0_1), (.int .i64 x0_2), (.bool x0_3), (.bool x0_4)]⟩)).upd (some 1) (.agg ⟨[(.int .u8 x1_0), (.int .i64 x1_1), (.int .i64 x1_2), (.bool x1_3), (.bool x1_4)]⟩)) h := by kernel_rfl
  exact e ▸ hS
/-- WHAT tympan/tympanref27.clash ASKS -/
abbrev asks (x0_0 : Int) (x0_1 : Int) (x0_2 : Int) (x0_3 : Bool) (x0_4 : Bool) (x1_0 : Int) (x1_1 : Int) (x1_2 : Int) (x1_3 : Bool) (x1_4 : Bool) (K : Value → H → Prop) (h : H) : Prop := n1 x0_0 x0_1 x0_2 x0_3 x0_4 x1_0 x1_1 x1_2 x1_3 x1_4 (fun y4 h => K (.bool y4) h) (fun y4 h => K (.bool y4) h) h
theorem ok (x0_0 : Int) (x0_1 : Int) (x0_2 : Int) (x0_3 : Bool) (x0_4 : Bool) (x1_0 : Int) (x1_1 : Int) (x1_2 : Int) (x1_3 : Bool) (x1_4 : Bool) (K : Value → H → Prop) (h : H) (hS : asks x0_0 x0_1 x0_2 x0_3 x0_4 x1_0 x1_1 x1_2 x1_3 x1_4 K h) : HCalls Tryd.prog 27 ⟨[(.agg ⟨[(.int .u8 x0_0), (.int .i64 x0_1), (.int .i64 x0_2), (.bool x0_3), (.bool x0_4)]⟩), (.agg ⟨[(.int .u8 x1_0), (.int .i64 x1_1), (.int .i64 x1_2), (.bool x1_3), (.bool x1_4)]⟩)]⟩ h K := by
  refine calls_of_wpC (c := code) Tryd.func27 (by kernel_rfl) (Nat.le_of_ble_eq_true (by kernel_rfl)) ?_
  refine (n1_ok x0_0 x0_1 x0_2 x0_3 x0_4 x1_0 x1_1 x1_2 x1_3 x1_4 (fun y4 h => K (.bool y4) h) (fun y4 h => K (.bool y4) h) (env0 [(.agg ⟨[(.int .u8 x0_0), (.int .i64 x0_1), (.int .i64 x0_2), (.bool x0_3), (.bool x0_4)]⟩), (.agg ⟨[(.int .u8 x1_0), (.int .i64 x1_1), (.int .i64 x1_2), (.bool x1_3), (.bool x1_4)]⟩)]) ⟨rfl, rfl, rfl⟩ h hS).mono ?_
  intro e g' h' hq
  cases e with
  | normal =>
    have hq : D0 (fun y4 h => K (.bool y4) h) g' h' := hq
    obtain ⟨y4, ⟨hg4, hd⟩, hq⟩ := D0_ok hq
    show leaveX g'.ds h' _
    rw [hd]
    show K (g'.v 4) h'
    rw [hg4]
    exact hq
  | ret =>
    have hq : D0 (fun y4 h => K (.bool y4) h) g' h' := hq
    obtain ⟨y4, ⟨hg4, hd⟩, hq⟩ := D0_ok hq
    show leaveX g'.ds h' _
    rw [hd]
    show K (g'.v 4) h'
    rw [hg4]
    exact hq
  | _ => exact hq
end Sx.r27_clash
end Go.Proofs
