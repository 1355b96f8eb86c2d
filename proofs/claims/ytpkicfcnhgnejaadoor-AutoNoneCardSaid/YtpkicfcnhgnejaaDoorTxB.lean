/- The shallow forms of functions, printed by sh.py out of the translation; each with its proof. No condition. -/
import Derived.Test.YtpkicfcnhgnejaaDoorShJ
import Derived.Test.YtpkicfcnhgnejaaDoorProg
namespace Go.Proofs
open Go Go.Sh
set_option linter.unusedVariables false
set_option maxRecDepth 100000

/-! ### tympan/tympanlaw28.AutoFinds -/
namespace Sx.l28_AutoFinds
noncomputable def code : Code := bodyOf Tryd.f3
abbrev T0 := Bool → H → Prop
def E0 (g : Env) (x2 : Bool) : Prop := g.v 2 = (.bool x2) ∧ g.ds = []
def D0 (K : T0) (g : Env) (h : H) : Prop := nilDs g.ds (vBool (g.v 2) fun b1 => K b1 h)
theorem D0_ok {K : T0} {g : Env} {h : H} (hq : D0 K g h) : ∃ (x2 : Bool), E0 g x2 ∧ K x2 h := by
  obtain ⟨hd, hq⟩ := nilDs_ok hq
  obtain ⟨y3, e2, q4⟩ := vBool_ok hq
  exact ⟨y3, ⟨e2, hd⟩, q4⟩
def Q0 (Kn : T0) (Kr : T0) : XPost
  | .normal, g, h => D0 Kn g h
  | .ret, g, h => D0 Kr g h
  | _, _, _ => False
abbrev T1 := (Option Addr) → Nat → Nat → H → Prop
def E1 (g : Env) (x0b : Option Addr) (x0n : Nat) (x0c : Nat) : Prop := g.v 0 = (.slice x0b x0n x0c) ∧ g.ds = []
def D1 (K : T1) (g : Env) (h : H) : Prop := nilDs g.ds (vSlice (g.v 0) fun s5b s5n s5c => K s5b s5n s5c h)
theorem D1_ok {K : T1} {g : Env} {h : H} (hq : D1 K g h) : ∃ (x0b : Option Addr) (x0n : Nat) (x0c : Nat), E1 g x0b x0n x0c ∧ K x0b x0n x0c h := by
  obtain ⟨hd, hq⟩ := nilDs_ok hq
  obtain ⟨y7b, y7n, y7c, e6, q8⟩ := vSlice_ok hq
  exact ⟨y7b, y7n, y7c, ⟨e6, hd⟩, q8⟩
noncomputable def n1_c1 : Code := cFst code
noncomputable def n1_c2 : Code := cSnd code
noncomputable def n2_c1 : Code := cFst n1_c2
noncomputable def n2_c2 : Code := cSnd n1_c2
noncomputable def n3_c1 : Code := cFst n2_c2
noncomputable def n3_c2 : Code := cSnd n2_c2
abbrev T2 := (List UInt8) → H → Prop
def E2 (g : Env) (x3 : List UInt8) : Prop := g.v 3 = (S x3) ∧ g.ds = []
def D2 (K : T2) (g : Env) (h : H) : Prop := nilDs g.ds (vStr (g.v 3) fun s9 => K s9 h)
theorem D2_ok {K : T2} {g : Env} {h : H} (hq : D2 K g h) : ∃ (x3 : List UInt8), E2 g x3 ∧ K x3 h := by
  obtain ⟨hd, hq⟩ := nilDs_ok hq
  obtain ⟨y11, e10, q12⟩ := vStr_ok hq
  exact ⟨y11, ⟨e10, hd⟩, q12⟩
noncomputable def n4_c1 : Code := cFst n3_c2
noncomputable def n4_c2 : Code := cSnd n3_c2
abbrev T3 := (List UInt8) → (Option Addr) → Nat → Nat → H → Prop
def E3 (g : Env) (x3 : List UInt8) (x4b : Option Addr) (x4n : Nat) (x4c : Nat) : Prop := g.v 3 = (S x3) ∧ g.v 4 = (.slice x4b x4n x4c) ∧ g.ds = []
def D3 (K : T3) (g : Env) (h : H) : Prop := nilDs g.ds (vStr (g.v 3) fun s13 => vSlice (g.v 4) fun s14b s14n s14c => K s13 s14b s14n s14c h)
theorem D3_ok {K : T3} {g : Env} {h : H} (hq : D3 K g h) : ∃ (x3 : List UInt8) (x4b : Option Addr) (x4n : Nat) (x4c : Nat), E3 g x3 x4b x4n x4c ∧ K x3 x4b x4n x4c h := by
  obtain ⟨hd, hq⟩ := nilDs_ok hq
  obtain ⟨y16, e15, q17⟩ := vStr_ok hq
  obtain ⟨y19b, y19n, y19c, e18, q20⟩ := vSlice_ok q17
  exact ⟨y16, y19b, y19n, y19c, ⟨e15, e18, hd⟩, q20⟩
noncomputable def n5_c1 : Code := cFst n4_c2
noncomputable def n5_c2 : Code := cSnd n4_c2
abbrev T4 := (Option Addr) → Nat → Nat → (Option Addr) → Nat → Nat → H → Prop
def E4 (g : Env) (x4b : Option Addr) (x4n : Nat) (x4c : Nat) (x5b : Option Addr) (x5n : Nat) (x5c : Nat) : Prop := g.v 4 = (.slice x4b x4n x4c) ∧ g.v 5 = (.slice x5b x5n x5c) ∧ g.ds = []
def D4 (K : T4) (g : Env) (h : H) : Prop := nilDs g.ds (vSlice (g.v 4) fun s21b s21n s21c => vSlice (g.v 5) fun s22b s22n s22c => K s21b s21n s21c s22b s22n s22c h)
theorem D4_ok {K : T4} {g : Env} {h : H} (hq : D4 K g h) : ∃ (x4b : Option Addr) (x4n : Nat) (x4c : Nat) (x5b : Option Addr) (x5n : Nat) (x5c : Nat), E4 g x4b x4n x4c x5b x5n x5c ∧ K x4b x4n x4c x5b x5n x5c h := by
  obtain ⟨hd, hq⟩ := nilDs_ok hq
  obtain ⟨y24b, y24n, y24c, e23, q25⟩ := vSlice_ok hq
  obtain ⟨y27b, y27n, y27c, e26, q28⟩ := vSlice_ok q25
  exact ⟨y24b, y24n, y24c, y27b, y27n, y27c, ⟨e23, e26, hd⟩, q28⟩
noncomputable def n6_c1 : Code := cFst n5_c2
noncomputable def n6_c2 : Code := cSnd n5_c2
noncomputable def n7_c1 : Code := cFst n6_c2
noncomputable def n7_c2 : Code := cSnd n6_c2
abbrev T5 := H → Prop
def E5 (g : Env)  : Prop := g.ds = []
def D5 (K : T5) (g : Env) (h : H) : Prop := nilDs g.ds (K h)
theorem D5_ok {K : T5} {g : Env} {h : H} (hq : D5 K g h) : E5 g  ∧ K  h := by
  obtain ⟨hd, hq⟩ := nilDs_ok hq
  skip
  exact ⟨hd, hq⟩
abbrev n8  (Kn : T0) (Kr : T0) (h : H) : Prop :=
  Kr true h
theorem n8_ok  (Kn : T0) (Kr : T0) (g : Env) (hg : E5 g ) (h : H) (hS : n8  Kn Kr h) : wpC none Tryd.prog 40 n7_c2 (Q0 Kn Kr) g h := by
  have hds : g.ds = [] := hg
  refine wpC_of_wpx (by kernel_rfl) (by kernel_rfl) (g' := ⟨g.v, []⟩) (by rw [env_ds hds]) ?_
  have e : (n8  Kn Kr h) = wpx none Tryd.prog 40 n7_c2 (Q0 Kn Kr) (⟨g.v, []⟩) h := by kernel_rfl
  exact e ▸ hS
def Q1 (Kn : T5) (Kr : T0) : XPost
  | .normal, g, h => D5 Kn g h
  | .ret, g, h => D0 Kr g h
  | _, _, _ => False
noncomputable def n9_c1 : Code := cFst n7_c1
noncomputable def n9_c2 : Code := cSnd n7_c1
abbrev T6 := (Option Addr) → Nat → Nat → (Option Addr) → Nat → Nat → Int → H → Prop
def E6 (g : Env) (x4b : Option Addr) (x4n : Nat) (x4c : Nat) (x5b : Option Addr) (x5n : Nat) (x5c : Nat) (x6 : Int) : Prop := g.v 4 = (.slice x4b x4n x4c) ∧ g.v 5 = (.slice x5b x5n x5c) ∧ g.v 6 = (.int .i64 x6) ∧ g.ds = []
def D6 (K : T6) (g : Env) (h : H) : Prop := nilDs g.ds (vSlice (g.v 4) fun s29b s29n s29c => vSlice (g.v 5) fun s30b s30n s30c => vInt .i64 (g.v 6) fun i31 => K s29b s29n s29c s30b s30n s30c i31 h)
theorem D6_ok {K : T6} {g : Env} {h : H} (hq : D6 K g h) : ∃ (x4b : Option Addr) (x4n : Nat) (x4c : Nat) (x5b : Option Addr) (x5n : Nat) (x5c : Nat) (x6 : Int), E6 g x4b x4n x4c x5b x5n x5c x6 ∧ K x4b x4n x4c x5b x5n x5c x6 h := by
  obtain ⟨hd, hq⟩ := nilDs_ok hq
  obtain ⟨y33b, y33n, y33c, e32, q34⟩ := vSlice_ok hq
  obtain ⟨y36b, y36n, y36c, e35, q37⟩ := vSlice_ok q34
  obtain ⟨y39, e38, q40⟩ := vInt_ok q37
  exact ⟨y33b, y33n, y33c, y36b, y36n, y36c, y39, ⟨e32, e35, e38, hd⟩, q40⟩
noncomputable def n10_c1 : Code := cFst n9_c2
def Q2 (Kn : T5) (Ke0 : T5) (Kr : T0) : XPost
  | .normal, g, h => D5 Kn g h
  | .ret, g, h => D0 Kr g h
  | .exit id, g, h => cond (Nat.beq id 0) (D5 Ke0 g h) (False)
  | _, _, _ => False
noncomputable def n11_c1 : Code := cFst n10_c1
def Q3 (Kn : T6) (Ke0 : T5) (Kr : T0) : XPost
  | .normal, g, h => D6 Kn g h
  | .ret, g, h => D0 Kr g h
  | .exit id, g, h => cond (Nat.beq id 0) (D5 Ke0 g h) (False)
  | _, _, _ => False
def n11_L (Kn : T5) (Ke0 : T5) (Kr : T0) : Nat → (Option Addr) → Nat → Nat → (Option Addr) → Nat → Nat → Int → H → Prop
  | 0 => fun _ _ _ _ _ _ _ _ => False
  | N + 1 => fun x4b x4n x4c x5b x5n x5c x6 h => Spl (x6 < (x4n : Int)) ((0 ≤ x6 ∧ x6 < (x4n : Int)) ∧ (vSome x4b fun a41 => ∃ i42, cell h (((a41.add (Int.toNat x6 * 3))).add 0) = some (.int .i64 i42) ∧ (∃ i43, cell h (((a41.add (Int.toNat x6 * 3))).add 1) = some (.int .i64 i43) ∧ (∃ s44, cell h (((a41.add (Int.toNat x6 * 3))).add 2) = some (S s44) ∧ ((0 ≤ x6 ∧ x6 < (x5n : Int)) ∧ (vSome x5b fun a45 => ∃ i46, cell h (((a45.add (Int.toNat x6 * 3))).add 0) = some (.int .i64 i46) ∧ (∃ i47, cell h (((a45.add (Int.toNat x6 * 3))).add 1) = some (.int .i64 i47) ∧ (∃ s48, cell h (((a45.add (Int.toNat x6 * 3))).add 2) = some (S s48) ∧ (SemR Tryd.prog (binS .neq 28 (.tmp 34) (.tmp 38) (.agg ⟨[(.int .i64 i42), (.int .i64 i43), (S s44)]⟩) (.agg ⟨[(.int .i64 i46), (.int .i64 i47), (S s48)]⟩)) h fun v49 => vBool v49 fun b50 => cond b50 (Kr false h) (Rng .i64 (x6 + (1 : Int)) ∧ (n11_L Kn Ke0 Kr N x4b x4n x4c x5b x5n x5c (x6 + (1 : Int)) h))))))))))) (Ke0 h)
abbrev n11 (x4b : Option Addr) (x4n : Nat) (x4c : Nat) (x5b : Option Addr) (x5n : Nat) (x5c : Nat) (x6 : Int) (Kn : T5) (Ke0 : T5) (Kr : T0) (h : H) : Prop := ∃ N, n11_L Kn Ke0 Kr N x4b x4n x4c x5b x5n x5c x6 h
theorem n11_ok (x4b : Option Addr) (x4n : Nat) (x4c : Nat) (x5b : Option Addr) (x5n : Nat) (x5c : Nat) (x6 : Int) (Kn : T5) (Ke0 : T5) (Kr : T0) (g : Env) (hg : E6 g x4b x4n x4c x5b x5n x5c x6) (h : H) (hS : n11 x4b x4n x4c x5b x5n x5c x6 Kn Ke0 Kr h) : wpC none Tryd.prog 40 n10_c1 (Q2 Kn Ke0 Kr) g h := by
  obtain ⟨N0, hS⟩ := hS
  refine wpC_loop' (x := n11_c1) (by kernel_rfl) (fun k g h => ∃ (x4b : Option Addr) (x4n : Nat) (x4c : Nat) (x5b : Option Addr) (x5n : Nat) (x5c : Nat) (x6 : Int), E6 g x4b x4n x4c x5b x5n x5c x6 ∧ n11_L Kn Ke0 Kr k x4b x4n x4c x5b x5n x5c x6 h) (fun g h hr => ?_) (fun N g h hr => ?_) N0 ⟨x4b, x4n, x4c, x5b, x5n, x5c, x6, hg, hS⟩
  · obtain ⟨x4b, x4n, x4c, x5b, x5n, x5c, x6, hg, hS⟩ := hr
    exact hS.elim
  · obtain ⟨x4b, x4n, x4c, x5b, x5n, x5c, x6, hg, hS⟩ := hr
    have hw : wpC none Tryd.prog 40 n11_c1 (Q3 (fun z4b z4n z4c z5b z5n z5c z6 h => n11_L Kn Ke0 Kr N z4b z4n z4c z5b z5n z5c z6 h) Ke0 Kr) g h := by
      obtain ⟨hg4, hg5, hg6, hds⟩ := hg
      refine wpC_of_wpx (by kernel_rfl) (by kernel_rfl) (g' := (((⟨g.v, []⟩ : Env).upd (some 4) (.slice x4b x4n x4c)).upd (some 5) (.slice x5b x5n x5c)).upd (some 6) (.int .i64 x6)) (by rw [env_ds hds, upd_self hg4, upd_self hg5, upd_self hg6]) ?_
      have e : (n11_L Kn Ke0 Kr (N + 1) x4b x4n x4c x5b x5n x5c x6 h) = wpx none Tryd.prog 40 n11_c1 (Q3 (fun z4b z4n z4c z5b z5n z5c z6 h => n11_L Kn Ke0 Kr N z4b z4n z4c z5b z5n z5c z6 h) Ke0 Kr) ((((⟨g.v, []⟩ : Env).upd (some 4) (.slice x4b x4n x4c)).upd (some 5) (.slice x5b x5n x5c)).upd (some 6) (.int .i64 x6)) h := by kernel_rfl
      exact e ▸ hS
    refine hw.mono ?_
    intro e g' h' hq
    cases e with
    | normal => exact D6_ok (K := (fun z4b z4n z4c z5b z5n z5c z6 h => n11_L Kn Ke0 Kr N z4b z4n z4c z5b z5n z5c z6 h)) hq
    | _ => exact hq
abbrev n10 (x4b : Option Addr) (x4n : Nat) (x4c : Nat) (x5b : Option Addr) (x5n : Nat) (x5c : Nat) (x6 : Int) (Kn : T5) (Kr : T0) (h : H) : Prop := n11 x4b x4n x4c x5b x5n x5c x6 Kn Kn Kr h
theorem n10_ok (x4b : Option Addr) (x4n : Nat) (x4c : Nat) (x5b : Option Addr) (x5n : Nat) (x5c : Nat) (x6 : Int) (Kn : T5) (Kr : T0) (g : Env) (hg : E6 g x4b x4n x4c x5b x5n x5c x6) (h : H) (hS : n10 x4b x4n x4c x5b x5n x5c x6 Kn Kr h) : wpC none Tryd.prog 40 n9_c2 (Q1 Kn Kr) g h := by
  refine wpC_block' (id := 0) (x := n10_c1) (by kernel_rfl) (n11_ok x4b x4n x4c x5b x5n x5c x6 Kn Kn Kr g hg h hS) ?_
  intro e g' h' hq
  cases e <;> exact hq
def Q4 (Kn : T6) (Kr : T0) : XPost
  | .normal, g, h => D6 Kn g h
  | .ret, g, h => D0 Kr g h
  | _, _, _ => False
abbrev n9 (x4b : Option Addr) (x4n : Nat) (x4c : Nat) (x5b : Option Addr) (x5n : Nat) (x5c : Nat) (Kn : T5) (Kr : T0) (h : H) : Prop :=
  n10 x4b x4n x4c x5b x5n x5c (0 : Int) Kn Kr h
theorem n9_ok (x4b : Option Addr) (x4n : Nat) (x4c : Nat) (x5b : Option Addr) (x5n : Nat) (x5c : Nat) (Kn : T5) (Kr : T0) (g : Env) (hg : E4 g x4b x4n x4c x5b x5n x5c) (h : H) (hS : n9 x4b x4n x4c x5b x5n x5c Kn Kr h) : wpC none Tryd.prog 40 n7_c1 (Q1 Kn Kr) g h := by
  obtain ⟨hg4, hg5, hds⟩ := hg
  refine wpC_seq' (x := n9_c1) (y := n9_c2) (Q' := (Q4 (fun z4b z4n z4c z5b z5n z5c z6 h => n10 z4b z4n z4c z5b z5n z5c z6 Kn Kr h) Kr)) (by kernel_rfl) ?_ ?_
  · refine wpC_of_wpx (by kernel_rfl) (by kernel_rfl) (g' := ((⟨g.v, []⟩ : Env).upd (some 4) (.slice x4b x4n x4c)).upd (some 5) (.slice x5b x5n x5c)) (by rw [env_ds hds, upd_self hg4, upd_self hg5]) ?_
    have e : (n9 x4b x4n x4c x5b x5n x5c Kn Kr h) = wpx none Tryd.prog 40 n9_c1 (Q4 (fun z4b z4n z4c z5b z5n z5c z6 h => n10 z4b z4n z4c z5b z5n z5c z6 Kn Kr h) Kr) (((⟨g.v, []⟩ : Env).upd (some 4) (.slice x4b x4n x4c)).upd (some 5) (.slice x5b x5n x5c)) h := by kernel_rfl
    exact e ▸ hS
  · intro e g' h' hq
    cases e with
    | normal =>
      have hq : D6 (fun z4b z4n z4c z5b z5n z5c z6 h => n10 z4b z4n z4c z5b z5n z5c z6 Kn Kr h) g' h' := hq
      obtain ⟨y4b, y4n, y4c, y5b, y5n, y5c, y6, hg', hq⟩ := D6_ok hq
      exact n10_ok y4b y4n y4c y5b y5n y5c y6 Kn Kr g' hg' h' hq
    | _ => exact hq
abbrev n7 (x4b : Option Addr) (x4n : Nat) (x4c : Nat) (x5b : Option Addr) (x5n : Nat) (x5c : Nat) (Kn : T0) (Kr : T0) (h : H) : Prop := n9 x4b x4n x4c x5b x5n x5c (fun  h => n8 Kn Kr h) Kr h
theorem n7_ok (x4b : Option Addr) (x4n : Nat) (x4c : Nat) (x5b : Option Addr) (x5n : Nat) (x5c : Nat) (Kn : T0) (Kr : T0) (g : Env) (hg : E4 g x4b x4n x4c x5b x5n x5c) (h : H) (hS : n7 x4b x4n x4c x5b x5n x5c Kn Kr h) : wpC none Tryd.prog 40 n6_c2 (Q0 Kn Kr) g h := by
  refine wpC_seq' (x := n7_c1) (y := n7_c2) (by kernel_rfl) (n9_ok x4b x4n x4c x5b x5n x5c (fun  h => n8 Kn Kr h) Kr g hg h hS) ?_
  intro e g' h' hq
  cases e with
  | normal =>
    have hq : D5 (fun  h => n8 Kn Kr h) g' h' := hq
    obtain ⟨hg', hq⟩ := D5_ok hq
    exact n8_ok  Kn Kr g' hg' h' hq
  | _ => exact hq
def Q5 (Kn : T4) (Kr : T0) : XPost
  | .normal, g, h => D4 Kn g h
  | .ret, g, h => D0 Kr g h
  | _, _, _ => False
abbrev n6 (x4b : Option Addr) (x4n : Nat) (x4c : Nat) (x5b : Option Addr) (x5n : Nat) (x5c : Nat) (Kn : T0) (Kr : T0) (h : H) : Prop :=
  Spl ((x4n : Int) = (x5n : Int)) (HCalls Tryd.prog 8 ⟨[]⟩ h fun v51 h52 => vBool v51 fun b53 => cond b53 (n7 x4b x4n x4c x5b x5n x5c Kn Kr h52) (Kr false h52)) (Kr false h)
theorem n6_ok (x4b : Option Addr) (x4n : Nat) (x4c : Nat) (x5b : Option Addr) (x5n : Nat) (x5c : Nat) (Kn : T0) (Kr : T0) (g : Env) (hg : E4 g x4b x4n x4c x5b x5n x5c) (h : H) (hS : n6 x4b x4n x4c x5b x5n x5c Kn Kr h) : wpC none Tryd.prog 40 n5_c2 (Q0 Kn Kr) g h := by
  obtain ⟨hg4, hg5, hds⟩ := hg
  refine wpC_seq' (x := n6_c1) (y := n6_c2) (Q' := (Q5 (fun z4b z4n z4c z5b z5n z5c h => n7 z4b z4n z4c z5b z5n z5c Kn Kr h) Kr)) (by kernel_rfl) ?_ ?_
  · refine wpC_of_wpx (by kernel_rfl) (by kernel_rfl) (g' := ((⟨g.v, []⟩ : Env).upd (some 4) (.slice x4b x4n x4c)).upd (some 5) (.slice x5b x5n x5c)) (by rw [env_ds hds, upd_self hg4, upd_self hg5]) ?_
    have e : (n6 x4b x4n x4c x5b x5n x5c Kn Kr h) = wpx none Tryd.prog 40 n6_c1 (Q5 (fun z4b z4n z4c z5b z5n z5c h => n7 z4b z4n z4c z5b z5n z5c Kn Kr h) Kr) (((⟨g.v, []⟩ : Env).upd (some 4) (.slice x4b x4n x4c)).upd (some 5) (.slice x5b x5n x5c)) h := by kernel_rfl
    exact e ▸ hS
  · intro e g' h' hq
    cases e with
    | normal =>
      have hq : D4 (fun z4b z4n z4c z5b z5n z5c h => n7 z4b z4n z4c z5b z5n z5c Kn Kr h) g' h' := hq
      obtain ⟨y4b, y4n, y4c, y5b, y5n, y5c, hg', hq⟩ := D4_ok hq
      exact n7_ok y4b y4n y4c y5b y5n y5c Kn Kr g' hg' h' hq
    | _ => exact hq
abbrev n5 (x3 : List UInt8) (x4b : Option Addr) (x4n : Nat) (x4c : Nat) (Kn : T0) (Kr : T0) (h : H) : Prop :=
  HCalls Tryd.prog 7 ⟨[(S x3)]⟩ h fun v54 h55 => vSlice v54 fun s56b s56n s56c => n6 x4b x4n x4c s56b s56n s56c Kn Kr h55
theorem n5_ok (x3 : List UInt8) (x4b : Option Addr) (x4n : Nat) (x4c : Nat) (Kn : T0) (Kr : T0) (g : Env) (hg : E3 g x3 x4b x4n x4c) (h : H) (hS : n5 x3 x4b x4n x4c Kn Kr h) : wpC none Tryd.prog 40 n4_c2 (Q0 Kn Kr) g h := by
  obtain ⟨hg3, hg4, hds⟩ := hg
  refine wpC_seq' (x := n5_c1) (y := n5_c2) (Q' := (Q5 (fun z4b z4n z4c z5b z5n z5c h => n6 z4b z4n z4c z5b z5n z5c Kn Kr h) Kr)) (by kernel_rfl) ?_ ?_
  · refine wpC_of_wpx (by kernel_rfl) (by kernel_rfl) (g' := ((⟨g.v, []⟩ : Env).upd (some 3) (S x3)).upd (some 4) (.slice x4b x4n x4c)) (by rw [env_ds hds, upd_self hg3, upd_self hg4]) ?_
    have e : (n5 x3 x4b x4n x4c Kn Kr h) = wpx none Tryd.prog 40 n5_c1 (Q5 (fun z4b z4n z4c z5b z5n z5c h => n6 z4b z4n z4c z5b z5n z5c Kn Kr h) Kr) (((⟨g.v, []⟩ : Env).upd (some 3) (S x3)).upd (some 4) (.slice x4b x4n x4c)) h := by kernel_rfl
    exact e ▸ hS
  · intro e g' h' hq
    cases e with
    | normal =>
      have hq : D4 (fun z4b z4n z4c z5b z5n z5c h => n6 z4b z4n z4c z5b z5n z5c Kn Kr h) g' h' := hq
      obtain ⟨y4b, y4n, y4c, y5b, y5n, y5c, hg', hq⟩ := D4_ok hq
      exact n6_ok y4b y4n y4c y5b y5n y5c Kn Kr g' hg' h' hq
    | _ => exact hq
def Q6 (Kn : T3) (Kr : T0) : XPost
  | .normal, g, h => D3 Kn g h
  | .ret, g, h => D0 Kr g h
  | _, _, _ => False
abbrev n4 (x3 : List UInt8) (Kn : T0) (Kr : T0) (h : H) : Prop :=
  HCalls Tryd.prog 6 ⟨[(S x3)]⟩ h fun v57 h58 => vSlice v57 fun s59b s59n s59c => n5 x3 s59b s59n s59c Kn Kr h58
theorem n4_ok (x3 : List UInt8) (Kn : T0) (Kr : T0) (g : Env) (hg : E2 g x3) (h : H) (hS : n4 x3 Kn Kr h) : wpC none Tryd.prog 40 n3_c2 (Q0 Kn Kr) g h := by
  obtain ⟨hg3, hds⟩ := hg
  refine wpC_seq' (x := n4_c1) (y := n4_c2) (Q' := (Q6 (fun z3 z4b z4n z4c h => n5 z3 z4b z4n z4c Kn Kr h) Kr)) (by kernel_rfl) ?_ ?_
  · refine wpC_of_wpx (by kernel_rfl) (by kernel_rfl) (g' := (⟨g.v, []⟩ : Env).upd (some 3) (S x3)) (by rw [env_ds hds, upd_self hg3]) ?_
    have e : (n4 x3 Kn Kr h) = wpx none Tryd.prog 40 n4_c1 (Q6 (fun z3 z4b z4n z4c h => n5 z3 z4b z4n z4c Kn Kr h) Kr) ((⟨g.v, []⟩ : Env).upd (some 3) (S x3)) h := by kernel_rfl
    exact e ▸ hS
  · intro e g' h' hq
    cases e with
    | normal =>
      have hq : D3 (fun z3 z4b z4n z4c h => n5 z3 z4b z4n z4c Kn Kr h) g' h' := hq
      obtain ⟨y3, y4b, y4n, y4c, hg', hq⟩ := D3_ok hq
      exact n5_ok y3 y4b y4n y4c Kn Kr g' hg' h' hq
    | _ => exact hq
def Q7 (Kn : T2) (Kr : T0) : XPost
  | .normal, g, h => D2 Kn g h
  | .ret, g, h => D0 Kr g h
  | _, _, _ => False
abbrev n3 (x0b : Option Addr) (x0n : Nat) (x0c : Nat) (Kn : T0) (Kr : T0) (h : H) : Prop :=
  HCalls Tryd.prog 5 ⟨[(.slice x0b x0n x0c)]⟩ h fun v60 h61 => vStr v60 fun s62 => n4 s62 Kn Kr h61
theorem n3_ok (x0b : Option Addr) (x0n : Nat) (x0c : Nat) (Kn : T0) (Kr : T0) (g : Env) (hg : E1 g x0b x0n x0c) (h : H) (hS : n3 x0b x0n x0c Kn Kr h) : wpC none Tryd.prog 40 n2_c2 (Q0 Kn Kr) g h := by
  obtain ⟨hg0, hds⟩ := hg
  refine wpC_seq' (x := n3_c1) (y := n3_c2) (Q' := (Q7 (fun z3 h => n4 z3 Kn Kr h) Kr)) (by kernel_rfl) ?_ ?_
  · refine wpC_of_wpx (by kernel_rfl) (by kernel_rfl) (g' := (⟨g.v, []⟩ : Env).upd (some 0) (.slice x0b x0n x0c)) (by rw [env_ds hds, upd_self hg0]) ?_
    have e : (n3 x0b x0n x0c Kn Kr h) = wpx none Tryd.prog 40 n3_c1 (Q7 (fun z3 h => n4 z3 Kn Kr h) Kr) ((⟨g.v, []⟩ : Env).upd (some 0) (.slice x0b x0n x0c)) h := by kernel_rfl
    exact e ▸ hS
  · intro e g' h' hq
    cases e with
    | normal =>
      have hq : D2 (fun z3 h => n4 z3 Kn Kr h) g' h' := hq
      obtain ⟨y3, hg', hq⟩ := D2_ok hq
      exact n4_ok y3 Kn Kr g' hg' h' hq
    | _ => exact hq
def Q8 (Kn : T1) (Kr : T0) : XPost
  | .normal, g, h => D1 Kn g h
  | .ret, g, h => D0 Kr g h
  | _, _, _ => False
abbrev n2 (x0b : Option Addr) (x0n : Nat) (x0c : Nat) (Kn : T0) (Kr : T0) (h : H) : Prop :=
  Spl ((x0n : Int) > (2500 : Int)) (Kr true h) (n3 x0b x0n x0c Kn Kr h)
theorem n2_ok (x0b : Option Addr) (x0n : Nat) (x0c : Nat) (Kn : T0) (Kr : T0) (g : Env) (hg : E1 g x0b x0n x0c) (h : H) (hS : n2 x0b x0n x0c Kn Kr h) : wpC none Tryd.prog 40 n1_c2 (Q0 Kn Kr) g h := by
  obtain ⟨hg0, hds⟩ := hg
  refine wpC_seq' (x := n2_c1) (y := n2_c2) (Q' := (Q8 (fun z0b z0n z0c h => n3 z0b z0n z0c Kn Kr h) Kr)) (by kernel_rfl) ?_ ?_
  · refine wpC_of_wpx (by kernel_rfl) (by kernel_rfl) (g' := (⟨g.v, []⟩ : Env).upd (some 0) (.slice x0b x0n x0c)) (by rw [env_ds hds, upd_self hg0]) ?_
    have e : (n2 x0b x0n x0c Kn Kr h) = wpx none Tryd.prog 40 n2_c1 (Q8 (fun z0b z0n z0c h => n3 z0b z0n z0c Kn Kr h) Kr) ((⟨g.v, []⟩ : Env).upd (some 0) (.slice x0b x0n x0c)) h := by kernel_rfl
    exact e ▸ hS
  · intro e g' h' hq
    cases e with
    | normal =>
      have hq : D1 (fun z0b z0n z0c h => n3 z0b z0n z0c Kn Kr h) g' h' := hq
      obtain ⟨y0b, y0n, y0c, hg', hq⟩ := D1_ok hq
      exact n3_ok y0b y0n y0c Kn Kr g' hg' h' hq
    | _ => exact hq
abbrev n1 (x0b : Option Addr) (x0n : Nat) (x0c : Nat) (Kn : T0) (Kr : T0) (h : H) : Prop :=
  n2 x0b x0n x0c Kn Kr h
theorem n1_ok (x0b : Option Addr) (x0n : Nat) (x0c : Nat) (Kn : T0) (Kr : T0) (g : Env) (hg : E1 g x0b x0n x0c) (h : H) (hS : n1 x0b x0n x0c Kn Kr h) : wpC none Tryd.prog 40 code (Q0 Kn Kr) g h := by
  obtain ⟨hg0, hds⟩ := hg
  refine wpC_seq' (x := n1_c1) (y := n1_c2) (Q' := (Q8 (fun z0b z0n z0c h => n2 z0b z0n z0c Kn Kr h) Kr)) (by kernel_rfl) ?_ ?_
  · refine wpC_of_wpx (by kernel_rfl) (by kernel_rfl) (g' := (⟨g.v, []⟩ : Env).upd (some 0) (.slice x0b x0n x0c)) (by rw [env_ds hds, upd_self hg0]) ?_
    have e : (n1 x0b x0n x0c Kn Kr h) = wpx none Tryd.prog 40 n1_c1 (Q8 (fun z0b z0n z0c h => n2 z0b z0n z0c Kn Kr h) Kr) ((⟨g.v, []⟩ : Env).upd (some 0) (.slice x0b x0n x0c)) h := by kernel_rfl
    exact e ▸ hS
  · intro e g' h' hq
    cases e with
    | normal =>
      have hq : D1 (fun z0b z0n z0c h => n2 z0b z0n z0c Kn Kr h) g' h' := hq
      obtain ⟨y0b, y0n, y0c, hg', hq⟩ := D1_ok hq
      exact n2_ok y0b y0n y0c Kn Kr g' hg' h' hq
    | _ => exact hq
/-- WHAT tympan/tympanlaw28.AutoFinds ASKS -/
abbrev asks (x0b : Option Addr) (x0n : Nat) (x0c : Nat) (K : Value → H → Prop) (h : H) : Prop := n1 x0b x0n x0c (fun y2 h => K (.bool y2) h) (fun y2 h => K (.bool y2) h) h
theorem ok (x0b : Option Addr) (x0n : Nat) (x0c : Nat) (K : Value → H → Prop) (h : H) (hS : asks x0b x0n x0c K h) : HCalls Tryd.prog 3 ⟨[(.slice x0b x0n x0c)]⟩ h K := by
  refine calls_of_wpC (c := code) Tryd.func3 (by kernel_rfl) (Nat.le_of_ble_eq_true (by kernel_rfl)) ?_
  refine (n1_ok x0b x0n x0c (fun y2 h => K (.bool y2) h) (fun y2 h => K (.bool y2) h) (env0 [(.slice x0b x0n x0c)]) ⟨rfl, rfl⟩ h hS).mono ?_
  intro e g' h' hq
  cases e with
  | normal =>
    have hq : D0 (fun y2 h => K (.bool y2) h) g' h' := hq
    obtain ⟨y2, ⟨hg2, hd⟩, hq⟩ := D0_ok hq
    show leaveX g'.ds h' _
    rw [hd]
    show K (g'.v 2) h'
    rw [hg2]
    exact hq
  | ret =>
    have hq : D0 (fun y2 h => K (.bool y2) h) g' h' := hq
    obtain ⟨y2, ⟨hg2, hd⟩, hq⟩ := D0_ok hq
    show leaveX g'.ds h' _
    rw [hd]
    show K (g'.v 2) h'
    rw [hg2]
    exact hq
  | _ => exact hq
end Sx.l28_AutoFinds

/-! ### tympan/tympanlaw28.AutoNone -/
namespace Sx.l28_AutoNone
noncomputable def code : Code := bodyOf Tryd.f4
abbrev T0 := Bool → H → Prop
def E0 (g : Env) (x2 : Bool) : Prop := g.v 2 = (.bool x2) ∧ g.ds = []
def D0 (K : T0) (g : Env) (h : H) : Prop := nilDs g.ds (vBool (g.v 2) fun b1 => K b1 h)
theorem D0_ok {K : T0} {g : Env} {h : H} (hq : D0 K g h) : ∃ (x2 : Bool), E0 g x2 ∧ K x2 h := by
  obtain ⟨hd, hq⟩ := nilDs_ok hq
  obtain ⟨y3, e2, q4⟩ := vBool_ok hq
  exact ⟨y3, ⟨e2, hd⟩, q4⟩
def Q0 (Kn : T0) (Kr : T0) : XPost
  | .normal, g, h => D0 Kn g h
  | .ret, g, h => D0 Kr g h
  | _, _, _ => False
abbrev T1 := (Option Addr) → Nat → Nat → H → Prop
def E1 (g : Env) (x0b : Option Addr) (x0n : Nat) (x0c : Nat) : Prop := g.v 0 = (.slice x0b x0n x0c) ∧ g.ds = []
def D1 (K : T1) (g : Env) (h : H) : Prop := nilDs g.ds (vSlice (g.v 0) fun s5b s5n s5c => K s5b s5n s5c h)
theorem D1_ok {K : T1} {g : Env} {h : H} (hq : D1 K g h) : ∃ (x0b : Option Addr) (x0n : Nat) (x0c : Nat), E1 g x0b x0n x0c ∧ K x0b x0n x0c h := by
  obtain ⟨hd, hq⟩ := nilDs_ok hq
  obtain ⟨y7b, y7n, y7c, e6, q8⟩ := vSlice_ok hq
  exact ⟨y7b, y7n, y7c, ⟨e6, hd⟩, q8⟩
noncomputable def n1_c1 : Code := cFst code
noncomputable def n1_c2 : Code := cSnd code
noncomputable def n2_c1 : Code := cFst n1_c2
noncomputable def n2_c2 : Code := cSnd n1_c2
noncomputable def n3_c1 : Code := cFst n2_c2
noncomputable def n3_c2 : Code := cSnd n2_c2
abbrev T2 := (List UInt8) → H → Prop
def E2 (g : Env) (x3 : List UInt8) : Prop := g.v 3 = (S x3) ∧ g.ds = []
def D2 (K : T2) (g : Env) (h : H) : Prop := nilDs g.ds (vStr (g.v 3) fun s9 => K s9 h)
theorem D2_ok {K : T2} {g : Env} {h : H} (hq : D2 K g h) : ∃ (x3 : List UInt8), E2 g x3 ∧ K x3 h := by
  obtain ⟨hd, hq⟩ := nilDs_ok hq
  obtain ⟨y11, e10, q12⟩ := vStr_ok hq
  exact ⟨y11, ⟨e10, hd⟩, q12⟩
noncomputable def n4_c1 : Code := cFst n3_c2
noncomputable def n4_c2 : Code := cSnd n3_c2
abbrev T3 := (List UInt8) → (List UInt8) → H → Prop
def E3 (g : Env) (x3 : List UInt8) (x4 : List UInt8) : Prop := g.v 3 = (S x3) ∧ g.v 4 = (S x4) ∧ g.ds = []
def D3 (K : T3) (g : Env) (h : H) : Prop := nilDs g.ds (vStr (g.v 3) fun s13 => vStr (g.v 4) fun s14 => K s13 s14 h)
theorem D3_ok {K : T3} {g : Env} {h : H} (hq : D3 K g h) : ∃ (x3 : List UInt8) (x4 : List UInt8), E3 g x3 x4 ∧ K x3 x4 h := by
  obtain ⟨hd, hq⟩ := nilDs_ok hq
  obtain ⟨y16, e15, q17⟩ := vStr_ok hq
  obtain ⟨y19, e18, q20⟩ := vStr_ok q17
  exact ⟨y16, y19, ⟨e15, e18, hd⟩, q20⟩
noncomputable def n5_c1 : Code := cFst n4_c2
noncomputable def n5_c2 : Code := cSnd n4_c2
abbrev T4 := (List UInt8) → (List UInt8) → (List UInt8) → H → Prop
def E4 (g : Env) (x3 : List UInt8) (x4 : List UInt8) (x5 : List UInt8) : Prop := g.v 3 = (S x3) ∧ g.v 4 = (S x4) ∧ g.v 5 = (S x5) ∧ g.ds = []
def D4 (K : T4) (g : Env) (h : H) : Prop := nilDs g.ds (vStr (g.v 3) fun s21 => vStr (g.v 4) fun s22 => vStr (g.v 5) fun s23 => K s21 s22 s23 h)
theorem D4_ok {K : T4} {g : Env} {h : H} (hq : D4 K g h) : ∃ (x3 : List UInt8) (x4 : List UInt8) (x5 : List UInt8), E4 g x3 x4 x5 ∧ K x3 x4 x5 h := by
  obtain ⟨hd, hq⟩ := nilDs_ok hq
  obtain ⟨y25, e24, q26⟩ := vStr_ok hq
  obtain ⟨y28, e27, q29⟩ := vStr_ok q26
  obtain ⟨y31, e30, q32⟩ := vStr_ok q29
  exact ⟨y25, y28, y31, ⟨e24, e27, e30, hd⟩, q32⟩
noncomputable def n6_c1 : Code := cFst n5_c2
noncomputable def n6_c2 : Code := cSnd n5_c2
abbrev T5 := (List UInt8) → (List UInt8) → H → Prop
def E5 (g : Env) (x4 : List UInt8) (x5 : List UInt8) : Prop := g.v 4 = (S x4) ∧ g.v 5 = (S x5) ∧ g.ds = []
def D5 (K : T5) (g : Env) (h : H) : Prop := nilDs g.ds (vStr (g.v 4) fun s33 => vStr (g.v 5) fun s34 => K s33 s34 h)
theorem D5_ok {K : T5} {g : Env} {h : H} (hq : D5 K g h) : ∃ (x4 : List UInt8) (x5 : List UInt8), E5 g x4 x5 ∧ K x4 x5 h := by
  obtain ⟨hd, hq⟩ := nilDs_ok hq
  obtain ⟨y36, e35, q37⟩ := vStr_ok hq
  obtain ⟨y39, e38, q40⟩ := vStr_ok q37
  exact ⟨y36, y39, ⟨e35, e38, hd⟩, q40⟩
abbrev n7 (x4 : List UInt8) (x5 : List UInt8) (Kn : T0) (Kr : T0) (h : H) : Prop :=
  HCalls Tryd.prog 6 ⟨[(S x4)]⟩ h fun v41 h42 => vSlice v41 fun s43b s43n s43c => Spl ((s43n : Int) = (0 : Int)) (HCalls Tryd.prog 6 ⟨[(S x5)]⟩ h42 fun v44 h45 => vSlice v44 fun s46b s46n s46c => Spl ((s46n : Int) = (0 : Int)) (Kr true h45) (Kr false h45)) (Kr false h42)
theorem n7_ok (x4 : List UInt8) (x5 : List UInt8) (Kn : T0) (Kr : T0) (g : Env) (hg : E5 g x4 x5) (h : H) (hS : n7 x4 x5 Kn Kr h) : wpC none Tryd.prog 53 n6_c2 (Q0 Kn Kr) g h := by
  obtain ⟨hg4, hg5, hds⟩ := hg
  refine wpC_of_wpx (by kernel_rfl) (by kernel_rfl) (g' := ((⟨g.v, []⟩ : Env).upd (some 4) (S x4)).upd (some 5) (S x5)) (by rw [env_ds hds, upd_self hg4, upd_self hg5]) ?_
  have e : (n7 x4 x5 Kn Kr h) = wpx none Tryd.prog 53 n6_c2 (Q0 Kn Kr) (((⟨g.v, []⟩ : Env).upd (some 4) (S x4)).upd (some 5) (S x5)) h := by kernel_rfl
  exact e ▸ hS
def Q1 (Kn : T5) (Kr : T0) : XPost
  | .normal, g, h => D5 Kn g h
  | .ret, g, h => D0 Kr g h
  | _, _, _ => False
noncomputable def n8_c1 : Code := cFst n6_c1
noncomputable def n8_c2 : Code := cSnd n6_c1
abbrev T6 := (List UInt8) → (List UInt8) → (List UInt8) → Int → H → Prop
def E6 (g : Env) (x3 : List UInt8) (x4 : List UInt8) (x5 : List UInt8) (x6 : Int) : Prop := g.v 3 = (S x3) ∧ g.v 4 = (S x4) ∧ g.v 5 = (S x5) ∧ g.v 6 = (.int .i64 x6) ∧ g.ds = []
def D6 (K : T6) (g : Env) (h : H) : Prop := nilDs g.ds (vStr (g.v 3) fun s47 => vStr (g.v 4) fun s48 => vStr (g.v 5) fun s49 => vInt .i64 (g.v 6) fun i50 => K s47 s48 s49 i50 h)
theorem D6_ok {K : T6} {g : Env} {h : H} (hq : D6 K g h) : ∃ (x3 : List UInt8) (x4 : List UInt8) (x5 : List UInt8) (x6 : Int), E6 g x3 x4 x5 x6 ∧ K x3 x4 x5 x6 h := by
  obtain ⟨hd, hq⟩ := nilDs_ok hq
  obtain ⟨y52, e51, q53⟩ := vStr_ok hq
  obtain ⟨y55, e54, q56⟩ := vStr_ok q53
  obtain ⟨y58, e57, q59⟩ := vStr_ok q56
  obtain ⟨y61, e60, q62⟩ := vInt_ok q59
  exact ⟨y52, y55, y58, y61, ⟨e51, e54, e57, e60, hd⟩, q62⟩
noncomputable def n9_c1 : Code := cFst n8_c2
def Q2 (Kn : T5) (Ke0 : T5) (Kr : T0) : XPost
  | .normal, g, h => D5 Kn g h
  | .ret, g, h => D0 Kr g h
  | .exit id, g, h => cond (Nat.beq id 0) (D5 Ke0 g h) (False)
  | _, _, _ => False
noncomputable def n10_c1 : Code := cFst n9_c1
def Q3 (Kn : T6) (Ke0 : T5) (Kr : T0) : XPost
  | .normal, g, h => D6 Kn g h
  | .ret, g, h => D0 Kr g h
  | .exit id, g, h => cond (Nat.beq id 0) (D5 Ke0 g h) (False)
  | _, _, _ => False
noncomputable def n11_c1 : Code := cFst n10_c1
noncomputable def n11_c2 : Code := cSnd n10_c1
noncomputable def n12_c1 : Code := cFst n11_c2
noncomputable def n12_c2 : Code := cSnd n11_c2
abbrev n13 (x3 : List UInt8) (x4 : List UInt8) (x5 : List UInt8) (x6 : Int) (Kn : T6) (Ke0 : T5) (Kr : T0) (h : H) : Prop :=
  Rng .i64 (x6 + (1 : Int)) ∧ (Kn x3 x4 x5 (x6 + (1 : Int)) h)
theorem n13_ok (x3 : List UInt8) (x4 : List UInt8) (x5 : List UInt8) (x6 : Int) (Kn : T6) (Ke0 : T5) (Kr : T0) (g : Env) (hg : E6 g x3 x4 x5 x6) (h : H) (hS : n13 x3 x4 x5 x6 Kn Ke0 Kr h) : wpC none Tryd.prog 53 n12_c2 (Q3 Kn Ke0 Kr) g h := by
  obtain ⟨hg3, hg4, hg5, hg6, hds⟩ := hg
  refine wpC_of_wpx (by kernel_rfl) (by kernel_rfl) (g' := ((((⟨g.v, []⟩ : Env).upd (some 3) (S x3)).upd (some 4) (S x4)).upd (some 5) (S x5)).upd (some 6) (.int .i64 x6)) (by rw [env_ds hds, upd_self hg3, upd_self hg4, upd_self hg5, upd_self hg6]) ?_
  have e : (n13 x3 x4 x5 x6 Kn Ke0 Kr h) = wpx none Tryd.prog 53 n12_c2 (Q3 Kn Ke0 Kr) (((((⟨g.v, []⟩ : Env).upd (some 3) (S x3)).upd (some 4) (S x4)).upd (some 5) (S x5)).upd (some 6) (.int .i64 x6)) h := by kernel_rfl
  exact e ▸ hS
noncomputable def n14_c1 : Code := cFst n12_c1
def Q4 (Kn : T6) (Ke1 : T6) (Ke0 : T5) (Kr : T0) : XPost
  | .normal, g, h => D6 Kn g h
  | .ret, g, h => D0 Kr g h
  | .exit id, g, h => cond (Nat.beq id 1) (D6 Ke1 g h) (cond (Nat.beq id 0) (D5 Ke0 g h) (False))
  | _, _, _ => False
noncomputable def n15_c1 : Code := cFst n14_c1
noncomputable def n15_c2 : Code := cSnd n14_c1
abbrev T7 := (List UInt8) → (List UInt8) → (List UInt8) → Int → Bool → H → Prop
def E7 (g : Env) (x3 : List UInt8) (x4 : List UInt8) (x5 : List UInt8) (x6 : Int) (x26 : Bool) : Prop := g.v 3 = (S x3) ∧ g.v 4 = (S x4) ∧ g.v 5 = (S x5) ∧ g.v 6 = (.int .i64 x6) ∧ g.v 26 = (.bool x26) ∧ g.ds = []
def D7 (K : T7) (g : Env) (h : H) : Prop := nilDs g.ds (vStr (g.v 3) fun s63 => vStr (g.v 4) fun s64 => vStr (g.v 5) fun s65 => vInt .i64 (g.v 6) fun i66 => vBool (g.v 26) fun b67 => K s63 s64 s65 i66 b67 h)
theorem D7_ok {K : T7} {g : Env} {h : H} (hq : D7 K g h) : ∃ (x3 : List UInt8) (x4 : List UInt8) (x5 : List UInt8) (x6 : Int) (x26 : Bool), E7 g x3 x4 x5 x6 x26 ∧ K x3 x4 x5 x6 x26 h := by
  obtain ⟨hd, hq⟩ := nilDs_ok hq
  obtain ⟨y69, e68, q70⟩ := vStr_ok hq
  obtain ⟨y72, e71, q73⟩ := vStr_ok q70
  obtain ⟨y75, e74, q76⟩ := vStr_ok q73
  obtain ⟨y78, e77, q79⟩ := vInt_ok q76
  obtain ⟨y81, e80, q82⟩ := vBool_ok q79
  exact ⟨y69, y72, y75, y78, y81, ⟨e68, e71, e74, e77, e80, hd⟩, q82⟩
abbrev n16 (x3 : List UInt8) (x4 : List UInt8) (x5 : List UInt8) (x6 : Int) (x26 : Bool) (Kn : T6) (Ke1 : T6) (Ke0 : T5) (Kr : T0) (h : H) : Prop :=
  cond x26 (Rng .i64 (x6 + (1 : Int)) ∧ ((0 ≤ x6 ∧ x6 ≤ (x6 + (1 : Int)) ∧ (x6 + (1 : Int)) ≤ (x3.length : Int)) ∧ (((x4.length + (sub x3 x6 (x6 + (1 : Int))).length : Nat) : Int) ≤ 9223372036854775807 ∧ (Rng .i64 (x6 + (1 : Int)) ∧ ((0 ≤ x6 ∧ x6 ≤ (x6 + (1 : Int)) ∧ (x6 + (1 : Int)) ≤ (x3.length : Int)) ∧ (((x5.length + (sub x3 x6 (x6 + (1 : Int))).length : Nat) : Int) ≤ 9223372036854775807 ∧ (Kn x3 (x4 ++ (sub x3 x6 (x6 + (1 : Int)))) (x5 ++ (sub x3 x6 (x6 + (1 : Int)))) x6 h))))))) (((x5.length + ([32, 46, 32] : List UInt8).length : Nat) : Int) ≤ 9223372036854775807 ∧ (Kn x3 x4 (x5 ++ ([32, 46, 32] : List UInt8)) x6 h))
theorem n16_ok (x3 : List UInt8) (x4 : List UInt8) (x5 : List UInt8) (x6 : Int) (x26 : Bool) (Kn : T6) (Ke1 : T6) (Ke0 : T5) (Kr : T0) (g : Env) (hg : E7 g x3 x4 x5 x6 x26) (h : H) (hS : n16 x3 x4 x5 x6 x26 Kn Ke1 Ke0 Kr h) : wpC none Tryd.prog 53 n15_c2 (Q4 Kn Ke1 Ke0 Kr) g h := by
  obtain ⟨hg3, hg4, hg5, hg6, hg26, hds⟩ := hg
  refine wpC_of_wpx (by kernel_rfl) (by kernel_rfl) (g' := (((((⟨g.v, []⟩ : Env).upd (some 3) (S x3)).upd (some 4) (S x4)).upd (some 5) (S x5)).upd (some 6) (.int .i64 x6)).upd (some 26) (.bool x26)) (by rw [env_ds hds, upd_self hg3, upd_self hg4, upd_self hg5, upd_self hg6, upd_self hg26]) ?_
  have e : (n16 x3 x4 x5 x6 x26 Kn Ke1 Ke0 Kr h) = wpx none Tryd.prog 53 n15_c2 (Q4 Kn Ke1 Ke0 Kr) ((((((⟨g.v, []⟩ : Env).upd (some 3) (S x3)).upd (some 4) (S x4)).upd (some 5) (S x5)).upd (some 6) (.int .i64 x6)).upd (some 26) (.bool x26)) h := by kernel_rfl
  exact e ▸ hS
def Q5 (Kn : T7) (Ke1 : T6) (Ke0 : T5) (Kr : T0) : XPost
  | .normal, g, h => D7 Kn g h
  | .ret, g, h => D0 Kr g h
  | .exit id, g, h => cond (Nat.beq id 1) (D6 Ke1 g h) (cond (Nat.beq id 0) (D5 Ke0 g h) (False))
  | _, _, _ => False
abbrev n15 (x3 : List UInt8) (x4 : List UInt8) (x5 : List UInt8) (x6 : Int) (Kn : T6) (Ke1 : T6) (Ke0 : T5) (Kr : T0) (h : H) : Prop :=
  (0 ≤ x6 ∧ x6 < (x3.length : Int)) ∧ (Spl (((List.getD x3 (Int.toNat x6) 0).toNat : Int) = (46 : Int)) (n16 x3 x4 x5 x6 false Kn Ke1 Ke0 Kr h) (n16 x3 x4 x5 x6 true Kn Ke1 Ke0 Kr h))
theorem n15_ok (x3 : List UInt8) (x4 : List UInt8) (x5 : List UInt8) (x6 : Int) (Kn : T6) (Ke1 : T6) (Ke0 : T5) (Kr : T0) (g : Env) (hg : E6 g x3 x4 x5 x6) (h : H) (hS : n15 x3 x4 x5 x6 Kn Ke1 Ke0 Kr h) : wpC none Tryd.prog 53 n14_c1 (Q4 Kn Ke1 Ke0 Kr) g h := by
  obtain ⟨hg3, hg4, hg5, hg6, hds⟩ := hg
  refine wpC_seq' (x := n15_c1) (y := n15_c2) (Q' := (Q5 (fun z3 z4 z5 z6 z26 h => n16 z3 z4 z5 z6 z26 Kn Ke1 Ke0 Kr h) Ke1 Ke0 Kr)) (by kernel_rfl) ?_ ?_
  · refine wpC_of_wpx (by kernel_rfl) (by kernel_rfl) (g' := ((((⟨g.v, []⟩ : Env).upd (some 3) (S x3)).upd (some 4) (S x4)).upd (some 5) (S x5)).upd (some 6) (.int .i64 x6)) (by rw [env_ds hds, upd_self hg3, upd_self hg4, upd_self hg5, upd_self hg6]) ?_
    have e : (n15 x3 x4 x5 x6 Kn Ke1 Ke0 Kr h) = wpx none Tryd.prog 53 n15_c1 (Q5 (fun z3 z4 z5 z6 z26 h => n16 z3 z4 z5 z6 z26 Kn Ke1 Ke0 Kr h) Ke1 Ke0 Kr) (((((⟨g.v, []⟩ : Env).upd (some 3) (S x3)).upd (some 4) (S x4)).upd (some 5) (S x5)).upd (some 6) (.int .i64 x6)) h := by kernel_rfl
    exact e ▸ hS
  · intro e g' h' hq
    cases e with
    | normal =>
      have hq : D7 (fun z3 z4 z5 z6 z26 h => n16 z3 z4 z5 z6 z26 Kn Ke1 Ke0 Kr h) g' h' := hq
      obtain ⟨y3, y4, y5, y6, y26, hg', hq⟩ := D7_ok hq
      exact n16_ok y3 y4 y5 y6 y26 Kn Ke1 Ke0 Kr g' hg' h' hq
    | _ => exact hq
abbrev n14 (x3 : List UInt8) (x4 : List UInt8) (x5 : List UInt8) (x6 : Int) (Kn : T6) (Ke0 : T5) (Kr : T0) (h : H) : Prop := n15 x3 x4 x5 x6 Kn Kn Ke0 Kr h
theorem n14_ok (x3 : List UInt8) (x4 : List UInt8) (x5 : List UInt8) (x6 : Int) (Kn : T6) (Ke0 : T5) (Kr : T0) (g : Env) (hg : E6 g x3 x4 x5 x6) (h : H) (hS : n14 x3 x4 x5 x6 Kn Ke0 Kr h) : wpC none Tryd.prog 53 n12_c1 (Q3 Kn Ke0 Kr) g h := by
  refine wpC_block' (id := 1) (x := n14_c1) (by kernel_rfl) (n15_ok x3 x4 x5 x6 Kn Kn Ke0 Kr g hg h hS) ?_
  intro e g' h' hq
  cases e <;> exact hq
abbrev n12 (x3 : List UInt8) (x4 : List UInt8) (x5 : List UInt8) (x6 : Int) (Kn : T6) (Ke0 : T5) (Kr : T0) (h : H) : Prop := n14 x3 x4 x5 x6 (fun z3 z4 z5 z6 h => n13 z3 z4 z5 z6 Kn Ke0 Kr h) Ke0 Kr h
theorem n12_ok (x3 : List UInt8) (x4 : List UInt8) (x5 : List UInt8) (x6 : Int) (Kn : T6) (Ke0 : T5) (Kr : T0) (g : Env) (hg : E6 g x3 x4 x5 x6) (h : H) (hS : n12 x3 x4 x5 x6 Kn Ke0 Kr h) : wpC none Tryd.prog 53 n11_c2 (Q3 Kn Ke0 Kr) g h := by
  refine wpC_seq' (x := n12_c1) (y := n12_c2) (by kernel_rfl) (n14_ok x3 x4 x5 x6 (fun z3 z4 z5 z6 h => n13 z3 z4 z5 z6 Kn Ke0 Kr h) Ke0 Kr g hg h hS) ?_
  intro e g' h' hq
  cases e with
  | normal =>
    have hq : D6 (fun z3 z4 z5 z6 h => n13 z3 z4 z5 z6 Kn Ke0 Kr h) g' h' := hq
    obtain ⟨y3, y4, y5, y6, hg', hq⟩ := D6_ok hq
    exact n13_ok y3 y4 y5 y6 Kn Ke0 Kr g' hg' h' hq
  | _ => exact hq
abbrev n11 (x3 : List UInt8) (x4 : List UInt8) (x5 : List UInt8) (x6 : Int) (Kn : T6) (Ke0 : T5) (Kr : T0) (h : H) : Prop :=
  Spl (x6 < (x3.length : Int)) (n12 x3 x4 x5 x6 Kn Ke0 Kr h) (Ke0 x4 x5 h)
theorem n11_ok (x3 : List UInt8) (x4 : List UInt8) (x5 : List UInt8) (x6 : Int) (Kn : T6) (Ke0 : T5) (Kr : T0) (g : Env) (hg : E6 g x3 x4 x5 x6) (h : H) (hS : n11 x3 x4 x5 x6 Kn Ke0 Kr h) : wpC none Tryd.prog 53 n10_c1 (Q3 Kn Ke0 Kr) g h := by
  obtain ⟨hg3, hg4, hg5, hg6, hds⟩ := hg
  refine wpC_seq' (x := n11_c1) (y := n11_c2) (Q' := (Q3 (fun z3 z4 z5 z6 h => n12 z3 z4 z5 z6 Kn Ke0 Kr h) Ke0 Kr)) (by kernel_rfl) ?_ ?_
  · refine wpC_of_wpx (by kernel_rfl) (by kernel_rfl) (g' := ((((⟨g.v, []⟩ : Env).upd (some 3) (S x3)).upd (some 4) (S x4)).upd (some 5) (S x5)).upd (some 6) (.int .i64 x6)) (by rw [env_ds hds, upd_self hg3, upd_self hg4, upd_self hg5, upd_self hg6]) ?_
    have e : (n11 x3 x4 x5 x6 Kn Ke0 Kr h) = wpx none Tryd.prog 53 n11_c1 (Q3 (fun z3 z4 z5 z6 h => n12 z3 z4 z5 z6 Kn Ke0 Kr h) Ke0 Kr) (((((⟨g.v, []⟩ : Env).upd (some 3) (S x3)).upd (some 4) (S x4)).upd (some 5) (S x5)).upd (some 6) (.int .i64 x6)) h := by kernel_rfl
    exact e ▸ hS
  · intro e g' h' hq
    cases e with
    | normal =>
      have hq : D6 (fun z3 z4 z5 z6 h => n12 z3 z4 z5 z6 Kn Ke0 Kr h) g' h' := hq
      obtain ⟨y3, y4, y5, y6, hg', hq⟩ := D6_ok hq
      exact n12_ok y3 y4 y5 y6 Kn Ke0 Kr g' hg' h' hq
    | _ => exact hq
def n10_L (Kn : T5) (Ke0 : T5) (Kr : T0) : Nat → (List UInt8) → (List UInt8) → (List UInt8) → Int → H → Prop
  | 0 => fun _ _ _ _ _ => False
  | N + 1 => fun x3 x4 x5 x6 h => n11 x3 x4 x5 x6 (fun z3 z4 z5 z6 h => n10_L Kn Ke0 Kr N z3 z4 z5 z6 h) Ke0 Kr h
abbrev n10 (x3 : List UInt8) (x4 : List UInt8) (x5 : List UInt8) (x6 : Int) (Kn : T5) (Ke0 : T5) (Kr : T0) (h : H) : Prop := ∃ N, n10_L Kn Ke0 Kr N x3 x4 x5 x6 h
theorem n10_ok (x3 : List UInt8) (x4 : List UInt8) (x5 : List UInt8) (x6 : Int) (Kn : T5) (Ke0 : T5) (Kr : T0) (g : Env) (hg : E6 g x3 x4 x5 x6) (h : H) (hS : n10 x3 x4 x5 x6 Kn Ke0 Kr h) : wpC none Tryd.prog 53 n9_c1 (Q2 Kn Ke0 Kr) g h := by
  obtain ⟨N0, hS⟩ := hS
  refine wpC_loop' (x := n10_c1) (by kernel_rfl) (fun k g h => ∃ (x3 : List UInt8) (x4 : List UInt8) (x5 : List UInt8) (x6 : Int), E6 g x3 x4 x5 x6 ∧ n10_L Kn Ke0 Kr k x3 x4 x5 x6 h) (fun g h hr => ?_) (fun N g h hr => ?_) N0 ⟨x3, x4, x5, x6, hg, hS⟩
  · obtain ⟨x3, x4, x5, x6, hg, hS⟩ := hr
    exact hS.elim
  · obtain ⟨x3, x4, x5, x6, hg, hS⟩ := hr
    refine (n11_ok x3 x4 x5 x6 (fun z3 z4 z5 z6 h => n10_L Kn Ke0 Kr N z3 z4 z5 z6 h) Ke0 Kr g hg h hS).mono ?_
    intro e g' h' hq
    cases e with
    | normal => exact D6_ok (K := (fun z3 z4 z5 z6 h => n10_L Kn Ke0 Kr N z3 z4 z5 z6 h)) hq
    | _ => exact hq
abbrev n9 (x3 : List UInt8) (x4 : List UInt8) (x5 : List UInt8) (x6 : Int) (Kn : T5) (Kr : T0) (h : H) : Prop := n10 x3 x4 x5 x6 Kn Kn Kr h
theorem n9_ok (x3 : List UInt8) (x4 : List UInt8) (x5 : List UInt8) (x6 : Int) (Kn : T5) (Kr : T0) (g : Env) (hg : E6 g x3 x4 x5 x6) (h : H) (hS : n9 x3 x4 x5 x6 Kn Kr h) : wpC none Tryd.prog 53 n8_c2 (Q1 Kn Kr) g h := by
  refine wpC_block' (id := 0) (x := n9_c1) (by kernel_rfl) (n10_ok x3 x4 x5 x6 Kn Kn Kr g hg h hS) ?_
  intro e g' h' hq
  cases e <;> exact hq
def Q6 (Kn : T6) (Kr : T0) : XPost
  | .normal, g, h => D6 Kn g h
  | .ret, g, h => D0 Kr g h
  | _, _, _ => False
abbrev n8 (x3 : List UInt8) (x4 : List UInt8) (x5 : List UInt8) (Kn : T5) (Kr : T0) (h : H) : Prop :=
  n9 x3 x4 x5 (0 : Int) Kn Kr h
theorem n8_ok (x3 : List UInt8) (x4 : List UInt8) (x5 : List UInt8) (Kn : T5) (Kr : T0) (g : Env) (hg : E4 g x3 x4 x5) (h : H) (hS : n8 x3 x4 x5 Kn Kr h) : wpC none Tryd.prog 53 n6_c1 (Q1 Kn Kr) g h := by
  obtain ⟨hg3, hg4, hg5, hds⟩ := hg
  refine wpC_seq' (x := n8_c1) (y := n8_c2) (Q' := (Q6 (fun z3 z4 z5 z6 h => n9 z3 z4 z5 z6 Kn Kr h) Kr)) (by kernel_rfl) ?_ ?_
  · refine wpC_of_wpx (by kernel_rfl) (by kernel_rfl) (g' := (((⟨g.v, []⟩ : Env).upd (some 3) (S x3)).upd (some 4) (S x4)).upd (some 5) (S x5)) (by rw [env_ds hds, upd_self hg3, upd_self hg4, upd_self hg5]) ?_
    have e : (n8 x3 x4 x5 Kn Kr h) = wpx none Tryd.prog 53 n8_c1 (Q6 (fun z3 z4 z5 z6 h => n9 z3 z4 z5 z6 Kn Kr h) Kr) ((((⟨g.v, []⟩ : Env).upd (some 3) (S x3)).upd (some 4) (S x4)).upd (some 5) (S x5)) h := by kernel_rfl
    exact e ▸ hS
  · intro e g' h' hq
    cases e with
    | normal =>
      have hq : D6 (fun z3 z4 z5 z6 h => n9 z3 z4 z5 z6 Kn Kr h) g' h' := hq
      obtain ⟨y3, y4, y5, y6, hg', hq⟩ := D6_ok hq
      exact n9_ok y3 y4 y5 y6 Kn Kr g' hg' h' hq
    | _ => exact hq
abbrev n6 (x3 : List UInt8) (x4 : List UInt8) (x5 : List UInt8) (Kn : T0) (Kr : T0) (h : H) : Prop := n8 x3 x4 x5 (fun z4 z5 h => n7 z4 z5 Kn Kr h) Kr h
theorem n6_ok (x3 : List UInt8) (x4 : List UInt8) (x5 : List UInt8) (Kn : T0) (Kr : T0) (g : Env) (hg : E4 g x3 x4 x5) (h : H) (hS : n6 x3 x4 x5 Kn Kr h) : wpC none Tryd.prog 53 n5_c2 (Q0 Kn Kr) g h := by
  refine wpC_seq' (x := n6_c1) (y := n6_c2) (by kernel_rfl) (n8_ok x3 x4 x5 (fun z4 z5 h => n7 z4 z5 Kn Kr h) Kr g hg h hS) ?_
  intro e g' h' hq
  cases e with
  | normal =>
    have hq : D5 (fun z4 z5 h => n7 z4 z5 Kn Kr h) g' h' := hq
    obtain ⟨y4, y5, hg', hq⟩ := D5_ok hq
    exact n7_ok y4 y5 Kn Kr g' hg' h' hq
  | _ => exact hq
def Q7 (Kn : T4) (Kr : T0) : XPost
  | .normal, g, h => D4 Kn g h
  | .ret, g, h => D0 Kr g h
  | _, _, _ => False
abbrev n5 (x3 : List UInt8) (x4 : List UInt8) (Kn : T0) (Kr : T0) (h : H) : Prop :=
  n6 x3 x4 ([] : List UInt8) Kn Kr h
theorem n5_ok (x3 : List UInt8) (x4 : List UInt8) (Kn : T0) (Kr : T0) (g : Env) (hg : E3 g x3 x4) (h : H) (hS : n5 x3 x4 Kn Kr h) : wpC none Tryd.prog 53 n4_c2 (Q0 Kn Kr) g h := by
  obtain ⟨hg3, hg4, hds⟩ := hg
  refine wpC_seq' (x := n5_c1) (y := n5_c2) (Q' := (Q7 (fun z3 z4 z5 h => n6 z3 z4 z5 Kn Kr h) Kr)) (by kernel_rfl) ?_ ?_
  · refine wpC_of_wpx (by kernel_rfl) (by kernel_rfl) (g' := ((⟨g.v, []⟩ : Env).upd (some 3) (S x3)).upd (some 4) (S x4)) (by rw [env_ds hds, upd_self hg3, upd_self hg4]) ?_
    have e : (n5 x3 x4 Kn Kr h) = wpx none Tryd.prog 53 n5_c1 (Q7 (fun z3 z4 z5 h => n6 z3 z4 z5 Kn Kr h) Kr) (((⟨g.v, []⟩ : Env).upd (some 3) (S x3)).upd (some 4) (S x4)) h := by kernel_rfl
    exact e ▸ hS
  · intro e g' h' hq
    cases e with
    | normal =>
      have hq : D4 (fun z3 z4 z5 h => n6 z3 z4 z5 Kn Kr h) g' h' := hq
      obtain ⟨y3, y4, y5, hg', hq⟩ := D4_ok hq
      exact n6_ok y3 y4 y5 Kn Kr g' hg' h' hq
    | _ => exact hq
def Q8 (Kn : T3) (Kr : T0) : XPost
  | .normal, g, h => D3 Kn g h
  | .ret, g, h => D0 Kr g h
  | _, _, _ => False
abbrev n4 (x3 : List UInt8) (Kn : T0) (Kr : T0) (h : H) : Prop :=
  n5 x3 ([] : List UInt8) Kn Kr h
theorem n4_ok (x3 : List UInt8) (Kn : T0) (Kr : T0) (g : Env) (hg : E2 g x3) (h : H) (hS : n4 x3 Kn Kr h) : wpC none Tryd.prog 53 n3_c2 (Q0 Kn Kr) g h := by
  obtain ⟨hg3, hds⟩ := hg
  refine wpC_seq' (x := n4_c1) (y := n4_c2) (Q' := (Q8 (fun z3 z4 h => n5 z3 z4 Kn Kr h) Kr)) (by kernel_rfl) ?_ ?_
  · refine wpC_of_wpx (by kernel_rfl) (by kernel_rfl) (g' := (⟨g.v, []⟩ : Env).upd (some 3) (S x3)) (by rw [env_ds hds, upd_self hg3]) ?_
    have e : (n4 x3 Kn Kr h) = wpx none Tryd.prog 53 n4_c1 (Q8 (fun z3 z4 h => n5 z3 z4 Kn Kr h) Kr) ((⟨g.v, []⟩ : Env).upd (some 3) (S x3)) h := by kernel_rfl
    exact e ▸ hS
  · intro e g' h' hq
    cases e with
    | normal =>
      have hq : D3 (fun z3 z4 h => n5 z3 z4 Kn Kr h) g' h' := hq
      obtain ⟨y3, y4, hg', hq⟩ := D3_ok hq
      exact n5_ok y3 y4 Kn Kr g' hg' h' hq
    | _ => exact hq
def Q9 (Kn : T2) (Kr : T0) : XPost
  | .normal, g, h => D2 Kn g h
  | .ret, g, h => D0 Kr g h
  | _, _, _ => False
abbrev n3 (x0b : Option Addr) (x0n : Nat) (x0c : Nat) (Kn : T0) (Kr : T0) (h : H) : Prop :=
  HCalls Tryd.prog 5 ⟨[(.slice x0b x0n x0c)]⟩ h fun v83 h84 => vStr v83 fun s85 => n4 s85 Kn Kr h84
theorem n3_ok (x0b : Option Addr) (x0n : Nat) (x0c : Nat) (Kn : T0) (Kr : T0) (g : Env) (hg : E1 g x0b x0n x0c) (h : H) (hS : n3 x0b x0n x0c Kn Kr h) : wpC none Tryd.prog 53 n2_c2 (Q0 Kn Kr) g h := by
  obtain ⟨hg0, hds⟩ := hg
  refine wpC_seq' (x := n3_c1) (y := n3_c2) (Q' := (Q9 (fun z3 h => n4 z3 Kn Kr h) Kr)) (by kernel_rfl) ?_ ?_
  · refine wpC_of_wpx (by kernel_rfl) (by kernel_rfl) (g' := (⟨g.v, []⟩ : Env).upd (some 0) (.slice x0b x0n x0c)) (by rw [env_ds hds, upd_self hg0]) ?_
    have e : (n3 x0b x0n x0c Kn Kr h) = wpx none Tryd.prog 53 n3_c1 (Q9 (fun z3 h => n4 z3 Kn Kr h) Kr) ((⟨g.v, []⟩ : Env).upd (some 0) (.slice x0b x0n x0c)) h := by kernel_rfl
    exact e ▸ hS
  · intro e g' h' hq
    cases e with
    | normal =>
      have hq : D2 (fun z3 h => n4 z3 Kn Kr h) g' h' := hq
      obtain ⟨y3, hg', hq⟩ := D2_ok hq
      exact n4_ok y3 Kn Kr g' hg' h' hq
    | _ => exact hq
def Q10 (Kn : T1) (Kr : T0) : XPost
  | .normal, g, h => D1 Kn g h
  | .ret, g, h => D0 Kr g h
  | _, _, _ => False
abbrev n2 (x0b : Option Addr) (x0n : Nat) (x0c : Nat) (Kn : T0) (Kr : T0) (h : H) : Prop :=
  Spl ((x0n : Int) > (2500 : Int)) (HCalls Tryd.prog 8 ⟨[]⟩ h fun v86 h87 => vBool v86 fun b88 => cond b88 (Kr true h87) (Kr false h87)) (HCalls Tryd.prog 8 ⟨[]⟩ h fun v89 h90 => vBool v89 fun b91 => cond b91 (n3 x0b x0n x0c Kn Kr h90) (HCalls Tryd.prog 8 ⟨[]⟩ h90 fun v92 h93 => vBool v92 fun b94 => cond b94 (Kr true h93) (Kr false h93)))
theorem n2_ok (x0b : Option Addr) (x0n : Nat) (x0c : Nat) (Kn : T0) (Kr : T0) (g : Env) (hg : E1 g x0b x0n x0c) (h : H) (hS : n2 x0b x0n x0c Kn Kr h) : wpC none Tryd.prog 53 n1_c2 (Q0 Kn Kr) g h := by
  obtain ⟨hg0, hds⟩ := hg
  refine wpC_seq' (x := n2_c1) (y := n2_c2) (Q' := (Q10 (fun z0b z0n z0c h => n3 z0b z0n z0c Kn Kr h) Kr)) (by kernel_rfl) ?_ ?_
  · refine wpC_of_wpx (by kernel_rfl) (by kernel_rfl) (g' := (⟨g.v, []⟩ : Env).upd (some 0) (.slice x0b x0n x0c)) (by rw [env_ds hds, upd_self hg0]) ?_
    have e : (n2 x0b x0n x0c Kn Kr h) = wpx none Tryd.prog 53 n2_c1 (Q10 (fun z0b z0n z0c h => n3 z0b z0n z0c Kn Kr h) Kr) ((⟨g.v, []⟩ : Env).upd (some 0) (.slice x0b x0n x0c)) h := by kernel_rfl
    exact e ▸ hS
  · intro e g' h' hq
    cases e with
    | normal =>
      have hq : D1 (fun z0b z0n z0c h => n3 z0b z0n z0c Kn Kr h) g' h' := hq
      obtain ⟨y0b, y0n, y0c, hg', hq⟩ := D1_ok hq
      exact n3_ok y0b y0n y0c Kn Kr g' hg' h' hq
    | _ => exact hq
abbrev n1 (x0b : Option Addr) (x0n : Nat) (x0c : Nat) (Kn : T0) (Kr : T0) (h : H) : Prop :=
  n2 x0b x0n x0c Kn Kr h
theorem n1_ok (x0b : Option Addr) (x0n : Nat) (x0c : Nat) (Kn : T0) (Kr : T0) (g : Env) (hg : E1 g x0b x0n x0c) (h : H) (hS : n1 x0b x0n x0c Kn Kr h) : wpC none Tryd.prog 53 code (Q0 Kn Kr) g h := by
  obtain ⟨hg0, hds⟩ := hg
  refine wpC_seq' (x := n1_c1) (y := n1_c2) (Q' := (Q10 (fun z0b z0n z0c h => n2 z0b z0n z0c Kn Kr h) Kr)) (by kernel_rfl) ?_ ?_
  · refine wpC_of_wpx (by kernel_rfl) (by kernel_rfl) (g' := (⟨g.v, []⟩ : Env).upd (some 0) (.slice x0b x0n x0c)) (by rw [env_ds hds, upd_self hg0]) ?_
    have e : (n1 x0b x0n x0c Kn Kr h) = wpx none Tryd.prog 53 n1_c1 (Q10 (fun z0b z0n z0c h => n2 z0b z0n z0c Kn Kr h) Kr) ((⟨g.v, []⟩ : Env).upd (some 0) (.slice x0b x0n x0c)) h := by kernel_rfl
    exact e ▸ hS
  · intro e g' h' hq
    cases e with
    | normal =>
      have hq : D1 (fun z0b z0n z0c h => n2 z0b z0n z0c Kn Kr h) g' h' := hq
      obtain ⟨y0b, y0n, y0c, hg', hq⟩ := D1_ok hq
      exact n2_ok y0b y0n y0c Kn Kr g' hg' h' hq
    | _ => exact hq
/-- WHAT tympan/tympanlaw28.AutoNone ASKS -/
abbrev asks (x0b : Option Addr) (x0n : Nat) (x0c : Nat) (K : Value → H → Prop) (h : H) : Prop := n1 x0b x0n x0c (fun y2 h => K (.bool y2) h) (fun y2 h => K (.bool y2) h) h
theorem ok (x0b : Option Addr) (x0n : Nat) (x0c : Nat) (K : Value → H → Prop) (h : H) (hS : asks x0b x0n x0c K h) : HCalls Tryd.prog 4 ⟨[(.slice x0b x0n x0c)]⟩ h K := by
  refine calls_of_wpC (c := code) Tryd.func4 (by kernel_rfl) (Nat.le_of_ble_eq_true (by kernel_rfl)) ?_
  refine (n1_ok x0b x0n x0c (fun y2 h => K (.bool y2) h) (fun y2 h => K (.bool y2) h) (env0 [(.slice x0b x0n x0c)]) ⟨rfl, rfl⟩ h hS).mono ?_
  intro e g' h' hq
  cases e with
  | normal =>
    have hq : D0 (fun y2 h => K (.bool y2) h) g' h' := hq
    obtain ⟨y2, ⟨hg2, hd⟩, hq⟩ := D0_ok hq
    show leaveX g'.ds h' _
    rw [hd]
    show K (g'.v 2) h'
    rw [hg2]
    exact hq
  | ret =>
    have hq : D0 (fun y2 h => K (.bool y2) h) g' h' := hq
    obtain ⟨y2, ⟨hg2, hd⟩, hq⟩ := D0_ok hq
    show leaveX g'.ds h' _
    rw [hd]
    show K (g'.v 2) h'
    rw [hg2]
    exact hq
  | _ => exact hq
end Sx.l28_AutoNone

/-! ### tympan/tympanref28.Find -/
namespace Sx.r28_Find
noncomputable def code : Code := bodyOf Tryd.f7
abbrev T0 := (Option Addr) → Nat → Nat → H → Prop
def E0 (g : Env) (x2b : Option Addr) (x2n : Nat) (x2c : Nat) : Prop := g.v 2 = (.slice x2b x2n x2c) ∧ g.ds = []
def D0 (K : T0) (g : Env) (h : H) : Prop := nilDs g.ds (vSlice (g.v 2) fun s1b s1n s1c => K s1b s1n s1c h)
theorem D0_ok {K : T0} {g : Env} {h : H} (hq : D0 K g h) : ∃ (x2b : Option Addr) (x2n : Nat) (x2c : Nat), E0 g x2b x2n x2c ∧ K x2b x2n x2c h := by
  obtain ⟨hd, hq⟩ := nilDs_ok hq
  obtain ⟨y3b, y3n, y3c, e2, q4⟩ := vSlice_ok hq
  exact ⟨y3b, y3n, y3c, ⟨e2, hd⟩, q4⟩
def Q0 (Kn : T0) (Kr : T0) : XPost
  | .normal, g, h => D0 Kn g h
  | .ret, g, h => D0 Kr g h
  | _, _, _ => False
abbrev T1 := (List UInt8) → H → Prop
def E1 (g : Env) (x0 : List UInt8) : Prop := g.v 0 = (S x0) ∧ g.ds = []
def D1 (K : T1) (g : Env) (h : H) : Prop := nilDs g.ds (vStr (g.v 0) fun s5 => K s5 h)
theorem D1_ok {K : T1} {g : Env} {h : H} (hq : D1 K g h) : ∃ (x0 : List UInt8), E1 g x0 ∧ K x0 h := by
  obtain ⟨hd, hq⟩ := nilDs_ok hq
  obtain ⟨y7, e6, q8⟩ := vStr_ok hq
  exact ⟨y7, ⟨e6, hd⟩, q8⟩
noncomputable def n1_c1 : Code := cFst code
noncomputable def n1_c2 : Code := cSnd code
noncomputable def n2_c1 : Code := cFst n1_c2
noncomputable def n2_c2 : Code := cSnd n1_c2
abbrev T2 := (List UInt8) → (Option Addr) → Nat → Nat → H → Prop
def E2 (g : Env) (x0 : List UInt8) (x3b : Option Addr) (x3n : Nat) (x3c : Nat) : Prop := g.v 0 = (S x0) ∧ g.v 3 = (.slice x3b x3n x3c) ∧ g.ds = []
def D2 (K : T2) (g : Env) (h : H) : Prop := nilDs g.ds (vStr (g.v 0) fun s9 => vSlice (g.v 3) fun s10b s10n s10c => K s9 s10b s10n s10c h)
theorem D2_ok {K : T2} {g : Env} {h : H} (hq : D2 K g h) : ∃ (x0 : List UInt8) (x3b : Option Addr) (x3n : Nat) (x3c : Nat), E2 g x0 x3b x3n x3c ∧ K x0 x3b x3n x3c h := by
  obtain ⟨hd, hq⟩ := nilDs_ok hq
  obtain ⟨y12, e11, q13⟩ := vStr_ok hq
  obtain ⟨y15b, y15n, y15c, e14, q16⟩ := vSlice_ok q13
  exact ⟨y12, y15b, y15n, y15c, ⟨e11, e14, hd⟩, q16⟩
noncomputable def n3_c1 : Code := cFst n2_c2
noncomputable def n3_c2 : Code := cSnd n2_c2
abbrev T3 := (List UInt8) → (Option Addr) → Nat → Nat → Int → H → Prop
def E3 (g : Env) (x0 : List UInt8) (x3b : Option Addr) (x3n : Nat) (x3c : Nat) (x4 : Int) : Prop := g.v 0 = (S x0) ∧ g.v 3 = (.slice x3b x3n x3c) ∧ g.v 4 = (.int .i64 x4) ∧ g.ds = []
def D3 (K : T3) (g : Env) (h : H) : Prop := nilDs g.ds (vStr (g.v 0) fun s17 => vSlice (g.v 3) fun s18b s18n s18c => vInt .i64 (g.v 4) fun i19 => K s17 s18b s18n s18c i19 h)
theorem D3_ok {K : T3} {g : Env} {h : H} (hq : D3 K g h) : ∃ (x0 : List UInt8) (x3b : Option Addr) (x3n : Nat) (x3c : Nat) (x4 : Int), E3 g x0 x3b x3n x3c x4 ∧ K x0 x3b x3n x3c x4 h := by
  obtain ⟨hd, hq⟩ := nilDs_ok hq
  obtain ⟨y21, e20, q22⟩ := vStr_ok hq
  obtain ⟨y24b, y24n, y24c, e23, q25⟩ := vSlice_ok q22
  obtain ⟨y27, e26, q28⟩ := vInt_ok q25
  exact ⟨y21, y24b, y24n, y24c, y27, ⟨e20, e23, e26, hd⟩, q28⟩
noncomputable def n4_c1 : Code := cFst n3_c2
noncomputable def n4_c2 : Code := cSnd n3_c2
abbrev T4 := (Option Addr) → Nat → Nat → H → Prop
def E4 (g : Env) (x3b : Option Addr) (x3n : Nat) (x3c : Nat) : Prop := g.v 3 = (.slice x3b x3n x3c) ∧ g.ds = []
def D4 (K : T4) (g : Env) (h : H) : Prop := nilDs g.ds (vSlice (g.v 3) fun s29b s29n s29c => K s29b s29n s29c h)
theorem D4_ok {K : T4} {g : Env} {h : H} (hq : D4 K g h) : ∃ (x3b : Option Addr) (x3n : Nat) (x3c : Nat), E4 g x3b x3n x3c ∧ K x3b x3n x3c h := by
  obtain ⟨hd, hq⟩ := nilDs_ok hq
  obtain ⟨y31b, y31n, y31c, e30, q32⟩ := vSlice_ok hq
  exact ⟨y31b, y31n, y31c, ⟨e30, hd⟩, q32⟩
abbrev n5 (x3b : Option Addr) (x3n : Nat) (x3c : Nat) (Kn : T0) (Kr : T0) (h : H) : Prop :=
  Kr x3b x3n x3c h
theorem n5_ok (x3b : Option Addr) (x3n : Nat) (x3c : Nat) (Kn : T0) (Kr : T0) (g : Env) (hg : E4 g x3b x3n x3c) (h : H) (hS : n5 x3b x3n x3c Kn Kr h) : wpC none Tryd.prog 84 n4_c2 (Q0 Kn Kr) g h := by
  obtain ⟨hg3, hds⟩ := hg
  refine wpC_of_wpx (by kernel_rfl) (by kernel_rfl) (g' := (⟨g.v, []⟩ : Env).upd (some 3) (.slice x3b x3n x3c)) (by rw [env_ds hds, upd_self hg3]) ?_
  have e : (n5 x3b x3n x3c Kn Kr h) = wpx none Tryd.prog 84 n4_c2 (Q0 Kn Kr) ((⟨g.v, []⟩ : Env).upd (some 3) (.slice x3b x3n x3c)) h := by kernel_rfl
  exact e ▸ hS
def Q1 (Kn : T4) (Kr : T0) : XPost
  | .normal, g, h => D4 Kn g h
  | .ret, g, h => D0 Kr g h
  | _, _, _ => False
noncomputable def n6_c1 : Code := cFst n4_c1
def Q2 (Kn : T4) (Ke0 : T4) (Kr : T0) : XPost
  | .normal, g, h => D4 Kn g h
  | .ret, g, h => D0 Kr g h
  | .exit id, g, h => cond (Nat.beq id 0) (D4 Ke0 g h) (False)
  | _, _, _ => False
noncomputable def n7_c1 : Code := cFst n6_c1
def Q3 (Kn : T3) (Ke0 : T4) (Kr : T0) : XPost
  | .normal, g, h => D3 Kn g h
  | .ret, g, h => D0 Kr g h
  | .exit id, g, h => cond (Nat.beq id 0) (D4 Ke0 g h) (False)
  | _, _, _ => False
noncomputable def n8_c1 : Code := cFst n7_c1
noncomputable def n8_c2 : Code := cSnd n7_c1
noncomputable def n9_c1 : Code := cFst n8_c2
def Q4 (Kn : T3) (Ke1 : T3) (Ke0 : T4) (Kr : T0) : XPost
  | .normal, g, h => D3 Kn g h
  | .ret, g, h => D0 Kr g h
  | .exit id, g, h => cond (Nat.beq id 1) (D3 Ke1 g h) (cond (Nat.beq id 0) (D4 Ke0 g h) (False))
  | _, _, _ => False
noncomputable def n10_c1 : Code := cFst n9_c1
noncomputable def n10_c2 : Code := cSnd n9_c1
abbrev T5 := (List UInt8) → (Option Addr) → Nat → Nat → Int → Int → H → Prop
def E5 (g : Env) (x0 : List UInt8) (x3b : Option Addr) (x3n : Nat) (x3c : Nat) (x4 : Int) (x5 : Int) : Prop := g.v 0 = (S x0) ∧ g.v 3 = (.slice x3b x3n x3c) ∧ g.v 4 = (.int .i64 x4) ∧ g.v 5 = (.int .i32 x5) ∧ g.ds = []
def D5 (K : T5) (g : Env) (h : H) : Prop := nilDs g.ds (vStr (g.v 0) fun s33 => vSlice (g.v 3) fun s34b s34n s34c => vInt .i64 (g.v 4) fun i35 => vInt .i32 (g.v 5) fun i36 => K s33 s34b s34n s34c i35 i36 h)
theorem D5_ok {K : T5} {g : Env} {h : H} (hq : D5 K g h) : ∃ (x0 : List UInt8) (x3b : Option Addr) (x3n : Nat) (x3c : Nat) (x4 : Int) (x5 : Int), E5 g x0 x3b x3n x3c x4 x5 ∧ K x0 x3b x3n x3c x4 x5 h := by
  obtain ⟨hd, hq⟩ := nilDs_ok hq
  obtain ⟨y38, e37, q39⟩ := vStr_ok hq
  obtain ⟨y41b, y41n, y41c, e40, q42⟩ := vSlice_ok q39
  obtain ⟨y44, e43, q45⟩ := vInt_ok q42
  obtain ⟨y47, e46, q48⟩ := vInt_ok q45
  exact ⟨y38, y41b, y41n, y41c, y44, y47, ⟨e37, e40, e43, e46, hd⟩, q48⟩
noncomputable def n11_c1 : Code := cFst n10_c2
noncomputable def n11_c2 : Code := cSnd n10_c2
abbrev T6 := (List UInt8) → (Option Addr) → Nat → Nat → Int → Bool → H → Prop
def E6 (g : Env) (x0 : List UInt8) (x3b : Option Addr) (x3n : Nat) (x3c : Nat) (x4 : Int) (x6 : Bool) : Prop := g.v 0 = (S x0) ∧ g.v 3 = (.slice x3b x3n x3c) ∧ g.v 4 = (.int .i64 x4) ∧ g.v 6 = (.bool x6) ∧ g.ds = []
def D6 (K : T6) (g : Env) (h : H) : Prop := nilDs g.ds (vStr (g.v 0) fun s49 => vSlice (g.v 3) fun s50b s50n s50c => vInt .i64 (g.v 4) fun i51 => vBool (g.v 6) fun b52 => K s49 s50b s50n s50c i51 b52 h)
theorem D6_ok {K : T6} {g : Env} {h : H} (hq : D6 K g h) : ∃ (x0 : List UInt8) (x3b : Option Addr) (x3n : Nat) (x3c : Nat) (x4 : Int) (x6 : Bool), E6 g x0 x3b x3n x3c x4 x6 ∧ K x0 x3b x3n x3c x4 x6 h := by
  obtain ⟨hd, hq⟩ := nilDs_ok hq
  obtain ⟨y54, e53, q55⟩ := vStr_ok hq
  obtain ⟨y57b, y57n, y57c, e56, q58⟩ := vSlice_ok q55
  obtain ⟨y60, e59, q61⟩ := vInt_ok q58
  obtain ⟨y63, e62, q64⟩ := vBool_ok q61
  exact ⟨y54, y57b, y57n, y57c, y60, y63, ⟨e53, e56, e59, e62, hd⟩, q64⟩
noncomputable def n12_c1 : Code := cFst n11_c2
noncomputable def n12_c2 : Code := cSnd n11_c2
noncomputable def n13_c1 : Code := cFst n12_c2
noncomputable def n13_c2 : Code := cSnd n12_c2
noncomputable def n14_c1 : Code := cFst n13_c2
def Q5 (Kn : T3) (Ke2 : T3) (Ke1 : T3) (Ke0 : T4) (Kr : T0) : XPost
  | .normal, g, h => D3 Kn g h
  | .ret, g, h => D0 Kr g h
  | .exit id, g, h => cond (Nat.beq id 2) (D3 Ke2 g h) (cond (Nat.beq id 1) (D3 Ke1 g h) (cond (Nat.beq id 0) (D4 Ke0 g h) (False)))
  | _, _, _ => False
noncomputable def n15_c1 : Code := cFst n14_c1
def n15_L (Kn : T3) (Ke2 : T3) (Ke1 : T3) (Ke0 : T4) (Kr : T0) : Nat → (List UInt8) → (Option Addr) → Nat → Nat → Int → H → Prop
  | 0 => fun _ _ _ _ _ _ => False
  | N + 1 => fun x0 x3b x3n x3c x4 h => Spl (x4 < (x0.length : Int)) ((0 ≤ x4 ∧ x4 < (x0.length : Int)) ∧ (Spl (((List.getD x0 (Int.toNat x4) 0).toNat : Int) ≥ (128 : Int)) ((0 ≤ x4 ∧ x4 < (x0.length : Int)) ∧ (Spl (((List.getD x0 (Int.toNat x4) 0).toNat : Int) < (192 : Int)) (Rng .i64 (x4 + (1 : Int)) ∧ (n15_L Kn Ke2 Ke1 Ke0 Kr N x0 x3b x3n x3c (x4 + (1 : Int)) h)) (Ke2 x0 x3b x3n x3c x4 h))) (Ke2 x0 x3b x3n x3c x4 h))) (Ke2 x0 x3b x3n x3c x4 h)
abbrev n15 (x0 : List UInt8) (x3b : Option Addr) (x3n : Nat) (x3c : Nat) (x4 : Int) (Kn : T3) (Ke2 : T3) (Ke1 : T3) (Ke0 : T4) (Kr : T0) (h : H) : Prop := ∃ N, n15_L Kn Ke2 Ke1 Ke0 Kr N x0 x3b x3n x3c x4 h
theorem n15_ok (x0 : List UInt8) (x3b : Option Addr) (x3n : Nat) (x3c : Nat) (x4 : Int) (Kn : T3) (Ke2 : T3) (Ke1 : T3) (Ke0 : T4) (Kr : T0) (g : Env) (hg : E3 g x0 x3b x3n x3c x4) (h : H) (hS : n15 x0 x3b x3n x3c x4 Kn Ke2 Ke1 Ke0 Kr h) : wpC none Tryd.prog 84 n14_c1 (Q5 Kn Ke2 Ke1 Ke0 Kr) g h := by
  obtain ⟨N0, hS⟩ := hS
  refine wpC_loop' (x := n15_c1) (by kernel_rfl) (fun k g h => ∃ (x0 : List UInt8) (x3b : Option Addr) (x3n : Nat) (x3c : Nat) (x4 : Int), E3 g x0 x3b x3n x3c x4 ∧ n15_L Kn Ke2 Ke1 Ke0 Kr k x0 x3b x3n x3c x4 h) (fun g h hr => ?_) (fun N g h hr => ?_) N0 ⟨x0, x3b, x3n, x3c, x4, hg, hS⟩
  · obtain ⟨x0, x3b, x3n, x3c, x4, hg, hS⟩ := hr
    exact hS.elim
  · obtain ⟨x0, x3b, x3n, x3c, x4, hg, hS⟩ := hr
    have hw : wpC none Tryd.prog 84 n15_c1 (Q5 (fun z0 z3b z3n z3c z4 h => n15_L Kn Ke2 Ke1 Ke0 Kr N z0 z3b z3n z3c z4 h) Ke2 Ke1 Ke0 Kr) g h := by
      obtain ⟨hg0, hg3, hg4, hds⟩ := hg
      refine wpC_of_wpx (by kernel_rfl) (by kernel_rfl) (g' := (((⟨g.v, []⟩ : Env).upd (some 0) (S x0)).upd (some 3) (.slice x3b x3n x3c)).upd (some 4) (.int .i64 x4)) (by rw [env_ds hds, upd_self hg0, upd_self hg3, upd_self hg4]) ?_
      have e : (n15_L Kn Ke2 Ke1 Ke0 Kr (N + 1) x0 x3b x3n x3c x4 h) = wpx none Tryd.prog 84 n15_c1 (Q5 (fun z0 z3b z3n z3c z4 h => n15_L Kn Ke2 Ke1 Ke0 Kr N z0 z3b z3n z3c z4 h) Ke2 Ke1 Ke0 Kr) ((((⟨g.v, []⟩ : Env).upd (some 0) (S x0)).upd (some 3) (.slice x3b x3n x3c)).upd (some 4) (.int .i64 x4)) h := by kernel_rfl
      exact e ▸ hS
    refine hw.mono ?_
    intro e g' h' hq
    cases e with
    | normal => exact D3_ok (K := (fun z0 z3b z3n z3c z4 h => n15_L Kn Ke2 Ke1 Ke0 Kr N z0 z3b z3n z3c z4 h)) hq
    | _ => exact hq
abbrev n14 (x0 : List UInt8) (x3b : Option Addr) (x3n : Nat) (x3c : Nat) (x4 : Int) (Kn : T3) (Ke1 : T3) (Ke0 : T4) (Kr : T0) (h : H) : Prop := n15 x0 x3b x3n x3c x4 Kn Kn Ke1 Ke0 Kr h
theorem n14_ok (x0 : List UInt8) (x3b : Option Addr) (x3n : Nat) (x3c : Nat) (x4 : Int) (Kn : T3) (Ke1 : T3) (Ke0 : T4) (Kr : T0) (g : Env) (hg : E3 g x0 x3b x3n x3c x4) (h : H) (hS : n14 x0 x3b x3n x3c x4 Kn Ke1 Ke0 Kr h) : wpC none Tryd.prog 84 n13_c2 (Q4 Kn Ke1 Ke0 Kr) g h := by
  refine wpC_block' (id := 2) (x := n14_c1) (by kernel_rfl) (n15_ok x0 x3b x3n x3c x4 Kn Kn Ke1 Ke0 Kr g hg h hS) ?_
  intro e g' h' hq
  cases e <;> exact hq
abbrev n13 (x0 : List UInt8) (x3b : Option Addr) (x3n : Nat) (x3c : Nat) (x4 : Int) (Kn : T3) (Ke1 : T3) (Ke0 : T4) (Kr : T0) (h : H) : Prop :=
  Rng .i64 (x4 + (1 : Int)) ∧ (n14 x0 x3b x3n x3c (x4 + (1 : Int)) Kn Ke1 Ke0 Kr h)
theorem n13_ok (x0 : List UInt8) (x3b : Option Addr) (x3n : Nat) (x3c : Nat) (x4 : Int) (Kn : T3) (Ke1 : T3) (Ke0 : T4) (Kr : T0) (g : Env) (hg : E3 g x0 x3b x3n x3c x4) (h : H) (hS : n13 x0 x3b x3n x3c x4 Kn Ke1 Ke0 Kr h) : wpC none Tryd.prog 84 n12_c2 (Q4 Kn Ke1 Ke0 Kr) g h := by
  obtain ⟨hg0, hg3, hg4, hds⟩ := hg
  refine wpC_seq' (x := n13_c1) (y := n13_c2) (Q' := (Q4 (fun z0 z3b z3n z3c z4 h => n14 z0 z3b z3n z3c z4 Kn Ke1 Ke0 Kr h) Ke1 Ke0 Kr)) (by kernel_rfl) ?_ ?_
  · refine wpC_of_wpx (by kernel_rfl) (by kernel_rfl) (g' := (((⟨g.v, []⟩ : Env).upd (some 0) (S x0)).upd (some 3) (.slice x3b x3n x3c)).upd (some 4) (.int .i64 x4)) (by rw [env_ds hds, upd_self hg0, upd_self hg3, upd_self hg4]) ?_
    have e : (n13 x0 x3b x3n x3c x4 Kn Ke1 Ke0 Kr h) = wpx none Tryd.prog 84 n13_c1 (Q4 (fun z0 z3b z3n z3c z4 h => n14 z0 z3b z3n z3c z4 Kn Ke1 Ke0 Kr h) Ke1 Ke0 Kr) ((((⟨g.v, []⟩ : Env).upd (some 0) (S x0)).upd (some 3) (.slice x3b x3n x3c)).upd (some 4) (.int .i64 x4)) h := by kernel_rfl
    exact e ▸ hS
  · intro e g' h' hq
    cases e with
    | normal =>
      have hq : D3 (fun z0 z3b z3n z3c z4 h => n14 z0 z3b z3n z3c z4 Kn Ke1 Ke0 Kr h) g' h' := hq
      obtain ⟨y0, y3b, y3n, y3c, y4, hg', hq⟩ := D3_ok hq
      exact n14_ok y0 y3b y3n y3c y4 Kn Ke1 Ke0 Kr g' hg' h' hq
    | _ => exact hq
noncomputable def n16_c1 : Code := cFst n12_c1
noncomputable def n16_c2 : Code := cSnd n12_c1
abbrev T7 := (List UInt8) → (Option Addr) → Nat → Nat → Int → Bool → H → Prop
def E7 (g : Env) (x0 : List UInt8) (x3b : Option Addr) (x3n : Nat) (x3c : Nat) (x4 : Int) (x38 : Bool) : Prop := g.v 0 = (S x0) ∧ g.v 3 = (.slice x3b x3n x3c) ∧ g.v 4 = (.int .i64 x4) ∧ g.v 38 = (.bool x38) ∧ g.ds = []
def D7 (K : T7) (g : Env) (h : H) : Prop := nilDs g.ds (vStr (g.v 0) fun s65 => vSlice (g.v 3) fun s66b s66n s66c => vInt .i64 (g.v 4) fun i67 => vBool (g.v 38) fun b68 => K s65 s66b s66n s66c i67 b68 h)
theorem D7_ok {K : T7} {g : Env} {h : H} (hq : D7 K g h) : ∃ (x0 : List UInt8) (x3b : Option Addr) (x3n : Nat) (x3c : Nat) (x4 : Int) (x38 : Bool), E7 g x0 x3b x3n x3c x4 x38 ∧ K x0 x3b x3n x3c x4 x38 h := by
  obtain ⟨hd, hq⟩ := nilDs_ok hq
  obtain ⟨y70, e69, q71⟩ := vStr_ok hq
  obtain ⟨y73b, y73n, y73c, e72, q74⟩ := vSlice_ok q71
  obtain ⟨y76, e75, q77⟩ := vInt_ok q74
  obtain ⟨y79, e78, q80⟩ := vBool_ok q77
  exact ⟨y70, y73b, y73n, y73c, y76, y79, ⟨e69, e72, e75, e78, hd⟩, q80⟩
noncomputable def n17_c1 : Code := cFst n16_c2
noncomputable def n17_c2 : Code := cSnd n16_c2
noncomputable def n18_c1 : Code := cFst n17_c1
noncomputable def n18_c2 : Code := cSnd n17_c1
abbrev T8 := (List UInt8) → (Option Addr) → Nat → Nat → Int → (List UInt8) → Int → H → Prop
def E8 (g : Env) (x0 : List UInt8) (x3b : Option Addr) (x3n : Nat) (x3c : Nat) (x4 : Int) (x7 : List UInt8) (x8 : Int) : Prop := g.v 0 = (S x0) ∧ g.v 3 = (.slice x3b x3n x3c) ∧ g.v 4 = (.int .i64 x4) ∧ g.v 7 = (S x7) ∧ g.v 8 = (.int .i64 x8) ∧ g.ds = []
def D8 (K : T8) (g : Env) (h : H) : Prop := nilDs g.ds (vStr (g.v 0) fun s81 => vSlice (g.v 3) fun s82b s82n s82c => vInt .i64 (g.v 4) fun i83 => vStr (g.v 7) fun s84 => vInt .i64 (g.v 8) fun i85 => K s81 s82b s82n s82c i83 s84 i85 h)
theorem D8_ok {K : T8} {g : Env} {h : H} (hq : D8 K g h) : ∃ (x0 : List UInt8) (x3b : Option Addr) (x3n : Nat) (x3c : Nat) (x4 : Int) (x7 : List UInt8) (x8 : Int), E8 g x0 x3b x3n x3c x4 x7 x8 ∧ K x0 x3b x3n x3c x4 x7 x8 h := by
  obtain ⟨hd, hq⟩ := nilDs_ok hq
  obtain ⟨y87, e86, q88⟩ := vStr_ok hq
  obtain ⟨y90b, y90n, y90c, e89, q91⟩ := vSlice_ok q88
  obtain ⟨y93, e92, q94⟩ := vInt_ok q91
  obtain ⟨y96, e95, q97⟩ := vStr_ok q94
  obtain ⟨y99, e98, q100⟩ := vInt_ok q97
  exact ⟨y87, y90b, y90n, y90c, y93, y96, y99, ⟨e86, e89, e92, e95, e98, hd⟩, q100⟩
noncomputable def n19_c1 : Code := cFst n18_c2
noncomputable def n19_c2 : Code := cSnd n18_c2
abbrev n20 (x0 : List UInt8) (x3b : Option Addr) (x3n : Nat) (x3c : Nat) (x4 : Int) (x7 : List UInt8) (x8 : Int) (Kn : T3) (Ke1 : T3) (Ke0 : T4) (Kr : T0) (h : H) : Prop :=
  Spl (x8 > (0 : Int)) (newx h #[(.int .i64 x4), (.int .i64 x8), (S x7)] 28 fun a101 h102 => SemH Tryd.prog (Builtin.append_ #[24, 24] 24 ⟨[(.slice x3b x3n x3c), (.slice (some a101) 1 1)]⟩) h102 fun v103 h104 => vSlice v103 fun s105b s105n s105c => Ke1 x0 s105b s105n s105c x8 h104) (Kn x0 x3b x3n x3c x4 h)
theorem n20_ok (x0 : List UInt8) (x3b : Option Addr) (x3n : Nat) (x3c : Nat) (x4 : Int) (x7 : List UInt8) (x8 : Int) (Kn : T3) (Ke1 : T3) (Ke0 : T4) (Kr : T0) (g : Env) (hg : E8 g x0 x3b x3n x3c x4 x7 x8) (h : H) (hS : n20 x0 x3b x3n x3c x4 x7 x8 Kn Ke1 Ke0 Kr h) : wpC none Tryd.prog 84 n19_c2 (Q4 Kn Ke1 Ke0 Kr) g h := by
  obtain ⟨hg0, hg3, hg4, hg7, hg8, hds⟩ := hg
  refine wpC_of_wpx (by kernel_rfl) (by kernel_rfl) (g' := (((((⟨g.v, []⟩ : Env).upd (some 0) (S x0)).upd (some 3) (.slice x3b x3n x3c)).upd (some 4) (.int .i64 x4)).upd (some 7) (S x7)).upd (some 8) (.int .i64 x8)) (by rw [env_ds hds, upd_self hg0, upd_self hg3, upd_self hg4, upd_self hg7, upd_self hg8]) ?_
  have e : (n20 x0 x3b x3n x3c x4 x7 x8 Kn Ke1 Ke0 Kr h) = wpx none Tryd.prog 84 n19_c2 (Q4 Kn Ke1 Ke0 Kr) ((((((⟨g.v, []⟩ : Env).upd (some 0) (S x0)).upd (some 3) (.slice x3b x3n x3c)).upd (some 4) (.int .i64 x4)).upd (some 7) (S x7)).upd (some 8) (.int .i64 x8)) h := by kernel_rfl
  exact e ▸ hS
def Q6 (Kn : T8) (Ke1 : T3) (Ke0 : T4) (Kr : T0) : XPost
  | .normal, g, h => D8 Kn g h
  | .ret, g, h => D0 Kr g h
  | .exit id, g, h => cond (Nat.beq id 1) (D3 Ke1 g h) (cond (Nat.beq id 0) (D4 Ke0 g h) (False))
  | _, _, _ => False
abbrev n19 (x0 : List UInt8) (x3b : Option Addr) (x3n : Nat) (x3c : Nat) (x4 : Int) (x7 : List UInt8) (x8 : Int) (Kn : T3) (Ke1 : T3) (Ke0 : T4) (Kr : T0) (h : H) : Prop :=
  Spl (x8 = (0 : Int)) (HCalls Tryd.prog 14 ⟨[(S x0), (.int .i64 x4)]⟩ h fun v106 h107 => vTup v106 fun l108 => uncons l108 fun e109 l110 => vStr e109 fun s111 => uncons l110 fun e112 l113 => vInt .i64 e112 fun i114 => unnil l113 (n20 x0 x3b x3n x3c x4 s111 i114 Kn Ke1 Ke0 Kr h107)) (n20 x0 x3b x3n x3c x4 x7 x8 Kn Ke1 Ke0 Kr h)
theorem n19_ok (x0 : List UInt8) (x3b : Option Addr) (x3n : Nat) (x3c : Nat) (x4 : Int) (x7 : List UInt8) (x8 : Int) (Kn : T3) (Ke1 : T3) (Ke0 : T4) (Kr : T0) (g : Env) (hg : E8 g x0 x3b x3n x3c x4 x7 x8) (h : H) (hS : n19 x0 x3b x3n x3c x4 x7 x8 Kn Ke1 Ke0 Kr h) : wpC none Tryd.prog 84 n18_c2 (Q4 Kn Ke1 Ke0 Kr) g h := by
  obtain ⟨hg0, hg3, hg4, hg7, hg8, hds⟩ := hg
  refine wpC_seq' (x := n19_c1) (y := n19_c2) (Q' := (Q6 (fun z0 z3b z3n z3c z4 z7 z8 h => n20 z0 z3b z3n z3c z4 z7 z8 Kn Ke1 Ke0 Kr h) Ke1 Ke0 Kr)) (by kernel_rfl) ?_ ?_
  · refine wpC_of_wpx (by kernel_rfl) (by kernel_rfl) (g' := (((((⟨g.v, []⟩ : Env).upd (some 0) (S x0)).upd (some 3) (.slice x3b x3n x3c)).upd (some 4) (.int .i64 x4)).upd (some 7) (S x7)).upd (some 8) (.int .i64 x8)) (by rw [env_ds hds, upd_self hg0, upd_self hg3, upd_self hg4, upd_self hg7, upd_self hg8]) ?_
    have e : (n19 x0 x3b x3n x3c x4 x7 x8 Kn Ke1 Ke0 Kr h) = wpx none Tryd.prog 84 n19_c1 (Q6 (fun z0 z3b z3n z3c z4 z7 z8 h => n20 z0 z3b z3n z3c z4 z7 z8 Kn Ke1 Ke0 Kr h) Ke1 Ke0 Kr) ((((((⟨g.v, []⟩ : Env).upd (some 0) (S x0)).upd (some 3) (.slice x3b x3n x3c)).upd (some 4) (.int .i64 x4)).upd (some 7) (S x7)).upd (some 8) (.int .i64 x8)) h := by kernel_rfl
    exact e ▸ hS
  · intro e g' h' hq
    cases e with
    | normal =>
      have hq : D8 (fun z0 z3b z3n z3c z4 z7 z8 h => n20 z0 z3b z3n z3c z4 z7 z8 Kn Ke1 Ke0 Kr h) g' h' := hq
      obtain ⟨y0, y3b, y3n, y3c, y4, y7, y8, hg', hq⟩ := D8_ok hq
      exact n20_ok y0 y3b y3n y3c y4 y7 y8 Kn Ke1 Ke0 Kr g' hg' h' hq
    | _ => exact hq
abbrev n18 (x0 : List UInt8) (x3b : Option Addr) (x3n : Nat) (x3c : Nat) (x4 : Int) (Kn : T3) (Ke1 : T3) (Ke0 : T4) (Kr : T0) (h : H) : Prop :=
  HCalls Tryd.prog 13 ⟨[(S x0), (.int .i64 x4)]⟩ h fun v115 h116 => vTup v115 fun l117 => uncons l117 fun e118 l119 => vStr e118 fun s120 => uncons l119 fun e121 l122 => vInt .i64 e121 fun i123 => unnil l122 (n19 x0 x3b x3n x3c x4 s120 i123 Kn Ke1 Ke0 Kr h116)
theorem n18_ok (x0 : List UInt8) (x3b : Option Addr) (x3n : Nat) (x3c : Nat) (x4 : Int) (Kn : T3) (Ke1 : T3) (Ke0 : T4) (Kr : T0) (g : Env) (hg : E3 g x0 x3b x3n x3c x4) (h : H) (hS : n18 x0 x3b x3n x3c x4 Kn Ke1 Ke0 Kr h) : wpC none Tryd.prog 84 n17_c1 (Q4 Kn Ke1 Ke0 Kr) g h := by
  obtain ⟨hg0, hg3, hg4, hds⟩ := hg
  refine wpC_seq' (x := n18_c1) (y := n18_c2) (Q' := (Q6 (fun z0 z3b z3n z3c z4 z7 z8 h => n19 z0 z3b z3n z3c z4 z7 z8 Kn Ke1 Ke0 Kr h) Ke1 Ke0 Kr)) (by kernel_rfl) ?_ ?_
  · refine wpC_of_wpx (by kernel_rfl) (by kernel_rfl) (g' := (((⟨g.v, []⟩ : Env).upd (some 0) (S x0)).upd (some 3) (.slice x3b x3n x3c)).upd (some 4) (.int .i64 x4)) (by rw [env_ds hds, upd_self hg0, upd_self hg3, upd_self hg4]) ?_
    have e : (n18 x0 x3b x3n x3c x4 Kn Ke1 Ke0 Kr h) = wpx none Tryd.prog 84 n18_c1 (Q6 (fun z0 z3b z3n z3c z4 z7 z8 h => n19 z0 z3b z3n z3c z4 z7 z8 Kn Ke1 Ke0 Kr h) Ke1 Ke0 Kr) ((((⟨g.v, []⟩ : Env).upd (some 0) (S x0)).upd (some 3) (.slice x3b x3n x3c)).upd (some 4) (.int .i64 x4)) h := by kernel_rfl
    exact e ▸ hS
  · intro e g' h' hq
    cases e with
    | normal =>
      have hq : D8 (fun z0 z3b z3n z3c z4 z7 z8 h => n19 z0 z3b z3n z3c z4 z7 z8 Kn Ke1 Ke0 Kr h) g' h' := hq
      obtain ⟨y0, y3b, y3n, y3c, y4, y7, y8, hg', hq⟩ := D8_ok hq
      exact n19_ok y0 y3b y3n y3c y4 y7 y8 Kn Ke1 Ke0 Kr g' hg' h' hq
    | _ => exact hq
abbrev n21 (x0 : List UInt8) (x3b : Option Addr) (x3n : Nat) (x3c : Nat) (x4 : Int) (Kn : T3) (Ke1 : T3) (Ke0 : T4) (Kr : T0) (h : H) : Prop :=
  Kn x0 x3b x3n x3c x4 h
theorem n21_ok (x0 : List UInt8) (x3b : Option Addr) (x3n : Nat) (x3c : Nat) (x4 : Int) (Kn : T3) (Ke1 : T3) (Ke0 : T4) (Kr : T0) (g : Env) (hg : E3 g x0 x3b x3n x3c x4) (h : H) (hS : n21 x0 x3b x3n x3c x4 Kn Ke1 Ke0 Kr h) : wpC none Tryd.prog 84 n17_c2 (Q4 Kn Ke1 Ke0 Kr) g h := by
  obtain ⟨hg0, hg3, hg4, hds⟩ := hg
  refine wpC_of_wpx (by kernel_rfl) (by kernel_rfl) (g' := (((⟨g.v, []⟩ : Env).upd (some 0) (S x0)).upd (some 3) (.slice x3b x3n x3c)).upd (some 4) (.int .i64 x4)) (by rw [env_ds hds, upd_self hg0, upd_self hg3, upd_self hg4]) ?_
  have e : (n21 x0 x3b x3n x3c x4 Kn Ke1 Ke0 Kr h) = wpx none Tryd.prog 84 n17_c2 (Q4 Kn Ke1 Ke0 Kr) ((((⟨g.v, []⟩ : Env).upd (some 0) (S x0)).upd (some 3) (.slice x3b x3n x3c)).upd (some 4) (.int .i64 x4)) h := by kernel_rfl
  exact e ▸ hS
abbrev n17 (x0 : List UInt8) (x3b : Option Addr) (x3n : Nat) (x3c : Nat) (x4 : Int) (x38 : Bool) (Kn : T3) (Ke1 : T3) (Ke0 : T4) (Kr : T0) (h : H) : Prop := cond x38 (n18 x0 x3b x3n x3c x4 Kn Ke1 Ke0 Kr h) (n21 x0 x3b x3n x3c x4 Kn Ke1 Ke0 Kr h)
theorem n17_ok (x0 : List UInt8) (x3b : Option Addr) (x3n : Nat) (x3c : Nat) (x4 : Int) (x38 : Bool) (Kn : T3) (Ke1 : T3) (Ke0 : T4) (Kr : T0) (g : Env) (hg : E7 g x0 x3b x3n x3c x4 x38) (h : H) (hS : n17 x0 x3b x3n x3c x4 x38 Kn Ke1 Ke0 Kr h) : wpC none Tryd.prog 84 n16_c2 (Q4 Kn Ke1 Ke0 Kr) g h := by
  obtain ⟨hg0, hg3, hg4, hg38, hds⟩ := hg
  have hx : evalE 84 g (.tmp 38) = .bool x38 := by
    show cond (Nat.blt 38 84) (g.v 38) undef = _
    rw [hg38]; rfl
  unfold n17 at hS
  refine wpC_cond' (o := .tmp 38) (x := n17_c1) (y := n17_c2) (by kernel_rfl) hx (fun hb => ?_) (fun hb => ?_)
  · subst hb
    exact n18_ok x0 x3b x3n x3c x4 Kn Ke1 Ke0 Kr g ⟨hg0, hg3, hg4, hds⟩ h hS
  · subst hb
    exact n21_ok x0 x3b x3n x3c x4 Kn Ke1 Ke0 Kr g ⟨hg0, hg3, hg4, hds⟩ h hS
def Q7 (Kn : T7) (Ke1 : T3) (Ke0 : T4) (Kr : T0) : XPost
  | .normal, g, h => D7 Kn g h
  | .ret, g, h => D0 Kr g h
  | .exit id, g, h => cond (Nat.beq id 1) (D3 Ke1 g h) (cond (Nat.beq id 0) (D4 Ke0 g h) (False))
  | _, _, _ => False
abbrev n16 (x0 : List UInt8) (x3b : Option Addr) (x3n : Nat) (x3c : Nat) (x4 : Int) (x6 : Bool) (Kn : T3) (Ke1 : T3) (Ke0 : T4) (Kr : T0) (h : H) : Prop :=
  cond x6 (n17 x0 x3b x3n x3c x4 true Kn Ke1 Ke0 Kr h) (n17 x0 x3b x3n x3c x4 false Kn Ke1 Ke0 Kr h)
theorem n16_ok (x0 : List UInt8) (x3b : Option Addr) (x3n : Nat) (x3c : Nat) (x4 : Int) (x6 : Bool) (Kn : T3) (Ke1 : T3) (Ke0 : T4) (Kr : T0) (g : Env) (hg : E6 g x0 x3b x3n x3c x4 x6) (h : H) (hS : n16 x0 x3b x3n x3c x4 x6 Kn Ke1 Ke0 Kr h) : wpC none Tryd.prog 84 n12_c1 (Q4 Kn Ke1 Ke0 Kr) g h := by
  obtain ⟨hg0, hg3, hg4, hg6, hds⟩ := hg
  refine wpC_seq' (x := n16_c1) (y := n16_c2) (Q' := (Q7 (fun z0 z3b z3n z3c z4 z38 h => n17 z0 z3b z3n z3c z4 z38 Kn Ke1 Ke0 Kr h) Ke1 Ke0 Kr)) (by kernel_rfl) ?_ ?_
  · refine wpC_of_wpx (by kernel_rfl) (by kernel_rfl) (g' := ((((⟨g.v, []⟩ : Env).upd (some 0) (S x0)).upd (some 3) (.slice x3b x3n x3c)).upd (some 4) (.int .i64 x4)).upd (some 6) (.bool x6)) (by rw [env_ds hds, upd_self hg0, upd_self hg3, upd_self hg4, upd_self hg6]) ?_
    have e : (n16 x0 x3b x3n x3c x4 x6 Kn Ke1 Ke0 Kr h) = wpx none Tryd.prog 84 n16_c1 (Q7 (fun z0 z3b z3n z3c z4 z38 h => n17 z0 z3b z3n z3c z4 z38 Kn Ke1 Ke0 Kr h) Ke1 Ke0 Kr) (((((⟨g.v, []⟩ : Env).upd (some 0) (S x0)).upd (some 3) (.slice x3b x3n x3c)).upd (some 4) (.int .i64 x4)).upd (some 6) (.bool x6)) h := by kernel_rfl
    exact e ▸ hS
  · intro e g' h' hq
    cases e with
    | normal =>
      have hq : D7 (fun z0 z3b z3n z3c z4 z38 h => n17 z0 z3b z3n z3c z4 z38 Kn Ke1 Ke0 Kr h) g' h' := hq
      obtain ⟨y0, y3b, y3n, y3c, y4, y38, hg', hq⟩ := D7_ok hq
      exact n17_ok y0 y3b y3n y3c y4 y38 Kn Ke1 Ke0 Kr g' hg' h' hq
    | _ => exact hq
abbrev n12 (x0 : List UInt8) (x3b : Option Addr) (x3n : Nat) (x3c : Nat) (x4 : Int) (x6 : Bool) (Kn : T3) (Ke1 : T3) (Ke0 : T4) (Kr : T0) (h : H) : Prop := n16 x0 x3b x3n x3c x4 x6 (fun z0 z3b z3n z3c z4 h => n13 z0 z3b z3n z3c z4 Kn Ke1 Ke0 Kr h) Ke1 Ke0 Kr h
theorem n12_ok (x0 : List UInt8) (x3b : Option Addr) (x3n : Nat) (x3c : Nat) (x4 : Int) (x6 : Bool) (Kn : T3) (Ke1 : T3) (Ke0 : T4) (Kr : T0) (g : Env) (hg : E6 g x0 x3b x3n x3c x4 x6) (h : H) (hS : n12 x0 x3b x3n x3c x4 x6 Kn Ke1 Ke0 Kr h) : wpC none Tryd.prog 84 n11_c2 (Q4 Kn Ke1 Ke0 Kr) g h := by
  refine wpC_seq' (x := n12_c1) (y := n12_c2) (by kernel_rfl) (n16_ok x0 x3b x3n x3c x4 x6 (fun z0 z3b z3n z3c z4 h => n13 z0 z3b z3n z3c z4 Kn Ke1 Ke0 Kr h) Ke1 Ke0 Kr g hg h hS) ?_
  intro e g' h' hq
  cases e with
  | normal =>
    have hq : D3 (fun z0 z3b z3n z3c z4 h => n13 z0 z3b z3n z3c z4 Kn Ke1 Ke0 Kr h) g' h' := hq
    obtain ⟨y0, y3b, y3n, y3c, y4, hg', hq⟩ := D3_ok hq
    exact n13_ok y0 y3b y3n y3c y4 Kn Ke1 Ke0 Kr g' hg' h' hq
  | _ => exact hq
def Q8 (Kn : T6) (Ke1 : T3) (Ke0 : T4) (Kr : T0) : XPost
  | .normal, g, h => D6 Kn g h
  | .ret, g, h => D0 Kr g h
  | .exit id, g, h => cond (Nat.beq id 1) (D3 Ke1 g h) (cond (Nat.beq id 0) (D4 Ke0 g h) (False))
  | _, _, _ => False
abbrev n11 (x0 : List UInt8) (x3b : Option Addr) (x3n : Nat) (x3c : Nat) (x4 : Int) (x5 : Int) (Kn : T3) (Ke1 : T3) (Ke0 : T4) (Kr : T0) (h : H) : Prop :=
  Spl (x4 = (0 : Int)) (n12 x0 x3b x3n x3c x4 true Kn Ke1 Ke0 Kr h) (HCalls Tryd.prog 12 ⟨[(.int .i32 x5)]⟩ h fun v124 h125 => vBool v124 fun b126 => cond b126 (n12 x0 x3b x3n x3c x4 true Kn Ke1 Ke0 Kr h125) (Spl (x5 = (42 : Int)) (n12 x0 x3b x3n x3c x4 true Kn Ke1 Ke0 Kr h125) (Spl (x5 = (95 : Int)) (n12 x0 x3b x3n x3c x4 true Kn Ke1 Ke0 Kr h125) (Spl (x5 = (126 : Int)) (n12 x0 x3b x3n x3c x4 true Kn Ke1 Ke0 Kr h125) (Spl (x5 = (40 : Int)) (n12 x0 x3b x3n x3c x4 true Kn Ke1 Ke0 Kr h125) (n12 x0 x3b x3n x3c x4 false Kn Ke1 Ke0 Kr h125))))))
theorem n11_ok (x0 : List UInt8) (x3b : Option Addr) (x3n : Nat) (x3c : Nat) (x4 : Int) (x5 : Int) (Kn : T3) (Ke1 : T3) (Ke0 : T4) (Kr : T0) (g : Env) (hg : E5 g x0 x3b x3n x3c x4 x5) (h : H) (hS : n11 x0 x3b x3n x3c x4 x5 Kn Ke1 Ke0 Kr h) : wpC none Tryd.prog 84 n10_c2 (Q4 Kn Ke1 Ke0 Kr) g h := by
  obtain ⟨hg0, hg3, hg4, hg5, hds⟩ := hg
  refine wpC_seq' (x := n11_c1) (y := n11_c2) (Q' := (Q8 (fun z0 z3b z3n z3c z4 z6 h => n12 z0 z3b z3n z3c z4 z6 Kn Ke1 Ke0 Kr h) Ke1 Ke0 Kr)) (by kernel_rfl) ?_ ?_
  · refine wpC_of_wpx (by kernel_rfl) (by kernel_rfl) (g' := ((((⟨g.v, []⟩ : Env).upd (some 0) (S x0)).upd (some 3) (.slice x3b x3n x3c)).upd (some 4) (.int .i64 x4)).upd (some 5) (.int .i32 x5)) (by rw [env_ds hds, upd_self hg0, upd_self hg3, upd_self hg4, upd_self hg5]) ?_
    have e : (n11 x0 x3b x3n x3c x4 x5 Kn Ke1 Ke0 Kr h) = wpx none Tryd.prog 84 n11_c1 (Q8 (fun z0 z3b z3n z3c z4 z6 h => n12 z0 z3b z3n z3c z4 z6 Kn Ke1 Ke0 Kr h) Ke1 Ke0 Kr) (((((⟨g.v, []⟩ : Env).upd (some 0) (S x0)).upd (some 3) (.slice x3b x3n x3c)).upd (some 4) (.int .i64 x4)).upd (some 5) (.int .i32 x5)) h := by kernel_rfl
    exact e ▸ hS
  · intro e g' h' hq
    cases e with
    | normal =>
      have hq : D6 (fun z0 z3b z3n z3c z4 z6 h => n12 z0 z3b z3n z3c z4 z6 Kn Ke1 Ke0 Kr h) g' h' := hq
      obtain ⟨y0, y3b, y3n, y3c, y4, y6, hg', hq⟩ := D6_ok hq
      exact n12_ok y0 y3b y3n y3c y4 y6 Kn Ke1 Ke0 Kr g' hg' h' hq
    | _ => exact hq
def Q9 (Kn : T5) (Ke1 : T3) (Ke0 : T4) (Kr : T0) : XPost
  | .normal, g, h => D5 Kn g h
  | .ret, g, h => D0 Kr g h
  | .exit id, g, h => cond (Nat.beq id 1) (D3 Ke1 g h) (cond (Nat.beq id 0) (D4 Ke0 g h) (False))
  | _, _, _ => False
abbrev n10 (x0 : List UInt8) (x3b : Option Addr) (x3n : Nat) (x3c : Nat) (x4 : Int) (Kn : T3) (Ke1 : T3) (Ke0 : T4) (Kr : T0) (h : H) : Prop :=
  HCalls Tryd.prog 11 ⟨[(S x0), (.int .i64 x4)]⟩ h fun v127 h128 => vInt .i32 v127 fun i129 => n11 x0 x3b x3n x3c x4 i129 Kn Ke1 Ke0 Kr h128
theorem n10_ok (x0 : List UInt8) (x3b : Option Addr) (x3n : Nat) (x3c : Nat) (x4 : Int) (Kn : T3) (Ke1 : T3) (Ke0 : T4) (Kr : T0) (g : Env) (hg : E3 g x0 x3b x3n x3c x4) (h : H) (hS : n10 x0 x3b x3n x3c x4 Kn Ke1 Ke0 Kr h) : wpC none Tryd.prog 84 n9_c1 (Q4 Kn Ke1 Ke0 Kr) g h := by
  obtain ⟨hg0, hg3, hg4, hds⟩ := hg
  refine wpC_seq' (x := n10_c1) (y := n10_c2) (Q' := (Q9 (fun z0 z3b z3n z3c z4 z5 h => n11 z0 z3b z3n z3c z4 z5 Kn Ke1 Ke0 Kr h) Ke1 Ke0 Kr)) (by kernel_rfl) ?_ ?_
  · refine wpC_of_wpx (by kernel_rfl) (by kernel_rfl) (g' := (((⟨g.v, []⟩ : Env).upd (some 0) (S x0)).upd (some 3) (.slice x3b x3n x3c)).upd (some 4) (.int .i64 x4)) (by rw [env_ds hds, upd_self hg0, upd_self hg3, upd_self hg4]) ?_
    have e : (n10 x0 x3b x3n x3c x4 Kn Ke1 Ke0 Kr h) = wpx none Tryd.prog 84 n10_c1 (Q9 (fun z0 z3b z3n z3c z4 z5 h => n11 z0 z3b z3n z3c z4 z5 Kn Ke1 Ke0 Kr h) Ke1 Ke0 Kr) ((((⟨g.v, []⟩ : Env).upd (some 0) (S x0)).upd (some 3) (.slice x3b x3n x3c)).upd (some 4) (.int .i64 x4)) h := by kernel_rfl
    exact e ▸ hS
  · intro e g' h' hq
    cases e with
    | normal =>
      have hq : D5 (fun z0 z3b z3n z3c z4 z5 h => n11 z0 z3b z3n z3c z4 z5 Kn Ke1 Ke0 Kr h) g' h' := hq
      obtain ⟨y0, y3b, y3n, y3c, y4, y5, hg', hq⟩ := D5_ok hq
      exact n11_ok y0 y3b y3n y3c y4 y5 Kn Ke1 Ke0 Kr g' hg' h' hq
    | _ => exact hq
abbrev n9 (x0 : List UInt8) (x3b : Option Addr) (x3n : Nat) (x3c : Nat) (x4 : Int) (Kn : T3) (Ke0 : T4) (Kr : T0) (h : H) : Prop := n10 x0 x3b x3n x3c x4 Kn Kn Ke0 Kr h
theorem n9_ok (x0 : List UInt8) (x3b : Option Addr) (x3n : Nat) (x3c : Nat) (x4 : Int) (Kn : T3) (Ke0 : T4) (Kr : T0) (g : Env) (hg : E3 g x0 x3b x3n x3c x4) (h : H) (hS : n9 x0 x3b x3n x3c x4 Kn Ke0 Kr h) : wpC none Tryd.prog 84 n8_c2 (Q3 Kn Ke0 Kr) g h := by
  refine wpC_block' (id := 1) (x := n9_c1) (by kernel_rfl) (n10_ok x0 x3b x3n x3c x4 Kn Kn Ke0 Kr g hg h hS) ?_
  intro e g' h' hq
  cases e <;> exact hq
abbrev n8 (x0 : List UInt8) (x3b : Option Addr) (x3n : Nat) (x3c : Nat) (x4 : Int) (Kn : T3) (Ke0 : T4) (Kr : T0) (h : H) : Prop :=
  Spl (x4 < (x0.length : Int)) (n9 x0 x3b x3n x3c x4 Kn Ke0 Kr h) (Ke0 x3b x3n x3c h)
theorem n8_ok (x0 : List UInt8) (x3b : Option Addr) (x3n : Nat) (x3c : Nat) (x4 : Int) (Kn : T3) (Ke0 : T4) (Kr : T0) (g : Env) (hg : E3 g x0 x3b x3n x3c x4) (h : H) (hS : n8 x0 x3b x3n x3c x4 Kn Ke0 Kr h) : wpC none Tryd.prog 84 n7_c1 (Q3 Kn Ke0 Kr) g h := by
  obtain ⟨hg0, hg3, hg4, hds⟩ := hg
  refine wpC_seq' (x := n8_c1) (y := n8_c2) (Q' := (Q3 (fun z0 z3b z3n z3c z4 h => n9 z0 z3b z3n z3c z4 Kn Ke0 Kr h) Ke0 Kr)) (by kernel_rfl) ?_ ?_
  · refine wpC_of_wpx (by kernel_rfl) (by kernel_rfl) (g' := (((⟨g.v, []⟩ : Env).upd (some 0) (S x0)).upd (some 3) (.slice x3b x3n x3c)).upd (some 4) (.int .i64 x4)) (by rw [env_ds hds, upd_self hg0, upd_self hg3, upd_self hg4]) ?_
    have e : (n8 x0 x3b x3n x3c x4 Kn Ke0 Kr h) = wpx none Tryd.prog 84 n8_c1 (Q3 (fun z0 z3b z3n z3c z4 h => n9 z0 z3b z3n z3c z4 Kn Ke0 Kr h) Ke0 Kr) ((((⟨g.v, []⟩ : Env).upd (some 0) (S x0)).upd (some 3) (.slice x3b x3n x3c)).upd (some 4) (.int .i64 x4)) h := by kernel_rfl
    exact e ▸ hS
  · intro e g' h' hq
    cases e with
    | normal =>
      have hq : D3 (fun z0 z3b z3n z3c z4 h => n9 z0 z3b z3n z3c z4 Kn Ke0 Kr h) g' h' := hq
      obtain ⟨y0, y3b, y3n, y3c, y4, hg', hq⟩ := D3_ok hq
      exact n9_ok y0 y3b y3n y3c y4 Kn Ke0 Kr g' hg' h' hq
    | _ => exact hq
def n7_L (Kn : T4) (Ke0 : T4) (Kr : T0) : Nat → (List UInt8) → (Option Addr) → Nat → Nat → Int → H → Prop
  | 0 => fun _ _ _ _ _ _ => False
  | N + 1 => fun x0 x3b x3n x3c x4 h => n8 x0 x3b x3n x3c x4 (fun z0 z3b z3n z3c z4 h => n7_L Kn Ke0 Kr N z0 z3b z3n z3c z4 h) Ke0 Kr h
abbrev n7 (x0 : List UInt8) (x3b : Option Addr) (x3n : Nat) (x3c : Nat) (x4 : Int) (Kn : T4) (Ke0 : T4) (Kr : T0) (h : H) : Prop := ∃ N, n7_L Kn Ke0 Kr N x0 x3b x3n x3c x4 h
theorem n7_ok (x0 : List UInt8) (x3b : Option Addr) (x3n : Nat) (x3c : Nat) (x4 : Int) (Kn : T4) (Ke0 : T4) (Kr : T0) (g : Env) (hg : E3 g x0 x3b x3n x3c x4) (h : H) (hS : n7 x0 x3b x3n x3c x4 Kn Ke0 Kr h) : wpC none Tryd.prog 84 n6_c1 (Q2 Kn Ke0 Kr) g h := by
  obtain ⟨N0, hS⟩ := hS
  refine wpC_loop' (x := n7_c1) (by kernel_rfl) (fun k g h => ∃ (x0 : List UInt8) (x3b : Option Addr) (x3n : Nat) (x3c : Nat) (x4 : Int), E3 g x0 x3b x3n x3c x4 ∧ n7_L Kn Ke0 Kr k x0 x3b x3n x3c x4 h) (fun g h hr => ?_) (fun N g h hr => ?_) N0 ⟨x0, x3b, x3n, x3c, x4, hg, hS⟩
  · obtain ⟨x0, x3b, x3n, x3c, x4, hg, hS⟩ := hr
    exact hS.elim
  · obtain ⟨x0, x3b, x3n, x3c, x4, hg, hS⟩ := hr
    refine (n8_ok x0 x3b x3n x3c x4 (fun z0 z3b z3n z3c z4 h => n7_L Kn Ke0 Kr N z0 z3b z3n z3c z4 h) Ke0 Kr g hg h hS).mono ?_
    intro e g' h' hq
    cases e with
    | normal => exact D3_ok (K := (fun z0 z3b z3n z3c z4 h => n7_L Kn Ke0 Kr N z0 z3b z3n z3c z4 h)) hq
    | _ => exact hq
abbrev n6 (x0 : List UInt8) (x3b : Option Addr) (x3n : Nat) (x3c : Nat) (x4 : Int) (Kn : T4) (Kr : T0) (h : H) : Prop := n7 x0 x3b x3n x3c x4 Kn Kn Kr h
theorem n6_ok (x0 : List UInt8) (x3b : Option Addr) (x3n : Nat) (x3c : Nat) (x4 : Int) (Kn : T4) (Kr : T0) (g : Env) (hg : E3 g x0 x3b x3n x3c x4) (h : H) (hS : n6 x0 x3b x3n x3c x4 Kn Kr h) : wpC none Tryd.prog 84 n4_c1 (Q1 Kn Kr) g h := by
  refine wpC_block' (id := 0) (x := n6_c1) (by kernel_rfl) (n7_ok x0 x3b x3n x3c x4 Kn Kn Kr g hg h hS) ?_
  intro e g' h' hq
  cases e <;> exact hq
abbrev n4 (x0 : List UInt8) (x3b : Option Addr) (x3n : Nat) (x3c : Nat) (x4 : Int) (Kn : T0) (Kr : T0) (h : H) : Prop := n6 x0 x3b x3n x3c x4 (fun z3b z3n z3c h => n5 z3b z3n z3c Kn Kr h) Kr h
theorem n4_ok (x0 : List UInt8) (x3b : Option Addr) (x3n : Nat) (x3c : Nat) (x4 : Int) (Kn : T0) (Kr : T0) (g : Env) (hg : E3 g x0 x3b x3n x3c x4) (h : H) (hS : n4 x0 x3b x3n x3c x4 Kn Kr h) : wpC none Tryd.prog 84 n3_c2 (Q0 Kn Kr) g h := by
  refine wpC_seq' (x := n4_c1) (y := n4_c2) (by kernel_rfl) (n6_ok x0 x3b x3n x3c x4 (fun z3b z3n z3c h => n5 z3b z3n z3c Kn Kr h) Kr g hg h hS) ?_
  intro e g' h' hq
  cases e with
  | normal =>
    have hq : D4 (fun z3b z3n z3c h => n5 z3b z3n z3c Kn Kr h) g' h' := hq
    obtain ⟨y3b, y3n, y3c, hg', hq⟩ := D4_ok hq
    exact n5_ok y3b y3n y3c Kn Kr g' hg' h' hq
  | _ => exact hq
def Q10 (Kn : T3) (Kr : T0) : XPost
  | .normal, g, h => D3 Kn g h
  | .ret, g, h => D0 Kr g h
  | _, _, _ => False
abbrev n3 (x0 : List UInt8) (x3b : Option Addr) (x3n : Nat) (x3c : Nat) (Kn : T0) (Kr : T0) (h : H) : Prop :=
  n4 x0 x3b x3n x3c (0 : Int) Kn Kr h
theorem n3_ok (x0 : List UInt8) (x3b : Option Addr) (x3n : Nat) (x3c : Nat) (Kn : T0) (Kr : T0) (g : Env) (hg : E2 g x0 x3b x3n x3c) (h : H) (hS : n3 x0 x3b x3n x3c Kn Kr h) : wpC none Tryd.prog 84 n2_c2 (Q0 Kn Kr) g h := by
  obtain ⟨hg0, hg3, hds⟩ := hg
  refine wpC_seq' (x := n3_c1) (y := n3_c2) (Q' := (Q10 (fun z0 z3b z3n z3c z4 h => n4 z0 z3b z3n z3c z4 Kn Kr h) Kr)) (by kernel_rfl) ?_ ?_
  · refine wpC_of_wpx (by kernel_rfl) (by kernel_rfl) (g' := ((⟨g.v, []⟩ : Env).upd (some 0) (S x0)).upd (some 3) (.slice x3b x3n x3c)) (by rw [env_ds hds, upd_self hg0, upd_self hg3]) ?_
    have e : (n3 x0 x3b x3n x3c Kn Kr h) = wpx none Tryd.prog 84 n3_c1 (Q10 (fun z0 z3b z3n z3c z4 h => n4 z0 z3b z3n z3c z4 Kn Kr h) Kr) (((⟨g.v, []⟩ : Env).upd (some 0) (S x0)).upd (some 3) (.slice x3b x3n x3c)) h := by kernel_rfl
    exact e ▸ hS
  · intro e g' h' hq
    cases e with
    | normal =>
      have hq : D3 (fun z0 z3b z3n z3c z4 h => n4 z0 z3b z3n z3c z4 Kn Kr h) g' h' := hq
      obtain ⟨y0, y3b, y3n, y3c, y4, hg', hq⟩ := D3_ok hq
      exact n4_ok y0 y3b y3n y3c y4 Kn Kr g' hg' h' hq
    | _ => exact hq
def Q11 (Kn : T2) (Kr : T0) : XPost
  | .normal, g, h => D2 Kn g h
  | .ret, g, h => D0 Kr g h
  | _, _, _ => False
abbrev n2 (x0 : List UInt8) (Kn : T0) (Kr : T0) (h : H) : Prop :=
  n3 x0 none 0 0 Kn Kr h
theorem n2_ok (x0 : List UInt8) (Kn : T0) (Kr : T0) (g : Env) (hg : E1 g x0) (h : H) (hS : n2 x0 Kn Kr h) : wpC none Tryd.prog 84 n1_c2 (Q0 Kn Kr) g h := by
  obtain ⟨hg0, hds⟩ := hg
  refine wpC_seq' (x := n2_c1) (y := n2_c2) (Q' := (Q11 (fun z0 z3b z3n z3c h => n3 z0 z3b z3n z3c Kn Kr h) Kr)) (by kernel_rfl) ?_ ?_
  · refine wpC_of_wpx (by kernel_rfl) (by kernel_rfl) (g' := (⟨g.v, []⟩ : Env).upd (some 0) (S x0)) (by rw [env_ds hds, upd_self hg0]) ?_
    have e : (n2 x0 Kn Kr h) = wpx none Tryd.prog 84 n2_c1 (Q11 (fun z0 z3b z3n z3c h => n3 z0 z3b z3n z3c Kn Kr h) Kr) ((⟨g.v, []⟩ : Env).upd (some 0) (S x0)) h := by kernel_rfl
    exact e ▸ hS
  · intro e g' h' hq
    cases e with
    | normal =>
      have hq : D2 (fun z0 z3b z3n z3c h => n3 z0 z3b z3n z3c Kn Kr h) g' h' := hq
      obtain ⟨y0, y3b, y3n, y3c, hg', hq⟩ := D2_ok hq
      exact n3_ok y0 y3b y3n y3c Kn Kr g' hg' h' hq
    | _ => exact hq
def Q12 (Kn : T1) (Kr : T0) : XPost
  | .normal, g, h => D1 Kn g h
  | .ret, g, h => D0 Kr g h
  | _, _, _ => False
abbrev n1 (x0 : List UInt8) (Kn : T0) (Kr : T0) (h : H) : Prop :=
  n2 x0 Kn Kr h
theorem n1_ok (x0 : List UInt8) (Kn : T0) (Kr : T0) (g : Env) (hg : E1 g x0) (h : H) (hS : n1 x0 Kn Kr h) : wpC none Tryd.prog 84 code (Q0 Kn Kr) g h := by
  obtain ⟨hg0, hds⟩ := hg
  refine wpC_seq' (x := n1_c1) (y := n1_c2) (Q' := (Q12 (fun z0 h => n2 z0 Kn Kr h) Kr)) (by kernel_rfl) ?_ ?_
  · refine wpC_of_wpx (by kernel_rfl) (by kernel_rfl) (g' := (⟨g.v, []⟩ : Env).upd (some 0) (S x0)) (by rw [env_ds hds, upd_self hg0]) ?_
    have e : (n1 x0 Kn Kr h) = wpx none Tryd.prog 84 n1_c1 (Q12 (fun z0 h => n2 z0 Kn Kr h) Kr) ((⟨g.v, []⟩ : Env).upd (some 0) (S x0)) h := by kernel_rfl
    exact e ▸ hS
  · intro e g' h' hq
    cases e with
    | normal =>
      have hq : D1 (fun z0 h => n2 z0 Kn Kr h) g' h' := hq
      obtain ⟨y0, hg', hq⟩ := D1_ok hq
      exact n2_ok y0 Kn Kr g' hg' h' hq
    | _ => exact hq
/-- WHAT tympan/tympanref28.Find ASKS -/
abbrev asks (x0 : List UInt8) (K : Value → H → Prop) (h : H) : Prop := n1 x0 (fun y2b y2n y2c h => K (.slice y2b y2n y2c) h) (fun y2b y2n y2c h => K (.slice y2b y2n y2c) h) h
theorem ok (x0 : List UInt8) (K : Value → H → Prop) (h : H) (hS : asks x0 K h) : HCalls Tryd.prog 7 ⟨[(S x0)]⟩ h K := by
  refine calls_of_wpC (c := code) Tryd.func7 (by kernel_rfl) (Nat.le_of_ble_eq_true (by kernel_rfl)) ?_
  refine (n1_ok x0 (fun y2b y2n y2c h => K (.slice y2b y2n y2c) h) (fun y2b y2n y2c h => K (.slice y2b y2n y2c) h) (env0 [(S x0)]) ⟨rfl, rfl⟩ h hS).mono ?_
  intro e g' h' hq
  cases e with
  | normal =>
    have hq : D0 (fun y2b y2n y2c h => K (.slice y2b y2n y2c) h) g' h' := hq
    obtain ⟨y2b, y2n, y2c, ⟨hg2, hd⟩, hq⟩ := D0_ok hq
    show leaveX g'.ds h' _
    rw [hd]
    show K (g'.v 2) h'
    rw [hg2]
    exact hq
  | ret =>
    have hq : D0 (fun y2b y2n y2c h => K (.slice y2b y2n y2c) h) g' h' := hq
    obtain ⟨y2b, y2n, y2c, ⟨hg2, hd⟩, hq⟩ := D0_ok hq
    show leaveX g'.ds h' _
    rw [hd]
    show K (g'.v 2) h'
    rw [hg2]
    exact hq
  | _ => exact hq
end Sx.r28_Find

/-! ### tympan/tympanlaw28.known -/
namespace Sx.l28_known
noncomputable def code : Code := bodyOf Tryd.f8
abbrev T0 := Bool → H → Prop
def E0 (g : Env) (x0 : Bool) : Prop := g.v 0 = (.bool x0) ∧ g.ds = []
def D0 (K : T0) (g : Env) (h : H) : Prop := nilDs g.ds (vBool (g.v 0) fun b1 => K b1 h)
theorem D0_ok {K : T0} {g : Env} {h : H} (hq : D0 K g h) : ∃ (x0 : Bool), E0 g x0 ∧ K x0 h := by
  obtain ⟨hd, hq⟩ := nilDs_ok hq
  obtain ⟨y3, e2, q4⟩ := vBool_ok hq
  exact ⟨y3, ⟨e2, hd⟩, q4⟩
def Q0 (Kn : T0) (Kr : T0) : XPost
  | .normal, g, h => D0 Kn g h
  | .ret, g, h => D0 Kr g h
  | _, _, _ => False
abbrev T1 := H → Prop
def E1 (g : Env)  : Prop := g.ds = []
def D1 (K : T1) (g : Env) (h : H) : Prop := nilDs g.ds (K h)
theorem D1_ok {K : T1} {g : Env} {h : H} (hq : D1 K g h) : E1 g  ∧ K  h := by
  obtain ⟨hd, hq⟩ := nilDs_ok hq
  skip
  exact ⟨hd, hq⟩
noncomputable def n1_c1 : Code := cFst code
noncomputable def n1_c2 : Code := cSnd code
noncomputable def n2_c1 : Code := cFst n1_c2
noncomputable def n2_c2 : Code := cSnd n1_c2
abbrev T2 := (Option Addr) → Nat → Nat → H → Prop
def E2 (g : Env) (x1b : Option Addr) (x1n : Nat) (x1c : Nat) : Prop := g.v 1 = (.slice x1b x1n x1c) ∧ g.ds = []
def D2 (K : T2) (g : Env) (h : H) : Prop := nilDs g.ds (vSlice (g.v 1) fun s5b s5n s5c => K s5b s5n s5c h)
theorem D2_ok {K : T2} {g : Env} {h : H} (hq : D2 K g h) : ∃ (x1b : Option Addr) (x1n : Nat) (x1c : Nat), E2 g x1b x1n x1c ∧ K x1b x1n x1c h := by
  obtain ⟨hd, hq⟩ := nilDs_ok hq
  obtain ⟨y7b, y7n, y7c, e6, q8⟩ := vSlice_ok hq
  exact ⟨y7b, y7n, y7c, ⟨e6, hd⟩, q8⟩
noncomputable def n3_c1 : Code := cFst n2_c2
noncomputable def n3_c2 : Code := cSnd n2_c2
abbrev T3 := Bool → H → Prop
def E3 (g : Env) (x2 : Bool) : Prop := g.v 2 = (.bool x2) ∧ g.ds = []
def D3 (K : T3) (g : Env) (h : H) : Prop := nilDs g.ds (vBool (g.v 2) fun b9 => K b9 h)
theorem D3_ok {K : T3} {g : Env} {h : H} (hq : D3 K g h) : ∃ (x2 : Bool), E3 g x2 ∧ K x2 h := by
  obtain ⟨hd, hq⟩ := nilDs_ok hq
  obtain ⟨y11, e10, q12⟩ := vBool_ok hq
  exact ⟨y11, ⟨e10, hd⟩, q12⟩
abbrev n4 (x2 : Bool) (Kn : T0) (Kr : T0) (h : H) : Prop :=
  cond x2 (HCalls Tryd.prog 6 ⟨[(S ([97, 119, 119, 119, 46, 97, 46, 98] : List UInt8))]⟩ h fun v13 h14 => vSlice v13 fun s15b s15n s15c => Spl ((s15n : Int) = (0 : Int)) (HCalls Tryd.prog 6 ⟨[(S ([104, 116, 116, 112, 58, 47, 47, 97, 95, 98, 46, 99] : List UInt8))]⟩ h14 fun v16 h17 => vSlice v16 fun s18b s18n s18c => Spl ((s18n : Int) = (0 : Int)) (Kr true h17) (Kr false h17)) (Kr false h14)) (Kr false h)
theorem n4_ok (x2 : Bool) (Kn : T0) (Kr : T0) (g : Env) (hg : E3 g x2) (h : H) (hS : n4 x2 Kn Kr h) : wpC none Tryd.prog 60 n3_c2 (Q0 Kn Kr) g h := by
  obtain ⟨hg2, hds⟩ := hg
  refine wpC_of_wpx (by kernel_rfl) (by kernel_rfl) (g' := (⟨g.v, []⟩ : Env).upd (some 2) (.bool x2)) (by rw [env_ds hds, upd_self hg2]) ?_
  have e : (n4 x2 Kn Kr h) = wpx none Tryd.prog 60 n3_c2 (Q0 Kn Kr) ((⟨g.v, []⟩ : Env).upd (some 2) (.bool x2)) h := by kernel_rfl
  exact e ▸ hS
def Q1 (Kn : T3) (Kr : T0) : XPost
  | .normal, g, h => D3 Kn g h
  | .ret, g, h => D0 Kr g h
  | _, _, _ => False
abbrev n3 (x1b : Option Addr) (x1n : Nat) (x1c : Nat) (Kn : T0) (Kr : T0) (h : H) : Prop :=
  Spl ((x1n : Int) = (2 : Int)) ((0 ≤ (0 : Int) ∧ (0 : Int) < (x1n : Int)) ∧ (vSome x1b fun a19 => ∃ i20, cell h ((a19.add (Int.toNat (0 : Int) * 3)).add 0) = some (.int .i64 i20) ∧ (Spl (i20 = (1 : Int)) ((0 ≤ (0 : Int) ∧ (0 : Int) < (x1n : Int)) ∧ (vSome x1b fun a21 => ∃ i22, cell h ((a21.add (Int.toNat (0 : Int) * 3)).add 1) = some (.int .i64 i22) ∧ (Spl (i22 = (10 : Int)) ((0 ≤ (0 : Int) ∧ (0 : Int) < (x1n : Int)) ∧ (vSome x1b fun a23 => ∃ s24, cell h ((a23.add (Int.toNat (0 : Int) * 3)).add 2) = some (S s24) ∧ (Spl (s24 = ([104, 116, 116, 112, 58, 47, 47, 119, 119, 119, 46, 97, 46, 98, 47, 99] : List UInt8)) ((0 ≤ (1 : Int) ∧ (1 : Int) < (x1n : Int)) ∧ (vSome x1b fun a25 => ∃ i26, cell h ((a25.add (Int.toNat (1 : Int) * 3)).add 0) = some (.int .i64 i26) ∧ (Spl (i26 = (13 : Int)) ((0 ≤ (1 : Int) ∧ (1 : Int) < (x1n : Int)) ∧ (vSome x1b fun a27 => ∃ i28, cell h ((a27.add (Int.toNat (1 : Int) * 3)).add 1) = some (.int .i64 i28) ∧ (Spl (i28 = (18 : Int)) ((0 ≤ (1 : Int) ∧ (1 : Int) < (x1n : Int)) ∧ (vSome x1b fun a29 => ∃ s30, cell h ((a29.add (Int.toNat (1 : Int) * 3)).add 2) = some (S s30) ∧ (Spl (s30 = ([109, 97, 105, 108, 116, 111, 58, 120, 64, 121, 46, 122] : List UInt8)) (n4 true Kn Kr h) (n4 false Kn Kr h)))) (n4 false Kn Kr h)))) (n4 false Kn Kr h)))) (n4 false Kn Kr h)))) (n4 false Kn Kr h)))) (n4 false Kn Kr h)))) (n4 false Kn Kr h)
theorem n3_ok (x1b : Option Addr) (x1n : Nat) (x1c : Nat) (Kn : T0) (Kr : T0) (g : Env) (hg : E2 g x1b x1n x1c) (h : H) (hS : n3 x1b x1n x1c Kn Kr h) : wpC none Tryd.prog 60 n2_c2 (Q0 Kn Kr) g h := by
  obtain ⟨hg1, hds⟩ := hg
  refine wpC_seq' (x := n3_c1) (y := n3_c2) (Q' := (Q1 (fun z2 h => n4 z2 Kn Kr h) Kr)) (by kernel_rfl) ?_ ?_
  · refine wpC_of_wpx (by kernel_rfl) (by kernel_rfl) (g' := (⟨g.v, []⟩ : Env).upd (some 1) (.slice x1b x1n x1c)) (by rw [env_ds hds, upd_self hg1]) ?_
    have e : (n3 x1b x1n x1c Kn Kr h) = wpx none Tryd.prog 60 n3_c1 (Q1 (fun z2 h => n4 z2 Kn Kr h) Kr) ((⟨g.v, []⟩ : Env).upd (some 1) (.slice x1b x1n x1c)) h := by kernel_rfl
    exact e ▸ hS
  · intro e g' h' hq
    cases e with
    | normal =>
      have hq : D3 (fun z2 h => n4 z2 Kn Kr h) g' h' := hq
      obtain ⟨y2, hg', hq⟩ := D3_ok hq
      exact n4_ok y2 Kn Kr g' hg' h' hq
    | _ => exact hq
def Q2 (Kn : T2) (Kr : T0) : XPost
  | .normal, g, h => D2 Kn g h
  | .ret, g, h => D0 Kr g h
  | _, _, _ => False
abbrev n2  (Kn : T0) (Kr : T0) (h : H) : Prop :=
  HCalls Tryd.prog 6 ⟨[(S ([40, 119, 119, 119, 46, 97, 46, 98, 47, 99, 41, 44, 32, 120, 64, 121, 46, 122, 46] : List UInt8))]⟩ h fun v31 h32 => vSlice v31 fun s33b s33n s33c => n3 s33b s33n s33c Kn Kr h32
theorem n2_ok  (Kn : T0) (Kr : T0) (g : Env) (hg : E1 g ) (h : H) (hS : n2  Kn Kr h) : wpC none Tryd.prog 60 n1_c2 (Q0 Kn Kr) g h := by
  have hds : g.ds = [] := hg
  refine wpC_seq' (x := n2_c1) (y := n2_c2) (Q' := (Q2 (fun z1b z1n z1c h => n3 z1b z1n z1c Kn Kr h) Kr)) (by kernel_rfl) ?_ ?_
  · refine wpC_of_wpx (by kernel_rfl) (by kernel_rfl) (g' := ⟨g.v, []⟩) (by rw [env_ds hds]) ?_
    have e : (n2  Kn Kr h) = wpx none Tryd.prog 60 n2_c1 (Q2 (fun z1b z1n z1c h => n3 z1b z1n z1c Kn Kr h) Kr) (⟨g.v, []⟩) h := by kernel_rfl
    exact e ▸ hS
  · intro e g' h' hq
    cases e with
    | normal =>
      have hq : D2 (fun z1b z1n z1c h => n3 z1b z1n z1c Kn Kr h) g' h' := hq
      obtain ⟨y1b, y1n, y1c, hg', hq⟩ := D2_ok hq
      exact n3_ok y1b y1n y1c Kn Kr g' hg' h' hq
    | _ => exact hq
def Q3 (Kn : T1) (Kr : T0) : XPost
  | .normal, g, h => D1 Kn g h
  | .ret, g, h => D0 Kr g h
  | _, _, _ => False
abbrev n1  (Kn : T0) (Kr : T0) (h : H) : Prop :=
  n2 Kn Kr h
theorem n1_ok  (Kn : T0) (Kr : T0) (g : Env) (hg : E1 g ) (h : H) (hS : n1  Kn Kr h) : wpC none Tryd.prog 60 code (Q0 Kn Kr) g h := by
  have hds : g.ds = [] := hg
  refine wpC_seq' (x := n1_c1) (y := n1_c2) (Q' := (Q3 (fun  h => n2 Kn Kr h) Kr)) (by kernel_rfl) ?_ ?_
  · refine wpC_of_wpx (by kernel_rfl) (by kernel_rfl) (g' := ⟨g.v, []⟩) (by rw [env_ds hds]) ?_
    have e : (n1  Kn Kr h) = wpx none Tryd.prog 60 n1_c1 (Q3 (fun  h => n2 Kn Kr h) Kr) (⟨g.v, []⟩) h := by kernel_rfl
    exact e ▸ hS
  · intro e g' h' hq
    cases e with
    | normal =>
      have hq : D1 (fun  h => n2 Kn Kr h) g' h' := hq
      obtain ⟨hg', hq⟩ := D1_ok hq
      exact n2_ok  Kn Kr g' hg' h' hq
    | _ => exact hq
/-- WHAT tympan/tympanlaw28.known ASKS -/
abbrev asks  (K : Value → H → Prop) (h : H) : Prop := n1  (fun y0 h => K (.bool y0) h) (fun y0 h => K (.bool y0) h) h
theorem ok  (K : Value → H → Prop) (h : H) (hS : asks  K h) : HCalls Tryd.prog 8 ⟨[]⟩ h K := by
  refine calls_of_wpC (c := code) Tryd.func8 (by kernel_rfl) (Nat.le_of_ble_eq_true (by kernel_rfl)) ?_
  refine (n1_ok  (fun y0 h => K (.bool y0) h) (fun y0 h => K (.bool y0) h) (env0 []) rfl h hS).mono ?_
  intro e g' h' hq
  cases e with
  | normal =>
    have hq : D0 (fun y0 h => K (.bool y0) h) g' h' := hq
    obtain ⟨y0, ⟨hg0, hd⟩, hq⟩ := D0_ok hq
    show leaveX g'.ds h' _
    rw [hd]
    show K (g'.v 0) h'
    rw [hg0]
    exact hq
  | ret =>
    have hq : D0 (fun y0 h => K (.bool y0) h) g' h' := hq
    obtain ⟨y0, ⟨hg0, hd⟩, hq⟩ := D0_ok hq
    show leaveX g'.ds h' _
    rw [hd]
    show K (g'.v 0) h'
    rw [hg0]
    exact hq
  | _ => exact hq
end Sx.l28_known

/-! ### tympan/tympanref28.page -/
namespace Sx.r28_page
noncomputable def code : Code := bodyOf Tryd.f13
abbrev T0 := (List UInt8) → Int → H → Prop
def E0 (g : Env) (x4 : List UInt8) (x5 : Int) : Prop := g.v 4 = (S x4) ∧ g.v 5 = (.int .i64 x5) ∧ g.ds = []
def D0 (K : T0) (g : Env) (h : H) : Prop := nilDs g.ds (vStr (g.v 4) fun s1 => vInt .i64 (g.v 5) fun i2 => K s1 i2 h)
theorem D0_ok {K : T0} {g : Env} {h : H} (hq : D0 K g h) : ∃ (x4 : List UInt8) (x5 : Int), E0 g x4 x5 ∧ K x4 x5 h := by
  obtain ⟨hd, hq⟩ := nilDs_ok hq
  obtain ⟨y4, e3, q5⟩ := vStr_ok hq
  obtain ⟨y7, e6, q8⟩ := vInt_ok q5
  exact ⟨y4, y7, ⟨e3, e6, hd⟩, q8⟩
def Q0 (Kn : T0) (Kr : T0) : XPost
  | .normal, g, h => D0 Kn g h
  | .ret, g, h => D0 Kr g h
  | _, _, _ => False
abbrev T1 := (List UInt8) → Int → H → Prop
def E1 (g : Env) (x0 : List UInt8) (x1 : Int) : Prop := g.v 0 = (S x0) ∧ g.v 1 = (.int .i64 x1) ∧ g.ds = []
def D1 (K : T1) (g : Env) (h : H) : Prop := nilDs g.ds (vStr (g.v 0) fun s9 => vInt .i64 (g.v 1) fun i10 => K s9 i10 h)
theorem D1_ok {K : T1} {g : Env} {h : H} (hq : D1 K g h) : ∃ (x0 : List UInt8) (x1 : Int), E1 g x0 x1 ∧ K x0 x1 h := by
  obtain ⟨hd, hq⟩ := nilDs_ok hq
  obtain ⟨y12, e11, q13⟩ := vStr_ok hq
  obtain ⟨y15, e14, q16⟩ := vInt_ok q13
  exact ⟨y12, y15, ⟨e11, e14, hd⟩, q16⟩
noncomputable def n1_c1 : Code := cFst code
noncomputable def n1_c2 : Code := cSnd code
noncomputable def n2_c1 : Code := cFst n1_c2
noncomputable def n2_c2 : Code := cSnd n1_c2
abbrev T2 := (List UInt8) → Int → (Option Addr) → Nat → Nat → H → Prop
def E2 (g : Env) (x0 : List UInt8) (x1 : Int) (x6b : Option Addr) (x6n : Nat) (x6c : Nat) : Prop := g.v 0 = (S x0) ∧ g.v 1 = (.int .i64 x1) ∧ g.v 6 = (.slice x6b x6n x6c) ∧ g.ds = []
def D2 (K : T2) (g : Env) (h : H) : Prop := nilDs g.ds (vStr (g.v 0) fun s17 => vInt .i64 (g.v 1) fun i18 => vSlice (g.v 6) fun s19b s19n s19c => K s17 i18 s19b s19n s19c h)
theorem D2_ok {K : T2} {g : Env} {h : H} (hq : D2 K g h) : ∃ (x0 : List UInt8) (x1 : Int) (x6b : Option Addr) (x6n : Nat) (x6c : Nat), E2 g x0 x1 x6b x6n x6c ∧ K x0 x1 x6b x6n x6c h := by
  obtain ⟨hd, hq⟩ := nilDs_ok hq
  obtain ⟨y21, e20, q22⟩ := vStr_ok hq
  obtain ⟨y24, e23, q25⟩ := vInt_ok q22
  obtain ⟨y27b, y27n, y27c, e26, q28⟩ := vSlice_ok q25
  exact ⟨y21, y24, y27b, y27n, y27c, ⟨e20, e23, e26, hd⟩, q28⟩
noncomputable def n3_c1 : Code := cFst n2_c2
noncomputable def n3_c2 : Code := cSnd n2_c2
abbrev T3 := (List UInt8) → Int → (Option Addr) → Nat → Nat → Int → H → Prop
def E3 (g : Env) (x0 : List UInt8) (x1 : Int) (x6b : Option Addr) (x6n : Nat) (x6c : Nat) (x7 : Int) : Prop := g.v 0 = (S x0) ∧ g.v 1 = (.int .i64 x1) ∧ g.v 6 = (.slice x6b x6n x6c) ∧ g.v 7 = (.int .i64 x7) ∧ g.ds = []
def D3 (K : T3) (g : Env) (h : H) : Prop := nilDs g.ds (vStr (g.v 0) fun s29 => vInt .i64 (g.v 1) fun i30 => vSlice (g.v 6) fun s31b s31n s31c => vInt .i64 (g.v 7) fun i32 => K s29 i30 s31b s31n s31c i32 h)
theorem D3_ok {K : T3} {g : Env} {h : H} (hq : D3 K g h) : ∃ (x0 : List UInt8) (x1 : Int) (x6b : Option Addr) (x6n : Nat) (x6c : Nat) (x7 : Int), E3 g x0 x1 x6b x6n x6c x7 ∧ K x0 x1 x6b x6n x6c x7 h := by
  obtain ⟨hd, hq⟩ := nilDs_ok hq
  obtain ⟨y34, e33, q35⟩ := vStr_ok hq
  obtain ⟨y37, e36, q38⟩ := vInt_ok q35
  obtain ⟨y40b, y40n, y40c, e39, q41⟩ := vSlice_ok q38
  obtain ⟨y43, e42, q44⟩ := vInt_ok q41
  exact ⟨y34, y37, y40b, y40n, y40c, y43, ⟨e33, e36, e39, e42, hd⟩, q44⟩
noncomputable def n4_c1 : Code := cFst n3_c2
noncomputable def n4_c2 : Code := cSnd n3_c2
abbrev T4 := (List UInt8) → Int → Int → H → Prop
def E4 (g : Env) (x0 : List UInt8) (x1 : Int) (x7 : Int) : Prop := g.v 0 = (S x0) ∧ g.v 1 = (.int .i64 x1) ∧ g.v 7 = (.int .i64 x7) ∧ g.ds = []
def D4 (K : T4) (g : Env) (h : H) : Prop := nilDs g.ds (vStr (g.v 0) fun s45 => vInt .i64 (g.v 1) fun i46 => vInt .i64 (g.v 7) fun i47 => K s45 i46 i47 h)
theorem D4_ok {K : T4} {g : Env} {h : H} (hq : D4 K g h) : ∃ (x0 : List UInt8) (x1 : Int) (x7 : Int), E4 g x0 x1 x7 ∧ K x0 x1 x7 h := by
  obtain ⟨hd, hq⟩ := nilDs_ok hq
  obtain ⟨y49, e48, q50⟩ := vStr_ok hq
  obtain ⟨y52, e51, q53⟩ := vInt_ok q50
  obtain ⟨y55, e54, q56⟩ := vInt_ok q53
  exact ⟨y49, y52, y55, ⟨e48, e51, e54, hd⟩, q56⟩
noncomputable def n5_c1 : Code := cFst n4_c2
noncomputable def n5_c2 : Code := cSnd n4_c2
abbrev T5 := (List UInt8) → Int → Int → Bool → H → Prop
def E5 (g : Env) (x0 : List UInt8) (x1 : Int) (x7 : Int) (x9 : Bool) : Prop := g.v 0 = (S x0) ∧ g.v 1 = (.int .i64 x1) ∧ g.v 7 = (.int .i64 x7) ∧ g.v 9 = (.bool x9) ∧ g.ds = []
def D5 (K : T5) (g : Env) (h : H) : Prop := nilDs g.ds (vStr (g.v 0) fun s57 => vInt .i64 (g.v 1) fun i58 => vInt .i64 (g.v 7) fun i59 => vBool (g.v 9) fun b60 => K s57 i58 i59 b60 h)
theorem D5_ok {K : T5} {g : Env} {h : H} (hq : D5 K g h) : ∃ (x0 : List UInt8) (x1 : Int) (x7 : Int) (x9 : Bool), E5 g x0 x1 x7 x9 ∧ K x0 x1 x7 x9 h := by
  obtain ⟨hd, hq⟩ := nilDs_ok hq
  obtain ⟨y62, e61, q63⟩ := vStr_ok hq
  obtain ⟨y65, e64, q66⟩ := vInt_ok q63
  obtain ⟨y68, e67, q69⟩ := vInt_ok q66
  obtain ⟨y71, e70, q72⟩ := vBool_ok q69
  exact ⟨y62, y65, y68, y71, ⟨e61, e64, e67, e70, hd⟩, q72⟩
noncomputable def n6_c1 : Code := cFst n5_c2
noncomputable def n6_c2 : Code := cSnd n5_c2
noncomputable def n7_c1 : Code := cFst n6_c2
noncomputable def n7_c2 : Code := cSnd n6_c2
noncomputable def n8_c1 : Code := cFst n7_c2
noncomputable def n8_c2 : Code := cSnd n7_c2
abbrev T6 := (List UInt8) → Int → Bool → Int → H → Prop
def E6 (g : Env) (x0 : List UInt8) (x1 : Int) (x9 : Bool) (x10 : Int) : Prop := g.v 0 = (S x0) ∧ g.v 1 = (.int .i64 x1) ∧ g.v 9 = (.bool x9) ∧ g.v 10 = (.int .i64 x10) ∧ g.ds = []
def D6 (K : T6) (g : Env) (h : H) : Prop := nilDs g.ds (vStr (g.v 0) fun s73 => vInt .i64 (g.v 1) fun i74 => vBool (g.v 9) fun b75 => vInt .i64 (g.v 10) fun i76 => K s73 i74 b75 i76 h)
theorem D6_ok {K : T6} {g : Env} {h : H} (hq : D6 K g h) : ∃ (x0 : List UInt8) (x1 : Int) (x9 : Bool) (x10 : Int), E6 g x0 x1 x9 x10 ∧ K x0 x1 x9 x10 h := by
  obtain ⟨hd, hq⟩ := nilDs_ok hq
  obtain ⟨y78, e77, q79⟩ := vStr_ok hq
  obtain ⟨y81, e80, q82⟩ := vInt_ok q79
  obtain ⟨y84, e83, q85⟩ := vBool_ok q82
  obtain ⟨y87, e86, q88⟩ := vInt_ok q85
  exact ⟨y78, y81, y84, y87, ⟨e77, e80, e83, e86, hd⟩, q88⟩
noncomputable def n9_c1 : Code := cFst n8_c2
noncomputable def n9_c2 : Code := cSnd n8_c2
noncomputable def n10_c1 : Code := cFst n9_c2
noncomputable def n10_c2 : Code := cSnd n9_c2
abbrev T7 := (List UInt8) → Int → Bool → Int → Int → H → Prop
def E7 (g : Env) (x0 : List UInt8) (x1 : Int) (x9 : Bool) (x10 : Int) (x12 : Int) : Prop := g.v 0 = (S x0) ∧ g.v 1 = (.int .i64 x1) ∧ g.v 9 = (.bool x9) ∧ g.v 10 = (.int .i64 x10) ∧ g.v 12 = (.int .i64 x12) ∧ g.ds = []
def D7 (K : T7) (g : Env) (h : H) : Prop := nilDs g.ds (vStr (g.v 0) fun s89 => vInt .i64 (g.v 1) fun i90 => vBool (g.v 9) fun b91 => vInt .i64 (g.v 10) fun i92 => vInt .i64 (g.v 12) fun i93 => K s89 i90 b91 i92 i93 h)
theorem D7_ok {K : T7} {g : Env} {h : H} (hq : D7 K g h) : ∃ (x0 : List UInt8) (x1 : Int) (x9 : Bool) (x10 : Int) (x12 : Int), E7 g x0 x1 x9 x10 x12 ∧ K x0 x1 x9 x10 x12 h := by
  obtain ⟨hd, hq⟩ := nilDs_ok hq
  obtain ⟨y95, e94, q96⟩ := vStr_ok hq
  obtain ⟨y98, e97, q99⟩ := vInt_ok q96
  obtain ⟨y101, e100, q102⟩ := vBool_ok q99
  obtain ⟨y104, e103, q105⟩ := vInt_ok q102
  obtain ⟨y107, e106, q108⟩ := vInt_ok q105
  exact ⟨y95, y98, y101, y104, y107, ⟨e94, e97, e100, e103, e106, hd⟩, q108⟩
noncomputable def n11_c1 : Code := cFst n10_c2
noncomputable def n11_c2 : Code := cSnd n10_c2
abbrev n12 (x0 : List UInt8) (x1 : Int) (x9 : Bool) (x10 : Int) (x12 : Int) (Kn : T0) (Kr : T0) (h : H) : Prop :=
  (0 ≤ x1 ∧ x1 ≤ x12 ∧ x12 ≤ (x0.length : Int)) ∧ (Rng .i64 (x10 - x1) ∧ (HCalls Tryd.prog 26 ⟨[(S (sub x0 x1 x12)), (.int .i64 (x10 - x1))]⟩ h fun v109 h110 => vStr v109 fun s111 => cond x9 (((([104, 116, 116, 112, 58, 47, 47] : List UInt8).length + s111.length : Nat) : Int) ≤ 9223372036854775807 ∧ (Rng .i64 (x1 + (s111.length : Int)) ∧ (Kr (([104, 116, 116, 112, 58, 47, 47] : List UInt8) ++ s111) (x1 + (s111.length : Int)) h110))) (Rng .i64 (x1 + (s111.length : Int)) ∧ (Kr s111 (x1 + (s111.length : Int)) h110))))
theorem n12_ok (x0 : List UInt8) (x1 : Int) (x9 : Bool) (x10 : Int) (x12 : Int) (Kn : T0) (Kr : T0) (g : Env) (hg : E7 g x0 x1 x9 x10 x12) (h : H) (hS : n12 x0 x1 x9 x10 x12 Kn Kr h) : wpC none Tryd.prog 108 n11_c2 (Q0 Kn Kr) g h := by
  obtain ⟨hg0, hg1, hg9, hg10, hg12, hds⟩ := hg
  refine wpC_of_wpx (by kernel_rfl) (by kernel_rfl) (g' := (((((⟨g.v, []⟩ : Env).upd (some 0) (S x0)).upd (some 1) (.int .i64 x1)).upd (some 9) (.bool x9)).upd (some 10) (.int .i64 x10)).upd (some 12) (.int .i64 x12)) (by rw [env_ds hds, upd_self hg0, upd_self hg1, upd_self hg9, upd_self hg10, upd_self hg12]) ?_
  have e : (n12 x0 x1 x9 x10 x12 Kn Kr h) = wpx none Tryd.prog 108 n11_c2 (Q0 Kn Kr) ((((((⟨g.v, []⟩ : Env).upd (some 0) (S x0)).upd (some 1) (.int .i64 x1)).upd (some 9) (.bool x9)).upd (some 10) (.int .i64 x10)).upd (some 12) (.int .i64 x12)) h := by kernel_rfl
  exact e ▸ hS
def Q1 (Kn : T7) (Kr : T0) : XPost
  | .normal, g, h => D7 Kn g h
  | .ret, g, h => D0 Kr g h
  | _, _, _ => False
noncomputable def n13_c1 : Code := cFst n11_c1
def Q2 (Kn : T7) (Ke2 : T7) (Kr : T0) : XPost
  | .normal, g, h => D7 Kn g h
  | .ret, g, h => D0 Kr g h
  | .exit id, g, h => cond (Nat.beq id 2) (D7 Ke2 g h) (False)
  | _, _, _ => False
noncomputable def n14_c1 : Code := cFst n13_c1
noncomputable def n15_c1 : Code := cFst n14_c1
noncomputable def n15_c2 : Code := cSnd n14_c1
noncomputable def n16_c1 : Code := cFst n15_c2
def Q3 (Kn : T7) (Ke3 : T7) (Ke2 : T7) (Kr : T0) : XPost
  | .normal, g, h => D7 Kn g h
  | .ret, g, h => D0 Kr g h
  | .exit id, g, h => cond (Nat.beq id 3) (D7 Ke3 g h) (cond (Nat.beq id 2) (D7 Ke2 g h) (False))
  | _, _, _ => False
noncomputable def n17_c1 : Code := cFst n16_c1
noncomputable def n17_c2 : Code := cSnd n16_c1
noncomputable def n18_c1 : Code := cFst n17_c2
def Q4 (Kn : T7) (Ke4 : T7) (Ke3 : T7) (Ke2 : T7) (Kr : T0) : XPost
  | .normal, g, h => D7 Kn g h
  | .ret, g, h => D0 Kr g h
  | .exit id, g, h => cond (Nat.beq id 4) (D7 Ke4 g h) (cond (Nat.beq id 3) (D7 Ke3 g h) (cond (Nat.beq id 2) (D7 Ke2 g h) (False)))
  | _, _, _ => False
noncomputable def n19_c1 : Code := cFst n18_c1
def n19_L (Kn : T7) (Ke4 : T7) (Ke3 : T7) (Ke2 : T7) (Kr : T0) : Nat → (List UInt8) → Int → Bool → Int → Int → H → Prop
  | 0 => fun _ _ _ _ _ _ => False
  | N + 1 => fun x0 x1 x9 x10 x12 h => Spl (x12 < (x0.length : Int)) ((0 ≤ x12 ∧ x12 < (x0.length : Int)) ∧ (Spl (((List.getD x0 (Int.toNat x12) 0).toNat : Int) ≥ (128 : Int)) ((0 ≤ x12 ∧ x12 < (x0.length : Int)) ∧ (Spl (((List.getD x0 (Int.toNat x12) 0).toNat : Int) < (192 : Int)) (Rng .i64 (x12 + (1 : Int)) ∧ (n19_L Kn Ke4 Ke3 Ke2 Kr N x0 x1 x9 x10 (x12 + (1 : Int)) h)) (Ke4 x0 x1 x9 x10 x12 h))) (Ke4 x0 x1 x9 x10 x12 h))) (Ke4 x0 x1 x9 x10 x12 h)
abbrev n19 (x0 : List UInt8) (x1 : Int) (x9 : Bool) (x10 : Int) (x12 : Int) (Kn : T7) (Ke4 : T7) (Ke3 : T7) (Ke2 : T7) (Kr : T0) (h : H) : Prop := ∃ N, n19_L Kn Ke4 Ke3 Ke2 Kr N x0 x1 x9 x10 x12 h
theorem n19_ok (x0 : List UInt8) (x1 : Int) (x9 : Bool) (x10 : Int) (x12 : Int) (Kn : T7) (Ke4 : T7) (Ke3 : T7) (Ke2 : T7) (Kr : T0) (g : Env) (hg : E7 g x0 x1 x9 x10 x12) (h : H) (hS : n19 x0 x1 x9 x10 x12 Kn Ke4 Ke3 Ke2 Kr h) : wpC none Tryd.prog 108 n18_c1 (Q4 Kn Ke4 Ke3 Ke2 Kr) g h := by
  obtain ⟨N0, hS⟩ := hS
  refine wpC_loop' (x := n19_c1) (by kernel_rfl) (fun k g h => ∃ (x0 : List UInt8) (x1 : Int) (x9 : Bool) (x10 : Int) (x12 : Int), E7 g x0 x1 x9 x10 x12 ∧ n19_L Kn Ke4 Ke3 Ke2 Kr k x0 x1 x9 x10 x12 h) (fun g h hr => ?_) (fun N g h hr => ?_) N0 ⟨x0, x1, x9, x10, x12, hg, hS⟩
  · obtain ⟨x0, x1, x9, x10, x12, hg, hS⟩ := hr
    exact hS.elim
  · obtain ⟨x0, x1, x9, x10, x12, hg, hS⟩ := hr
    have hw : wpC none Tryd.prog 108 n19_c1 (Q4 (fun z0 z1 z9 z10 z12 h => n19_L Kn Ke4 Ke3 Ke2 Kr N z0 z1 z9 z10 z12 h) Ke4 Ke3 Ke2 Kr) g h := by
      obtain ⟨hg0, hg1, hg9, hg10, hg12, hds⟩ := hg
      refine wpC_of_wpx (by kernel_rfl) (by kernel_rfl) (g' := (((((⟨g.v, []⟩ : Env).upd (some 0) (S x0)).upd (some 1) (.int .i64 x1)).upd (some 9) (.bool x9)).upd (some 10) (.int .i64 x10)).upd (some 12) (.int .i64 x12)) (by rw [env_ds hds, upd_self hg0, upd_self hg1, upd_self hg9, upd_self hg10, upd_self hg12]) ?_
      have e : (n19_L Kn Ke4 Ke3 Ke2 Kr (N + 1) x0 x1 x9 x10 x12 h) = wpx none Tryd.prog 108 n19_c1 (Q4 (fun z0 z1 z9 z10 z12 h => n19_L Kn Ke4 Ke3 Ke2 Kr N z0 z1 z9 z10 z12 h) Ke4 Ke3 Ke2 Kr) ((((((⟨g.v, []⟩ : Env).upd (some 0) (S x0)).upd (some 1) (.int .i64 x1)).upd (some 9) (.bool x9)).upd (some 10) (.int .i64 x10)).upd (some 12) (.int .i64 x12)) h := by kernel_rfl
      exact e ▸ hS
    refine hw.mono ?_
    intro e g' h' hq
    cases e with
    | normal => exact D7_ok (K := (fun z0 z1 z9 z10 z12 h => n19_L Kn Ke4 Ke3 Ke2 Kr N z0 z1 z9 z10 z12 h)) hq
    | _ => exact hq
abbrev n18 (x0 : List UInt8) (x1 : Int) (x9 : Bool) (x10 : Int) (x12 : Int) (Kn : T7) (Ke3 : T7) (Ke2 : T7) (Kr : T0) (h : H) : Prop := n19 x0 x1 x9 x10 x12 Kn Kn Ke3 Ke2 Kr h
theorem n18_ok (x0 : List UInt8) (x1 : Int) (x9 : Bool) (x10 : Int) (x12 : Int) (Kn : T7) (Ke3 : T7) (Ke2 : T7) (Kr : T0) (g : Env) (hg : E7 g x0 x1 x9 x10 x12) (h : H) (hS : n18 x0 x1 x9 x10 x12 Kn Ke3 Ke2 Kr h) : wpC none Tryd.prog 108 n17_c2 (Q3 Kn Ke3 Ke2 Kr) g h := by
  refine wpC_block' (id := 4) (x := n18_c1) (by kernel_rfl) (n19_ok x0 x1 x9 x10 x12 Kn Kn Ke3 Ke2 Kr g hg h hS) ?_
  intro e g' h' hq
  cases e <;> exact hq
abbrev n17 (x0 : List UInt8) (x1 : Int) (x9 : Bool) (x10 : Int) (x12 : Int) (Kn : T7) (Ke3 : T7) (Ke2 : T7) (Kr : T0) (h : H) : Prop :=
  Rng .i64 (x12 + (1 : Int)) ∧ (n18 x0 x1 x9 x10 (x12 + (1 : Int)) Kn Ke3 Ke2 Kr h)
theorem n17_ok (x0 : List UInt8) (x1 : Int) (x9 : Bool) (x10 : Int) (x12 : Int) (Kn : T7) (Ke3 : T7) (Ke2 : T7) (Kr : T0) (g : Env) (hg : E7 g x0 x1 x9 x10 x12) (h : H) (hS : n17 x0 x1 x9 x10 x12 Kn Ke3 Ke2 Kr h) : wpC none Tryd.prog 108 n16_c1 (Q3 Kn Ke3 Ke2 Kr) g h := by
  obtain ⟨hg0, hg1, hg9, hg10, hg12, hds⟩ := hg
  refine wpC_seq' (x := n17_c1) (y := n17_c2) (Q' := (Q3 (fun z0 z1 z9 z10 z12 h => n18 z0 z1 z9 z10 z12 Kn Ke3 Ke2 Kr h) Ke3 Ke2 Kr)) (by kernel_rfl) ?_ ?_
  · refine wpC_of_wpx (by kernel_rfl) (by kernel_rfl) (g' := (((((⟨g.v, []⟩ : Env).upd (some 0) (S x0)).upd (some 1) (.int .i64 x1)).upd (some 9) (.bool x9)).upd (some 10) (.int .i64 x10)).upd (some 12) (.int .i64 x12)) (by rw [env_ds hds, upd_self hg0, upd_self hg1, upd_self hg9, upd_self hg10, upd_self hg12]) ?_
    have e : (n17 x0 x1 x9 x10 x12 Kn Ke3 Ke2 Kr h) = wpx none Tryd.prog 108 n17_c1 (Q3 (fun z0 z1 z9 z10 z12 h => n18 z0 z1 z9 z10 z12 Kn Ke3 Ke2 Kr h) Ke3 Ke2 Kr) ((((((⟨g.v, []⟩ : Env).upd (some 0) (S x0)).upd (some 1) (.int .i64 x1)).upd (some 9) (.bool x9)).upd (some 10) (.int .i64 x10)).upd (some 12) (.int .i64 x12)) h := by kernel_rfl
    exact e ▸ hS
  · intro e g' h' hq
    cases e with
    | normal =>
      have hq : D7 (fun z0 z1 z9 z10 z12 h => n18 z0 z1 z9 z10 z12 Kn Ke3 Ke2 Kr h) g' h' := hq
      obtain ⟨y0, y1, y9, y10, y12, hg', hq⟩ := D7_ok hq
      exact n18_ok y0 y1 y9 y10 y12 Kn Ke3 Ke2 Kr g' hg' h' hq
    | _ => exact hq
abbrev n16 (x0 : List UInt8) (x1 : Int) (x9 : Bool) (x10 : Int) (x12 : Int) (Kn : T7) (Ke2 : T7) (Kr : T0) (h : H) : Prop := n17 x0 x1 x9 x10 x12 Kn Kn Ke2 Kr h
theorem n16_ok (x0 : List UInt8) (x1 : Int) (x9 : Bool) (x10 : Int) (x12 : Int) (Kn : T7) (Ke2 : T7) (Kr : T0) (g : Env) (hg : E7 g x0 x1 x9 x10 x12) (h : H) (hS : n16 x0 x1 x9 x10 x12 Kn Ke2 Kr h) : wpC none Tryd.prog 108 n15_c2 (Q2 Kn Ke2 Kr) g h := by
  refine wpC_block' (id := 3) (x := n16_c1) (by kernel_rfl) (n17_ok x0 x1 x9 x10 x12 Kn Kn Ke2 Kr g hg h hS) ?_
  intro e g' h' hq
  cases e <;> exact hq
abbrev n15 (x0 : List UInt8) (x1 : Int) (x9 : Bool) (x10 : Int) (x12 : Int) (Kn : T7) (Ke2 : T7) (Kr : T0) (h : H) : Prop :=
  Spl (x12 < (x0.length : Int)) ((0 ≤ x12 ∧ x12 < (x0.length : Int)) ∧ (Spl (((List.getD x0 (Int.toNat x12) 0).toNat : Int) = (60 : Int)) (Ke2 x0 x1 x9 x10 x12 h) (HCalls Tryd.prog 25 ⟨[(S x0), (.int .i64 x12)]⟩ h fun v112 h113 => vInt .i32 v112 fun i114 => HCalls Tryd.prog 12 ⟨[(.int .i32 i114)]⟩ h113 fun v115 h116 => vBool v115 fun b117 => cond b117 (Ke2 x0 x1 x9 x10 x12 h116) (n16 x0 x1 x9 x10 x12 Kn Ke2 Kr h116)))) (Ke2 x0 x1 x9 x10 x12 h)
theorem n15_ok (x0 : List UInt8) (x1 : Int) (x9 : Bool) (x10 : Int) (x12 : Int) (Kn : T7) (Ke2 : T7) (Kr : T0) (g : Env) (hg : E7 g x0 x1 x9 x10 x12) (h : H) (hS : n15 x0 x1 x9 x10 x12 Kn Ke2 Kr h) : wpC none Tryd.prog 108 n14_c1 (Q2 Kn Ke2 Kr) g h := by
  obtain ⟨hg0, hg1, hg9, hg10, hg12, hds⟩ := hg
  refine wpC_seq' (x := n15_c1) (y := n15_c2) (Q' := (Q2 (fun z0 z1 z9 z10 z12 h => n16 z0 z1 z9 z10 z12 Kn Ke2 Kr h) Ke2 Kr)) (by kernel_rfl) ?_ ?_
  · refine wpC_of_wpx (by kernel_rfl) (by kernel_rfl) (g' := (((((⟨g.v, []⟩ : Env).upd (some 0) (S x0)).upd (some 1) (.int .i64 x1)).upd (some 9) (.bool x9)).upd (some 10) (.int .i64 x10)).upd (some 12) (.int .i64 x12)) (by rw [env_ds hds, upd_self hg0, upd_self hg1, upd_self hg9, upd_self hg10, upd_self hg12]) ?_
    have e : (n15 x0 x1 x9 x10 x12 Kn Ke2 Kr h) = wpx none Tryd.prog 108 n15_c1 (Q2 (fun z0 z1 z9 z10 z12 h => n16 z0 z1 z9 z10 z12 Kn Ke2 Kr h) Ke2 Kr) ((((((⟨g.v, []⟩ : Env).upd (some 0) (S x0)).upd (some 1) (.int .i64 x1)).upd (some 9) (.bool x9)).upd (some 10) (.int .i64 x10)).upd (some 12) (.int .i64 x12)) h := by kernel_rfl
    exact e ▸ hS
  · intro e g' h' hq
    cases e with
    | normal =>
      have hq : D7 (fun z0 z1 z9 z10 z12 h => n16 z0 z1 z9 z10 z12 Kn Ke2 Kr h) g' h' := hq
      obtain ⟨y0, y1, y9, y10, y12, hg', hq⟩ := D7_ok hq
      exact n16_ok y0 y1 y9 y10 y12 Kn Ke2 Kr g' hg' h' hq
    | _ => exact hq
def n14_L (Kn : T7) (Ke2 : T7) (Kr : T0) : Nat → (List UInt8) → Int → Bool → Int → Int → H → Prop
  | 0 => fun _ _ _ _ _ _ => False
  | N + 1 => fun x0 x1 x9 x10 x12 h => n15 x0 x1 x9 x10 x12 (fun z0 z1 z9 z10 z12 h => n14_L Kn Ke2 Kr N z0 z1 z9 z10 z12 h) Ke2 Kr h
abbrev n14 (x0 : List UInt8) (x1 : Int) (x9 : Bool) (x10 : Int) (x12 : Int) (Kn : T7) (Ke2 : T7) (Kr : T0) (h : H) : Prop := ∃ N, n14_L Kn Ke2 Kr N x0 x1 x9 x10 x12 h
theorem n14_ok (x0 : List UInt8) (x1 : Int) (x9 : Bool) (x10 : Int) (x12 : Int) (Kn : T7) (Ke2 : T7) (Kr : T0) (g : Env) (hg : E7 g x0 x1 x9 x10 x12) (h : H) (hS : n14 x0 x1 x9 x10 x12 Kn Ke2 Kr h) : wpC none Tryd.prog 108 n13_c1 (Q2 Kn Ke2 Kr) g h := by
  obtain ⟨N0, hS⟩ := hS
  refine wpC_loop' (x := n14_c1) (by kernel_rfl) (fun k g h => ∃ (x0 : List UInt8) (x1 : Int) (x9 : Bool) (x10 : Int) (x12 : Int), E7 g x0 x1 x9 x10 x12 ∧ n14_L Kn Ke2 Kr k x0 x1 x9 x10 x12 h) (fun g h hr => ?_) (fun N g h hr => ?_) N0 ⟨x0, x1, x9, x10, x12, hg, hS⟩
  · obtain ⟨x0, x1, x9, x10, x12, hg, hS⟩ := hr
    exact hS.elim
  · obtain ⟨x0, x1, x9, x10, x12, hg, hS⟩ := hr
    refine (n15_ok x0 x1 x9 x10 x12 (fun z0 z1 z9 z10 z12 h => n14_L Kn Ke2 Kr N z0 z1 z9 z10 z12 h) Ke2 Kr g hg h hS).mono ?_
    intro e g' h' hq
    cases e with
    | normal => exact D7_ok (K := (fun z0 z1 z9 z10 z12 h => n14_L Kn Ke2 Kr N z0 z1 z9 z10 z12 h)) hq
    | _ => exact hq
abbrev n13 (x0 : List UInt8) (x1 : Int) (x9 : Bool) (x10 : Int) (x12 : Int) (Kn : T7) (Kr : T0) (h : H) : Prop := n14 x0 x1 x9 x10 x12 Kn Kn Kr h
theorem n13_ok (x0 : List UInt8) (x1 : Int) (x9 : Bool) (x10 : Int) (x12 : Int) (Kn : T7) (Kr : T0) (g : Env) (hg : E7 g x0 x1 x9 x10 x12) (h : H) (hS : n13 x0 x1 x9 x10 x12 Kn Kr h) : wpC none Tryd.prog 108 n11_c1 (Q1 Kn Kr) g h := by
  refine wpC_block' (id := 2) (x := n13_c1) (by kernel_rfl) (n14_ok x0 x1 x9 x10 x12 Kn Kn Kr g hg h hS) ?_
  intro e g' h' hq
  cases e <;> exact hq
abbrev n11 (x0 : List UInt8) (x1 : Int) (x9 : Bool) (x10 : Int) (x12 : Int) (Kn : T0) (Kr : T0) (h : H) : Prop := n13 x0 x1 x9 x10 x12 (fun z0 z1 z9 z10 z12 h => n12 z0 z1 z9 z10 z12 Kn Kr h) Kr h
theorem n11_ok (x0 : List UInt8) (x1 : Int) (x9 : Bool) (x10 : Int) (x12 : Int) (Kn : T0) (Kr : T0) (g : Env) (hg : E7 g x0 x1 x9 x10 x12) (h : H) (hS : n11 x0 x1 x9 x10 x12 Kn Kr h) : wpC none Tryd.prog 108 n10_c2 (Q0 Kn Kr) g h := by
  refine wpC_seq' (x := n11_c1) (y := n11_c2) (by kernel_rfl) (n13_ok x0 x1 x9 x10 x12 (fun z0 z1 z9 z10 z12 h => n12 z0 z1 z9 z10 z12 Kn Kr h) Kr g hg h hS) ?_
  intro e g' h' hq
  cases e with
  | normal =>
    have hq : D7 (fun z0 z1 z9 z10 z12 h => n12 z0 z1 z9 z10 z12 Kn Kr h) g' h' := hq
    obtain ⟨y0, y1, y9, y10, y12, hg', hq⟩ := D7_ok hq
    exact n12_ok y0 y1 y9 y10 y12 Kn Kr g' hg' h' hq
  | _ => exact hq
abbrev n10 (x0 : List UInt8) (x1 : Int) (x9 : Bool) (x10 : Int) (Kn : T0) (Kr : T0) (h : H) : Prop :=
  n11 x0 x1 x9 x10 x10 Kn Kr h
theorem n10_ok (x0 : List UInt8) (x1 : Int) (x9 : Bool) (x10 : Int) (Kn : T0) (Kr : T0) (g : Env) (hg : E6 g x0 x1 x9 x10) (h : H) (hS : n10 x0 x1 x9 x10 Kn Kr h) : wpC none Tryd.prog 108 n9_c2 (Q0 Kn Kr) g h := by
  obtain ⟨hg0, hg1, hg9, hg10, hds⟩ := hg
  refine wpC_seq' (x := n10_c1) (y := n10_c2) (Q' := (Q1 (fun z0 z1 z9 z10 z12 h => n11 z0 z1 z9 z10 z12 Kn Kr h) Kr)) (by kernel_rfl) ?_ ?_
  · refine wpC_of_wpx (by kernel_rfl) (by kernel_rfl) (g' := ((((⟨g.v, []⟩ : Env).upd (some 0) (S x0)).upd (some 1) (.int .i64 x1)).upd (some 9) (.bool x9)).upd (some 10) (.int .i64 x10)) (by rw [env_ds hds, upd_self hg0, upd_self hg1, upd_self hg9, upd_self hg10]) ?_
    have e : (n10 x0 x1 x9 x10 Kn Kr h) = wpx none Tryd.prog 108 n10_c1 (Q1 (fun z0 z1 z9 z10 z12 h => n11 z0 z1 z9 z10 z12 Kn Kr h) Kr) (((((⟨g.v, []⟩ : Env).upd (some 0) (S x0)).upd (some 1) (.int .i64 x1)).upd (some 9) (.bool x9)).upd (some 10) (.int .i64 x10)) h := by kernel_rfl
    exact e ▸ hS
  · intro e g' h' hq
    cases e with
    | normal =>
      have hq : D7 (fun z0 z1 z9 z10 z12 h => n11 z0 z1 z9 z10 z12 Kn Kr h) g' h' := hq
      obtain ⟨y0, y1, y9, y10, y12, hg', hq⟩ := D7_ok hq
      exact n11_ok y0 y1 y9 y10 y12 Kn Kr g' hg' h' hq
    | _ => exact hq
def Q5 (Kn : T6) (Kr : T0) : XPost
  | .normal, g, h => D6 Kn g h
  | .ret, g, h => D0 Kr g h
  | _, _, _ => False
abbrev n9 (x0 : List UInt8) (x1 : Int) (x9 : Bool) (x10 : Int) (Kn : T0) (Kr : T0) (h : H) : Prop :=
  Spl (x10 = (0 : Int)) (Kr ([] : List UInt8) (0 : Int) h) (n10 x0 x1 x9 x10 Kn Kr h)
theorem n9_ok (x0 : List UInt8) (x1 : Int) (x9 : Bool) (x10 : Int) (Kn : T0) (Kr : T0) (g : Env) (hg : E6 g x0 x1 x9 x10) (h : H) (hS : n9 x0 x1 x9 x10 Kn Kr h) : wpC none Tryd.prog 108 n8_c2 (Q0 Kn Kr) g h := by
  obtain ⟨hg0, hg1, hg9, hg10, hds⟩ := hg
  refine wpC_seq' (x := n9_c1) (y := n9_c2) (Q' := (Q5 (fun z0 z1 z9 z10 h => n10 z0 z1 z9 z10 Kn Kr h) Kr)) (by kernel_rfl) ?_ ?_
  · refine wpC_of_wpx (by kernel_rfl) (by kernel_rfl) (g' := ((((⟨g.v, []⟩ : Env).upd (some 0) (S x0)).upd (some 1) (.int .i64 x1)).upd (some 9) (.bool x9)).upd (some 10) (.int .i64 x10)) (by rw [env_ds hds, upd_self hg0, upd_self hg1, upd_self hg9, upd_self hg10]) ?_
    have e : (n9 x0 x1 x9 x10 Kn Kr h) = wpx none Tryd.prog 108 n9_c1 (Q5 (fun z0 z1 z9 z10 h => n10 z0 z1 z9 z10 Kn Kr h) Kr) (((((⟨g.v, []⟩ : Env).upd (some 0) (S x0)).upd (some 1) (.int .i64 x1)).upd (some 9) (.bool x9)).upd (some 10) (.int .i64 x10)) h := by kernel_rfl
    exact e ▸ hS
  · intro e g' h' hq
    cases e with
    | normal =>
      have hq : D6 (fun z0 z1 z9 z10 h => n10 z0 z1 z9 z10 Kn Kr h) g' h' := hq
      obtain ⟨y0, y1, y9, y10, hg', hq⟩ := D6_ok hq
      exact n10_ok y0 y1 y9 y10 Kn Kr g' hg' h' hq
    | _ => exact hq
abbrev n8 (x0 : List UInt8) (x1 : Int) (x7 : Int) (x9 : Bool) (Kn : T0) (Kr : T0) (h : H) : Prop :=
  HCalls Tryd.prog 24 ⟨[(S x0), (.int .i64 x7)]⟩ h fun v118 h119 => vTup v118 fun l120 => uncons l120 fun e121 l122 => vInt .i64 e121 fun i123 => uncons l122 fun e124 l125 => vBool e124 fun b126 => unnil l125 (cond b126 (n9 x0 x1 x9 i123 Kn Kr h119) (n9 x0 x1 x9 i123 Kn Kr h119))
theorem n8_ok (x0 : List UInt8) (x1 : Int) (x7 : Int) (x9 : Bool) (Kn : T0) (Kr : T0) (g : Env) (hg : E5 g x0 x1 x7 x9) (h : H) (hS : n8 x0 x1 x7 x9 Kn Kr h) : wpC none Tryd.prog 108 n7_c2 (Q0 Kn Kr) g h := by
  obtain ⟨hg0, hg1, hg7, hg9, hds⟩ := hg
  refine wpC_seq' (x := n8_c1) (y := n8_c2) (Q' := (Q5 (fun z0 z1 z9 z10 h => n9 z0 z1 z9 z10 Kn Kr h) Kr)) (by kernel_rfl) ?_ ?_
  · refine wpC_of_wpx (by kernel_rfl) (by kernel_rfl) (g' := ((((⟨g.v, []⟩ : Env).upd (some 0) (S x0)).upd (some 1) (.int .i64 x1)).upd (some 7) (.int .i64 x7)).upd (some 9) (.bool x9)) (by rw [env_ds hds, upd_self hg0, upd_self hg1, upd_self hg7, upd_self hg9]) ?_
    have e : (n8 x0 x1 x7 x9 Kn Kr h) = wpx none Tryd.prog 108 n8_c1 (Q5 (fun z0 z1 z9 z10 h => n9 z0 z1 z9 z10 Kn Kr h) Kr) (((((⟨g.v, []⟩ : Env).upd (some 0) (S x0)).upd (some 1) (.int .i64 x1)).upd (some 7) (.int .i64 x7)).upd (some 9) (.bool x9)) h := by kernel_rfl
    exact e ▸ hS
  · intro e g' h' hq
    cases e with
    | normal =>
      have hq : D6 (fun z0 z1 z9 z10 h => n9 z0 z1 z9 z10 Kn Kr h) g' h' := hq
      obtain ⟨y0, y1, y9, y10, hg', hq⟩ := D6_ok hq
      exact n9_ok y0 y1 y9 y10 Kn Kr g' hg' h' hq
    | _ => exact hq
def Q6 (Kn : T5) (Kr : T0) : XPost
  | .normal, g, h => D5 Kn g h
  | .ret, g, h => D0 Kr g h
  | _, _, _ => False
abbrev n7 (x0 : List UInt8) (x1 : Int) (x7 : Int) (x9 : Bool) (Kn : T0) (Kr : T0) (h : H) : Prop :=
  Spl (x7 < (0 : Int)) (Kr ([] : List UInt8) (0 : Int) h) (n8 x0 x1 x7 x9 Kn Kr h)
theorem n7_ok (x0 : List UInt8) (x1 : Int) (x7 : Int) (x9 : Bool) (Kn : T0) (Kr : T0) (g : Env) (hg : E5 g x0 x1 x7 x9) (h : H) (hS : n7 x0 x1 x7 x9 Kn Kr h) : wpC none Tryd.prog 108 n6_c2 (Q0 Kn Kr) g h := by
  obtain ⟨hg0, hg1, hg7, hg9, hds⟩ := hg
  refine wpC_seq' (x := n7_c1) (y := n7_c2) (Q' := (Q6 (fun z0 z1 z7 z9 h => n8 z0 z1 z7 z9 Kn Kr h) Kr)) (by kernel_rfl) ?_ ?_
  · refine wpC_of_wpx (by kernel_rfl) (by kernel_rfl) (g' := ((((⟨g.v, []⟩ : Env).upd (some 0) (S x0)).upd (some 1) (.int .i64 x1)).upd (some 7) (.int .i64 x7)).upd (some 9) (.bool x9)) (by rw [env_ds hds, upd_self hg0, upd_self hg1, upd_self hg7, upd_self hg9]) ?_
    have e : (n7 x0 x1 x7 x9 Kn Kr h) = wpx none Tryd.prog 108 n7_c1 (Q6 (fun z0 z1 z7 z9 h => n8 z0 z1 z7 z9 Kn Kr h) Kr) (((((⟨g.v, []⟩ : Env).upd (some 0) (S x0)).upd (some 1) (.int .i64 x1)).upd (some 7) (.int .i64 x7)).upd (some 9) (.bool x9)) h := by kernel_rfl
    exact e ▸ hS
  · intro e g' h' hq
    cases e with
    | normal =>
      have hq : D5 (fun z0 z1 z7 z9 h => n8 z0 z1 z7 z9 Kn Kr h) g' h' := hq
      obtain ⟨y0, y1, y7, y9, hg', hq⟩ := D5_ok hq
      exact n8_ok y0 y1 y7 y9 Kn Kr g' hg' h' hq
    | _ => exact hq
abbrev n6 (x0 : List UInt8) (x1 : Int) (x7 : Int) (x9 : Bool) (Kn : T0) (Kr : T0) (h : H) : Prop :=
  cond x9 (n7 x0 x1 x1 x9 Kn Kr h) (n7 x0 x1 x7 x9 Kn Kr h)
theorem n6_ok (x0 : List UInt8) (x1 : Int) (x7 : Int) (x9 : Bool) (Kn : T0) (Kr : T0) (g : Env) (hg : E5 g x0 x1 x7 x9) (h : H) (hS : n6 x0 x1 x7 x9 Kn Kr h) : wpC none Tryd.prog 108 n5_c2 (Q0 Kn Kr) g h := by
  obtain ⟨hg0, hg1, hg7, hg9, hds⟩ := hg
  refine wpC_seq' (x := n6_c1) (y := n6_c2) (Q' := (Q6 (fun z0 z1 z7 z9 h => n7 z0 z1 z7 z9 Kn Kr h) Kr)) (by kernel_rfl) ?_ ?_
  · refine wpC_of_wpx (by kernel_rfl) (by kernel_rfl) (g' := ((((⟨g.v, []⟩ : Env).upd (some 0) (S x0)).upd (some 1) (.int .i64 x1)).upd (some 7) (.int .i64 x7)).upd (some 9) (.bool x9)) (by rw [env_ds hds, upd_self hg0, upd_self hg1, upd_self hg7, upd_self hg9]) ?_
    have e : (n6 x0 x1 x7 x9 Kn Kr h) = wpx none Tryd.prog 108 n6_c1 (Q6 (fun z0 z1 z7 z9 h => n7 z0 z1 z7 z9 Kn Kr h) Kr) (((((⟨g.v, []⟩ : Env).upd (some 0) (S x0)).upd (some 1) (.int .i64 x1)).upd (some 7) (.int .i64 x7)).upd (some 9) (.bool x9)) h := by kernel_rfl
    exact e ▸ hS
  · intro e g' h' hq
    cases e with
    | normal =>
      have hq : D5 (fun z0 z1 z7 z9 h => n7 z0 z1 z7 z9 Kn Kr h) g' h' := hq
      obtain ⟨y0, y1, y7, y9, hg', hq⟩ := D5_ok hq
      exact n7_ok y0 y1 y7 y9 Kn Kr g' hg' h' hq
    | _ => exact hq
abbrev n5 (x0 : List UInt8) (x1 : Int) (x7 : Int) (Kn : T0) (Kr : T0) (h : H) : Prop :=
  HCalls Tryd.prog 23 ⟨[(S x0), (.int .i64 x1), (S ([119, 119, 119, 46] : List UInt8))]⟩ h fun v127 h128 => vBool v127 fun b129 => cond b129 (n6 x0 x1 x7 true Kn Kr h128) (n6 x0 x1 x7 false Kn Kr h128)
theorem n5_ok (x0 : List UInt8) (x1 : Int) (x7 : Int) (Kn : T0) (Kr : T0) (g : Env) (hg : E4 g x0 x1 x7) (h : H) (hS : n5 x0 x1 x7 Kn Kr h) : wpC none Tryd.prog 108 n4_c2 (Q0 Kn Kr) g h := by
  obtain ⟨hg0, hg1, hg7, hds⟩ := hg
  refine wpC_seq' (x := n5_c1) (y := n5_c2) (Q' := (Q6 (fun z0 z1 z7 z9 h => n6 z0 z1 z7 z9 Kn Kr h) Kr)) (by kernel_rfl) ?_ ?_
  · refine wpC_of_wpx (by kernel_rfl) (by kernel_rfl) (g' := (((⟨g.v, []⟩ : Env).upd (some 0) (S x0)).upd (some 1) (.int .i64 x1)).upd (some 7) (.int .i64 x7)) (by rw [env_ds hds, upd_self hg0, upd_self hg1, upd_self hg7]) ?_
    have e : (n5 x0 x1 x7 Kn Kr h) = wpx none Tryd.prog 108 n5_c1 (Q6 (fun z0 z1 z7 z9 h => n6 z0 z1 z7 z9 Kn Kr h) Kr) ((((⟨g.v, []⟩ : Env).upd (some 0) (S x0)).upd (some 1) (.int .i64 x1)).upd (some 7) (.int .i64 x7)) h := by kernel_rfl
    exact e ▸ hS
  · intro e g' h' hq
    cases e with
    | normal =>
      have hq : D5 (fun z0 z1 z7 z9 h => n6 z0 z1 z7 z9 Kn Kr h) g' h' := hq
      obtain ⟨y0, y1, y7, y9, hg', hq⟩ := D5_ok hq
      exact n6_ok y0 y1 y7 y9 Kn Kr g' hg' h' hq
    | _ => exact hq
def Q7 (Kn : T4) (Kr : T0) : XPost
  | .normal, g, h => D4 Kn g h
  | .ret, g, h => D0 Kr g h
  | _, _, _ => False
noncomputable def n20_c1 : Code := cFst n4_c1
noncomputable def n20_c2 : Code := cSnd n4_c1
abbrev T8 := (List UInt8) → Int → (Option Addr) → Nat → Nat → Int → Int → H → Prop
def E8 (g : Env) (x0 : List UInt8) (x1 : Int) (x6b : Option Addr) (x6n : Nat) (x6c : Nat) (x7 : Int) (x8 : Int) : Prop := g.v 0 = (S x0) ∧ g.v 1 = (.int .i64 x1) ∧ g.v 6 = (.slice x6b x6n x6c) ∧ g.v 7 = (.int .i64 x7) ∧ g.v 8 = (.int .i64 x8) ∧ g.ds = []
def D8 (K : T8) (g : Env) (h : H) : Prop := nilDs g.ds (vStr (g.v 0) fun s130 => vInt .i64 (g.v 1) fun i131 => vSlice (g.v 6) fun s132b s132n s132c => vInt .i64 (g.v 7) fun i133 => vInt .i64 (g.v 8) fun i134 => K s130 i131 s132b s132n s132c i133 i134 h)
theorem D8_ok {K : T8} {g : Env} {h : H} (hq : D8 K g h) : ∃ (x0 : List UInt8) (x1 : Int) (x6b : Option Addr) (x6n : Nat) (x6c : Nat) (x7 : Int) (x8 : Int), E8 g x0 x1 x6b x6n x6c x7 x8 ∧ K x0 x1 x6b x6n x6c x7 x8 h := by
  obtain ⟨hd, hq⟩ := nilDs_ok hq
  obtain ⟨y136, e135, q137⟩ := vStr_ok hq
  obtain ⟨y139, e138, q140⟩ := vInt_ok q137
  obtain ⟨y142b, y142n, y142c, e141, q143⟩ := vSlice_ok q140
  obtain ⟨y145, e144, q146⟩ := vInt_ok q143
  obtain ⟨y148, e147, q149⟩ := vInt_ok q146
  exact ⟨y136, y139, y142b, y142n, y142c, y145, y148, ⟨e135, e138, e141, e144, e147, hd⟩, q149⟩
noncomputable def n21_c1 : Code := cFst n20_c2
def Q8 (Kn : T4) (Ke0 : T4) (Kr : T0) : XPost
  | .normal, g, h => D4 Kn g h
  | .ret, g, h => D0 Kr g h
  | .exit id, g, h => cond (Nat.beq id 0) (D4 Ke0 g h) (False)
  | _, _, _ => False
noncomputable def n22_c1 : Code := cFst n21_c1
def Q9 (Kn : T8) (Ke0 : T4) (Kr : T0) : XPost
  | .normal, g, h => D8 Kn g h
  | .ret, g, h => D0 Kr g h
  | .exit id, g, h => cond (Nat.beq id 0) (D4 Ke0 g h) (False)
  | _, _, _ => False
def n22_L (Kn : T4) (Ke0 : T4) (Kr : T0) : Nat → (List UInt8) → Int → (Option Addr) → Nat → Nat → Int → Int → H → Prop
  | 0 => fun _ _ _ _ _ _ _ _ => False
  | N + 1 => fun x0 x1 x6b x6n x6c x7 x8 h => Spl (x8 < (x6n : Int)) ((0 ≤ x8 ∧ x8 < (x6n : Int)) ∧ (vSome x6b fun a150 => ∃ s151, cell h (a150.add (Int.toNat x8 * 1)) = some (S s151) ∧ (HCalls Tryd.prog 23 ⟨[(S x0), (.int .i64 x1), (S s151)]⟩ h fun v152 h153 => vBool v152 fun b154 => cond b154 ((0 ≤ x8 ∧ x8 < (x6n : Int)) ∧ (vSome x6b fun a155 => ∃ s156, cell h153 (a155.add (Int.toNat x8 * 1)) = some (S s156) ∧ (Rng .i64 (x1 + (s156.length : Int)) ∧ (Rng .i64 (x8 + (1 : Int)) ∧ (n22_L Kn Ke0 Kr N x0 x1 x6b x6n x6c (x1 + (s156.length : Int)) (x8 + (1 : Int)) h153))))) (Rng .i64 (x8 + (1 : Int)) ∧ (n22_L Kn Ke0 Kr N x0 x1 x6b x6n x6c x7 (x8 + (1 : Int)) h153))))) (Ke0 x0 x1 x7 h)
abbrev n22 (x0 : List UInt8) (x1 : Int) (x6b : Option Addr) (x6n : Nat) (x6c : Nat) (x7 : Int) (x8 : Int) (Kn : T4) (Ke0 : T4) (Kr : T0) (h : H) : Prop := ∃ N, n22_L Kn Ke0 Kr N x0 x1 x6b x6n x6c x7 x8 h
theorem n22_ok (x0 : List UInt8) (x1 : Int) (x6b : Option Addr) (x6n : Nat) (x6c : Nat) (x7 : Int) (x8 : Int) (Kn : T4) (Ke0 : T4) (Kr : T0) (g : Env) (hg : E8 g x0 x1 x6b x6n x6c x7 x8) (h : H) (hS : n22 x0 x1 x6b x6n x6c x7 x8 Kn Ke0 Kr h) : wpC none Tryd.prog 108 n21_c1 (Q8 Kn Ke0 Kr) g h := by
  obtain ⟨N0, hS⟩ := hS
  refine wpC_loop' (x := n22_c1) (by kernel_rfl) (fun k g h => ∃ (x0 : List UInt8) (x1 : Int) (x6b : Option Addr) (x6n : Nat) (x6c : Nat) (x7 : Int) (x8 : Int), E8 g x0 x1 x6b x6n x6c x7 x8 ∧ n22_L Kn Ke0 Kr k x0 x1 x6b x6n x6c x7 x8 h) (fun g h hr => ?_) (fun N g h hr => ?_) N0 ⟨x0, x1, x6b, x6n, x6c, x7, x8, hg, hS⟩
  · obtain ⟨x0, x1, x6b, x6n, x6c, x7, x8, hg, hS⟩ := hr
    exact hS.elim
  · obtain ⟨x0, x1, x6b, x6n, x6c, x7, x8, hg, hS⟩ := hr
    have hw : wpC none Tryd.prog 108 n22_c1 (Q9 (fun z0 z1 z6b z6n z6c z7 z8 h => n22_L Kn Ke0 Kr N z0 z1 z6b z6n z6c z7 z8 h) Ke0 Kr) g h := by
      obtain ⟨hg0, hg1, hg6, hg7, hg8, hds⟩ := hg
      refine wpC_of_wpx (by kernel_rfl) (by kernel_rfl) (g' := (((((⟨g.v, []⟩ : Env).upd (some 0) (S x0)).upd (some 1) (.int .i64 x1)).upd (some 6) (.slice x6b x6n x6c)).upd (some 7) (.int .i64 x7)).upd (some 8) (.int .i64 x8)) (by rw [env_ds hds, upd_self hg0, upd_self hg1, upd_self hg6, upd_self hg7, upd_self hg8]) ?_
      have e : (n22_L Kn Ke0 Kr (N + 1) x0 x1 x6b x6n x6c x7 x8 h) = wpx none Tryd.prog 108 n22_c1 (Q9 (fun z0 z1 z6b z6n z6c z7 z8 h => n22_L Kn Ke0 Kr N z0 z1 z6b z6n z6c z7 z8 h) Ke0 Kr) ((((((⟨g.v, []⟩ : Env).upd (some 0) (S x0)).upd (some 1) (.int .i64 x1)).upd (some 6) (.slice x6b x6n x6c)).upd (some 7) (.int .i64 x7)).upd (some 8) (.int .i64 x8)) h := by kernel_rfl
      exact e ▸ hS
    refine hw.mono ?_
    intro e g' h' hq
    cases e with
    | normal => exact D8_ok (K := (fun z0 z1 z6b z6n z6c z7 z8 h => n22_L Kn Ke0 Kr N z0 z1 z6b z6n z6c z7 z8 h)) hq
    | _ => exact hq
abbrev n21 (x0 : List UInt8) (x1 : Int) (x6b : Option Addr) (x6n : Nat) (x6c : Nat) (x7 : Int) (x8 : Int) (Kn : T4) (Kr : T0) (h : H) : Prop := n22 x0 x1 x6b x6n x6c x7 x8 Kn Kn Kr h
theorem n21_ok (x0 : List UInt8) (x1 : Int) (x6b : Option Addr) (x6n : Nat) (x6c : Nat) (x7 : Int) (x8 : Int) (Kn : T4) (Kr : T0) (g : Env) (hg : E8 g x0 x1 x6b x6n x6c x7 x8) (h : H) (hS : n21 x0 x1 x6b x6n x6c x7 x8 Kn Kr h) : wpC none Tryd.prog 108 n20_c2 (Q7 Kn Kr) g h := by
  refine wpC_block' (id := 0) (x := n21_c1) (by kernel_rfl) (n22_ok x0 x1 x6b x6n x6c x7 x8 Kn Kn Kr g hg h hS) ?_
  intro e g' h' hq
  cases e <;> exact hq
def Q10 (Kn : T8) (Kr : T0) : XPost
  | .normal, g, h => D8 Kn g h
  | .ret, g, h => D0 Kr g h
  | _, _, _ => False
abbrev n20 (x0 : List UInt8) (x1 : Int) (x6b : Option Addr) (x6n : Nat) (x6c : Nat) (x7 : Int) (Kn : T4) (Kr : T0) (h : H) : Prop :=
  n21 x0 x1 x6b x6n x6c x7 (0 : Int) Kn Kr h
theorem n20_ok (x0 : List UInt8) (x1 : Int) (x6b : Option Addr) (x6n : Nat) (x6c : Nat) (x7 : Int) (Kn : T4) (Kr : T0) (g : Env) (hg : E3 g x0 x1 x6b x6n x6c x7) (h : H) (hS : n20 x0 x1 x6b x6n x6c x7 Kn Kr h) : wpC none Tryd.prog 108 n4_c1 (Q7 Kn Kr) g h := by
  obtain ⟨hg0, hg1, hg6, hg7, hds⟩ := hg
  refine wpC_seq' (x := n20_c1) (y := n20_c2) (Q' := (Q10 (fun z0 z1 z6b z6n z6c z7 z8 h => n21 z0 z1 z6b z6n z6c z7 z8 Kn Kr h) Kr)) (by kernel_rfl) ?_ ?_
  · refine wpC_of_wpx (by kernel_rfl) (by kernel_rfl) (g' := ((((⟨g.v, []⟩ : Env).upd (some 0) (S x0)).upd (some 1) (.int .i64 x1)).upd (some 6) (.slice x6b x6n x6c)).upd (some 7) (.int .i64 x7)) (by rw [env_ds hds, upd_self hg0, upd_self hg1, upd_self hg6, upd_self hg7]) ?_
    have e : (n20 x0 x1 x6b x6n x6c x7 Kn Kr h) = wpx none Tryd.prog 108 n20_c1 (Q10 (fun z0 z1 z6b z6n z6c z7 z8 h => n21 z0 z1 z6b z6n z6c z7 z8 Kn Kr h) Kr) (((((⟨g.v, []⟩ : Env).upd (some 0) (S x0)).upd (some 1) (.int .i64 x1)).upd (some 6) (.slice x6b x6n x6c)).upd (some 7) (.int .i64 x7)) h := by kernel_rfl
    exact e ▸ hS
  · intro e g' h' hq
    cases e with
    | normal =>
      have hq : D8 (fun z0 z1 z6b z6n z6c z7 z8 h => n21 z0 z1 z6b z6n z6c z7 z8 Kn Kr h) g' h' := hq
      obtain ⟨y0, y1, y6b, y6n, y6c, y7, y8, hg', hq⟩ := D8_ok hq
      exact n21_ok y0 y1 y6b y6n y6c y7 y8 Kn Kr g' hg' h' hq
    | _ => exact hq
abbrev n4 (x0 : List UInt8) (x1 : Int) (x6b : Option Addr) (x6n : Nat) (x6c : Nat) (x7 : Int) (Kn : T0) (Kr : T0) (h : H) : Prop := n20 x0 x1 x6b x6n x6c x7 (fun z0 z1 z7 h => n5 z0 z1 z7 Kn Kr h) Kr h
theorem n4_ok (x0 : List UInt8) (x1 : Int) (x6b : Option Addr) (x6n : Nat) (x6c : Nat) (x7 : Int) (Kn : T0) (Kr : T0) (g : Env) (hg : E3 g x0 x1 x6b x6n x6c x7) (h : H) (hS : n4 x0 x1 x6b x6n x6c x7 Kn Kr h) : wpC none Tryd.prog 108 n3_c2 (Q0 Kn Kr) g h := by
  refine wpC_seq' (x := n4_c1) (y := n4_c2) (by kernel_rfl) (n20_ok x0 x1 x6b x6n x6c x7 (fun z0 z1 z7 h => n5 z0 z1 z7 Kn Kr h) Kr g hg h hS) ?_
  intro e g' h' hq
  cases e with
  | normal =>
    have hq : D4 (fun z0 z1 z7 h => n5 z0 z1 z7 Kn Kr h) g' h' := hq
    obtain ⟨y0, y1, y7, hg', hq⟩ := D4_ok hq
    exact n5_ok y0 y1 y7 Kn Kr g' hg' h' hq
  | _ => exact hq
def Q11 (Kn : T3) (Kr : T0) : XPost
  | .normal, g, h => D3 Kn g h
  | .ret, g, h => D0 Kr g h
  | _, _, _ => False
abbrev n3 (x0 : List UInt8) (x1 : Int) (x6b : Option Addr) (x6n : Nat) (x6c : Nat) (Kn : T0) (Kr : T0) (h : H) : Prop :=
  n4 x0 x1 x6b x6n x6c (-1 : Int) Kn Kr h
theorem n3_ok (x0 : List UInt8) (x1 : Int) (x6b : Option Addr) (x6n : Nat) (x6c : Nat) (Kn : T0) (Kr : T0) (g : Env) (hg : E2 g x0 x1 x6b x6n x6c) (h : H) (hS : n3 x0 x1 x6b x6n x6c Kn Kr h) : wpC none Tryd.prog 108 n2_c2 (Q0 Kn Kr) g h := by
  obtain ⟨hg0, hg1, hg6, hds⟩ := hg
  refine wpC_seq' (x := n3_c1) (y := n3_c2) (Q' := (Q11 (fun z0 z1 z6b z6n z6c z7 h => n4 z0 z1 z6b z6n z6c z7 Kn Kr h) Kr)) (by kernel_rfl) ?_ ?_
  · refine wpC_of_wpx (by kernel_rfl) (by kernel_rfl) (g' := (((⟨g.v, []⟩ : Env).upd (some 0) (S x0)).upd (some 1) (.int .i64 x1)).upd (some 6) (.slice x6b x6n x6c)) (by rw [env_ds hds, upd_self hg0, upd_self hg1, upd_self hg6]) ?_
    have e : (n3 x0 x1 x6b x6n x6c Kn Kr h) = wpx none Tryd.prog 108 n3_c1 (Q11 (fun z0 z1 z6b z6n z6c z7 h => n4 z0 z1 z6b z6n z6c z7 Kn Kr h) Kr) ((((⟨g.v, []⟩ : Env).upd (some 0) (S x0)).upd (some 1) (.int .i64 x1)).upd (some 6) (.slice x6b x6n x6c)) h := by kernel_rfl
    exact e ▸ hS
  · intro e g' h' hq
    cases e with
    | normal =>
      have hq : D3 (fun z0 z1 z6b z6n z6c z7 h => n4 z0 z1 z6b z6n z6c z7 Kn Kr h) g' h' := hq
      obtain ⟨y0, y1, y6b, y6n, y6c, y7, hg', hq⟩ := D3_ok hq
      exact n4_ok y0 y1 y6b y6n y6c y7 Kn Kr g' hg' h' hq
    | _ => exact hq
def Q12 (Kn : T2) (Kr : T0) : XPost
  | .normal, g, h => D2 Kn g h
  | .ret, g, h => D0 Kr g h
  | _, _, _ => False
abbrev n2 (x0 : List UInt8) (x1 : Int) (Kn : T0) (Kr : T0) (h : H) : Prop :=
  newx h #[(S ([104, 116, 116, 112, 58, 47, 47] : List UInt8)), (S ([104, 116, 116, 112, 115, 58, 47, 47] : List UInt8)), (S ([102, 116, 112, 58, 47, 47] : List UInt8))] 9 fun a157 h158 => n3 x0 x1 (some a157) 3 3 Kn Kr h158
theorem n2_ok (x0 : List UInt8) (x1 : Int) (Kn : T0) (Kr : T0) (g : Env) (hg : E1 g x0 x1) (h : H) (hS : n2 x0 x1 Kn Kr h) : wpC none Tryd.prog 108 n1_c2 (Q0 Kn Kr) g h := by
  obtain ⟨hg0, hg1, hds⟩ := hg
  refine wpC_seq' (x := n2_c1) (y := n2_c2) (Q' := (Q12 (fun z0 z1 z6b z6n z6c h => n3 z0 z1 z6b z6n z6c Kn Kr h) Kr)) (by kernel_rfl) ?_ ?_
  · refine wpC_of_wpx (by kernel_rfl) (by kernel_rfl) (g' := ((⟨g.v, []⟩ : Env).upd (some 0) (S x0)).upd (some 1) (.int .i64 x1)) (by rw [env_ds hds, upd_self hg0, upd_self hg1]) ?_
    have e : (n2 x0 x1 Kn Kr h) = wpx none Tryd.prog 108 n2_c1 (Q12 (fun z0 z1 z6b z6n z6c h => n3 z0 z1 z6b z6n z6c Kn Kr h) Kr) (((⟨g.v, []⟩ : Env).upd (some 0) (S x0)).upd (some 1) (.int .i64 x1)) h := by kernel_rfl
    exact e ▸ hS
  · intro e g' h' hq
    cases e with
    | normal =>
      have hq : D2 (fun z0 z1 z6b z6n z6c h => n3 z0 z1 z6b z6n z6c Kn Kr h) g' h' := hq
      obtain ⟨y0, y1, y6b, y6n, y6c, hg', hq⟩ := D2_ok hq
      exact n3_ok y0 y1 y6b y6n y6c Kn Kr g' hg' h' hq
    | _ => exact hq
def Q13 (Kn : T1) (Kr : T0) : XPost
  | .normal, g, h => D1 Kn g h
  | .ret, g, h => D0 Kr g h
  | _, _, _ => False
abbrev n1 (x0 : List UInt8) (x1 : Int) (Kn : T0) (Kr : T0) (h : H) : Prop :=
  n2 x0 x1 Kn Kr h
theorem n1_ok (x0 : List UInt8) (x1 : Int) (Kn : T0) (Kr : T0) (g : Env) (hg : E1 g x0 x1) (h : H) (hS : n1 x0 x1 Kn Kr h) : wpC none Tryd.prog 108 code (Q0 Kn Kr) g h := by
  obtain ⟨hg0, hg1, hds⟩ := hg
  refine wpC_seq' (x := n1_c1) (y := n1_c2) (Q' := (Q13 (fun z0 z1 h => n2 z0 z1 Kn Kr h) Kr)) (by kernel_rfl) ?_ ?_
  · refine wpC_of_wpx (by kernel_rfl) (by kernel_rfl) (g' := ((⟨g.v, []⟩ : Env).upd (some 0) (S x0)).upd (some 1) (.int .i64 x1)) (by rw [env_ds hds, upd_self hg0, upd_self hg1]) ?_
    have e : (n1 x0 x1 Kn Kr h) = wpx none Tryd.prog 108 n1_c1 (Q13 (fun z0 z1 h => n2 z0 z1 Kn Kr h) Kr) (((⟨g.v, []⟩ : Env).upd (some 0) (S x0)).upd (some 1) (.int .i64 x1)) h := by kernel_rfl
    exact e ▸ hS
  · intro e g' h' hq
    cases e with
    | normal =>
      have hq : D1 (fun z0 z1 h => n2 z0 z1 Kn Kr h) g' h' := hq
      obtain ⟨y0, y1, hg', hq⟩ := D1_ok hq
      exact n2_ok y0 y1 Kn Kr g' hg' h' hq
    | _ => exact hq
/-- WHAT tympan/tympanref28.page ASKS -/
abbrev asks (x0 : List UInt8) (x1 : Int) (K : Value → H → Prop) (h : H) : Prop := n1 x0 x1 (fun y4 y5 h => K (.tuple ⟨[(S y4), (.int .i64 y5)]⟩) h) (fun y4 y5 h => K (.tuple ⟨[(S y4), (.int .i64 y5)]⟩) h) h
theorem ok (x0 : List UInt8) (x1 : Int) (K : Value → H → Prop) (h : H) (hS : asks x0 x1 K h) : HCalls Tryd.prog 13 ⟨[(S x0), (.int .i64 x1)]⟩ h K := by
  refine calls_of_wpC (c := code) Tryd.func13 (by kernel_rfl) (Nat.le_of_ble_eq_true (by kernel_rfl)) ?_
  refine (n1_ok x0 x1 (fun y4 y5 h => K (.tuple ⟨[(S y4), (.int .i64 y5)]⟩) h) (fun y4 y5 h => K (.tuple ⟨[(S y4), (.int .i64 y5)]⟩) h) (env0 [(S x0), (.int .i64 x1)]) ⟨rfl, rfl, rfl⟩ h hS).mono ?_
  intro e g' h' hq
  cases e with
  | normal =>
    have hq : D0 (fun y4 y5 h => K (.tuple ⟨[(S y4), (.int .i64 y5)]⟩) h) g' h' := hq
    obtain ⟨y4, y5, ⟨hg4, hg5, hd⟩, hq⟩ := D0_ok hq
    show leaveX g'.ds h' _
    rw [hd]
    show K (.tuple ⟨[(g'.v 4), (g'.v 5)]⟩) h'
    rw [hg4, hg5]
    exact hq
  | ret =>
    have hq : D0 (fun y4 y5 h => K (.tuple ⟨[(S y4), (.int .i64 y5)]⟩) h) g' h' := hq
    obtain ⟨y4, y5, ⟨hg4, hg5, hd⟩, hq⟩ := D0_ok hq
    show leaveX g'.ds h' _
    rw [hd]
    show K (.tuple ⟨[(g'.v 4), (g'.v 5)]⟩) h'
    rw [hg4, hg5]
    exact hq
  | _ => exact hq
end Sx.r28_page

/-! ### tympan/tympanref28.mail -/
namespace Sx.r28_mail
noncomputable def code : Code := bodyOf Tryd.f14
abbrev T0 := (List UInt8) → Int → H → Prop
def E0 (g : Env) (x4 : List UInt8) (x5 : Int) : Prop := g.v 4 = (S x4) ∧ g.v 5 = (.int .i64 x5) ∧ g.ds = []
def D0 (K : T0) (g : Env) (h : H) : Prop := nilDs g.ds (vStr (g.v 4) fun s1 => vInt .i64 (g.v 5) fun i2 => K s1 i2 h)
theorem D0_ok {K : T0} {g : Env} {h : H} (hq : D0 K g h) : ∃ (x4 : List UInt8) (x5 : Int), E0 g x4 x5 ∧ K x4 x5 h := by
  obtain ⟨hd, hq⟩ := nilDs_ok hq
  obtain ⟨y4, e3, q5⟩ := vStr_ok hq
  obtain ⟨y7, e6, q8⟩ := vInt_ok q5
  exact ⟨y4, y7, ⟨e3, e6, hd⟩, q8⟩
def Q0 (Kn : T0) (Kr : T0) : XPost
  | .normal, g, h => D0 Kn g h
  | .ret, g, h => D0 Kr g h
  | _, _, _ => False
abbrev T1 := (List UInt8) → Int → H → Prop
def E1 (g : Env) (x0 : List UInt8) (x1 : Int) : Prop := g.v 0 = (S x0) ∧ g.v 1 = (.int .i64 x1) ∧ g.ds = []
def D1 (K : T1) (g : Env) (h : H) : Prop := nilDs g.ds (vStr (g.v 0) fun s9 => vInt .i64 (g.v 1) fun i10 => K s9 i10 h)
theorem D1_ok {K : T1} {g : Env} {h : H} (hq : D1 K g h) : ∃ (x0 : List UInt8) (x1 : Int), E1 g x0 x1 ∧ K x0 x1 h := by
  obtain ⟨hd, hq⟩ := nilDs_ok hq
  obtain ⟨y12, e11, q13⟩ := vStr_ok hq
  obtain ⟨y15, e14, q16⟩ := vInt_ok q13
  exact ⟨y12, y15, ⟨e11, e14, hd⟩, q16⟩
noncomputable def n1_c1 : Code := cFst code
noncomputable def n1_c2 : Code := cSnd code
noncomputable def n2_c1 : Code := cFst n1_c2
noncomputable def n2_c2 : Code := cSnd n1_c2
abbrev T2 := (List UInt8) → Int → Int → H → Prop
def E2 (g : Env) (x0 : List UInt8) (x1 : Int) (x6 : Int) : Prop := g.v 0 = (S x0) ∧ g.v 1 = (.int .i64 x1) ∧ g.v 6 = (.int .i64 x6) ∧ g.ds = []
def D2 (K : T2) (g : Env) (h : H) : Prop := nilDs g.ds (vStr (g.v 0) fun s17 => vInt .i64 (g.v 1) fun i18 => vInt .i64 (g.v 6) fun i19 => K s17 i18 i19 h)
theorem D2_ok {K : T2} {g : Env} {h : H} (hq : D2 K g h) : ∃ (x0 : List UInt8) (x1 : Int) (x6 : Int), E2 g x0 x1 x6 ∧ K x0 x1 x6 h := by
  obtain ⟨hd, hq⟩ := nilDs_ok hq
  obtain ⟨y21, e20, q22⟩ := vStr_ok hq
  obtain ⟨y24, e23, q25⟩ := vInt_ok q22
  obtain ⟨y27, e26, q28⟩ := vInt_ok q25
  exact ⟨y21, y24, y27, ⟨e20, e23, e26, hd⟩, q28⟩
noncomputable def n3_c1 : Code := cFst n2_c2
noncomputable def n3_c2 : Code := cSnd n2_c2
noncomputable def n4_c1 : Code := cFst n3_c2
noncomputable def n4_c2 : Code := cSnd n3_c2
noncomputable def n5_c1 : Code := cFst n4_c2
noncomputable def n5_c2 : Code := cSnd n4_c2
abbrev T3 := (List UInt8) → Int → Int → Bool → H → Prop
def E3 (g : Env) (x0 : List UInt8) (x1 : Int) (x7 : Int) (x8 : Bool) : Prop := g.v 0 = (S x0) ∧ g.v 1 = (.int .i64 x1) ∧ g.v 7 = (.int .i64 x7) ∧ g.v 8 = (.bool x8) ∧ g.ds = []
def D3 (K : T3) (g : Env) (h : H) : Prop := nilDs g.ds (vStr (g.v 0) fun s29 => vInt .i64 (g.v 1) fun i30 => vInt .i64 (g.v 7) fun i31 => vBool (g.v 8) fun b32 => K s29 i30 i31 b32 h)
theorem D3_ok {K : T3} {g : Env} {h : H} (hq : D3 K g h) : ∃ (x0 : List UInt8) (x1 : Int) (x7 : Int) (x8 : Bool), E3 g x0 x1 x7 x8 ∧ K x0 x1 x7 x8 h := by
  obtain ⟨hd, hq⟩ := nilDs_ok hq
  obtain ⟨y34, e33, q35⟩ := vStr_ok hq
  obtain ⟨y37, e36, q38⟩ := vInt_ok q35
  obtain ⟨y40, e39, q41⟩ := vInt_ok q38
  obtain ⟨y43, e42, q44⟩ := vBool_ok q41
  exact ⟨y34, y37, y40, y43, ⟨e33, e36, e39, e42, hd⟩, q44⟩
abbrev n6 (x0 : List UInt8) (x1 : Int) (x7 : Int) (x8 : Bool) (Kn : T0) (Kr : T0) (h : H) : Prop :=
  Spl (x7 = (0 : Int)) (Kr ([] : List UInt8) (0 : Int) h) (cond x8 (Kr ([] : List UInt8) (0 : Int) h) (Rng .i64 (x7 - (1 : Int)) ∧ ((0 ≤ (x7 - (1 : Int)) ∧ (x7 - (1 : Int)) < (x0.length : Int)) ∧ (Spl (((List.getD x0 (Int.toNat (x7 - (1 : Int))) 0).toNat : Int) = (45 : Int)) (Kr ([] : List UInt8) (0 : Int) h) (Spl (x7 < (x0.length : Int)) ((0 ≤ x7 ∧ x7 < (x0.length : Int)) ∧ (HCalls Tryd.prog 28 ⟨[(.int .u8 ((List.getD x0 (Int.toNat x7) 0).toNat : Int)), (S ([45, 95, 64] : List UInt8))]⟩ h fun v45 h46 => vBool v45 fun b47 => cond b47 (Kr ([] : List UInt8) (0 : Int) h46) ((0 ≤ x1 ∧ x1 ≤ x7 ∧ x7 ≤ (x0.length : Int)) ∧ (((([109, 97, 105, 108, 116, 111, 58] : List UInt8).length + (sub x0 x1 x7).length : Nat) : Int) ≤ 9223372036854775807 ∧ (Kr (([109, 97, 105, 108, 116, 111, 58] : List UInt8) ++ (sub x0 x1 x7)) x7 h46))))) ((0 ≤ x1 ∧ x1 ≤ x7 ∧ x7 ≤ (x0.length : Int)) ∧ (((([109, 97, 105, 108, 116, 111, 58] : List UInt8).length + (sub x0 x1 x7).length : Nat) : Int) ≤ 9223372036854775807 ∧ (Kr (([109, 97, 105, 108, 116, 111, 58] : List UInt8) ++ (sub x0 x1 x7)) x7 h))))))))
theorem n6_ok (x0 : List UInt8) (x1 : Int) (x7 : Int) (x8 : Bool) (Kn : T0) (Kr : T0) (g : Env) (hg : E3 g x0 x1 x7 x8) (h : H) (hS : n6 x0 x1 x7 x8 Kn Kr h) : wpC none Tryd.prog 80 n5_c2 (Q0 Kn Kr) g h := by
  obtain ⟨hg0, hg1, hg7, hg8, hds⟩ := hg
  refine wpC_of_wpx (by kernel_rfl) (by kernel_rfl) (g' := ((((⟨g.v, []⟩ : Env).upd (some 0) (S x0)).upd (some 1) (.int .i64 x1)).upd (some 7) (.int .i64 x7)).upd (some 8) (.bool x8)) (by rw [env_ds hds, upd_self hg0, upd_self hg1, upd_self hg7, upd_self hg8]) ?_
  have e : (n6 x0 x1 x7 x8 Kn Kr h) = wpx none Tryd.prog 80 n5_c2 (Q0 Kn Kr) (((((⟨g.v, []⟩ : Env).upd (some 0) (S x0)).upd (some 1) (.int .i64 x1)).upd (some 7) (.int .i64 x7)).upd (some 8) (.bool x8)) h := by kernel_rfl
  exact e ▸ hS
def Q1 (Kn : T3) (Kr : T0) : XPost
  | .normal, g, h => D3 Kn g h
  | .ret, g, h => D0 Kr g h
  | _, _, _ => False
abbrev n5 (x0 : List UInt8) (x1 : Int) (x6 : Int) (Kn : T0) (Kr : T0) (h : H) : Prop :=
  Rng .i64 (x6 + (1 : Int)) ∧ (HCalls Tryd.prog 24 ⟨[(S x0), (.int .i64 (x6 + (1 : Int)))]⟩ h fun v48 h49 => vTup v48 fun l50 => uncons l50 fun e51 l52 => vInt .i64 e51 fun i53 => uncons l52 fun e54 l55 => vBool e54 fun b56 => unnil l55 (cond b56 (n6 x0 x1 i53 true Kn Kr h49) (n6 x0 x1 i53 false Kn Kr h49)))
theorem n5_ok (x0 : List UInt8) (x1 : Int) (x6 : Int) (Kn : T0) (Kr : T0) (g : Env) (hg : E2 g x0 x1 x6) (h : H) (hS : n5 x0 x1 x6 Kn Kr h) : wpC none Tryd.prog 80 n4_c2 (Q0 Kn Kr) g h := by
  obtain ⟨hg0, hg1, hg6, hds⟩ := hg
  refine wpC_seq' (x := n5_c1) (y := n5_c2) (Q' := (Q1 (fun z0 z1 z7 z8 h => n6 z0 z1 z7 z8 Kn Kr h) Kr)) (by kernel_rfl) ?_ ?_
  · refine wpC_of_wpx (by kernel_rfl) (by kernel_rfl) (g' := (((⟨g.v, []⟩ : Env).upd (some 0) (S x0)).upd (some 1) (.int .i64 x1)).upd (some 6) (.int .i64 x6)) (by rw [env_ds hds, upd_self hg0, upd_self hg1, upd_self hg6]) ?_
    have e : (n5 x0 x1 x6 Kn Kr h) = wpx none Tryd.prog 80 n5_c1 (Q1 (fun z0 z1 z7 z8 h => n6 z0 z1 z7 z8 Kn Kr h) Kr) ((((⟨g.v, []⟩ : Env).upd (some 0) (S x0)).upd (some 1) (.int .i64 x1)).upd (some 6) (.int .i64 x6)) h := by kernel_rfl
    exact e ▸ hS
  · intro e g' h' hq
    cases e with
    | normal =>
      have hq : D3 (fun z0 z1 z7 z8 h => n6 z0 z1 z7 z8 Kn Kr h) g' h' := hq
      obtain ⟨y0, y1, y7, y8, hg', hq⟩ := D3_ok hq
      exact n6_ok y0 y1 y7 y8 Kn Kr g' hg' h' hq
    | _ => exact hq
def Q2 (Kn : T2) (Kr : T0) : XPost
  | .normal, g, h => D2 Kn g h
  | .ret, g, h => D0 Kr g h
  | _, _, _ => False
abbrev n4 (x0 : List UInt8) (x1 : Int) (x6 : Int) (Kn : T0) (Kr : T0) (h : H) : Prop :=
  Spl (x6 = x1) (Kr ([] : List UInt8) (0 : Int) h) (Spl (x6 ≥ (x0.length : Int)) (Kr ([] : List UInt8) (0 : Int) h) ((0 ≤ x6 ∧ x6 < (x0.length : Int)) ∧ (Spl (((List.getD x0 (Int.toNat x6) 0).toNat : Int) = (64 : Int)) (n5 x0 x1 x6 Kn Kr h) (Kr ([] : List UInt8) (0 : Int) h))))
theorem n4_ok (x0 : List UInt8) (x1 : Int) (x6 : Int) (Kn : T0) (Kr : T0) (g : Env) (hg : E2 g x0 x1 x6) (h : H) (hS : n4 x0 x1 x6 Kn Kr h) : wpC none Tryd.prog 80 n3_c2 (Q0 Kn Kr) g h := by
  obtain ⟨hg0, hg1, hg6, hds⟩ := hg
  refine wpC_seq' (x := n4_c1) (y := n4_c2) (Q' := (Q2 (fun z0 z1 z6 h => n5 z0 z1 z6 Kn Kr h) Kr)) (by kernel_rfl) ?_ ?_
  · refine wpC_of_wpx (by kernel_rfl) (by kernel_rfl) (g' := (((⟨g.v, []⟩ : Env).upd (some 0) (S x0)).upd (some 1) (.int .i64 x1)).upd (some 6) (.int .i64 x6)) (by rw [env_ds hds, upd_self hg0, upd_self hg1, upd_self hg6]) ?_
    have e : (n4 x0 x1 x6 Kn Kr h) = wpx none Tryd.prog 80 n4_c1 (Q2 (fun z0 z1 z6 h => n5 z0 z1 z6 Kn Kr h) Kr) ((((⟨g.v, []⟩ : Env).upd (some 0) (S x0)).upd (some 1) (.int .i64 x1)).upd (some 6) (.int .i64 x6)) h := by kernel_rfl
    exact e ▸ hS
  · intro e g' h' hq
    cases e with
    | normal =>
      have hq : D2 (fun z0 z1 z6 h => n5 z0 z1 z6 Kn Kr h) g' h' := hq
      obtain ⟨y0, y1, y6, hg', hq⟩ := D2_ok hq
      exact n5_ok y0 y1 y6 Kn Kr g' hg' h' hq
    | _ => exact hq
noncomputable def n7_c1 : Code := cFst n3_c1
def Q3 (Kn : T2) (Ke0 : T2) (Kr : T0) : XPost
  | .normal, g, h => D2 Kn g h
  | .ret, g, h => D0 Kr g h
  | .exit id, g, h => cond (Nat.beq id 0) (D2 Ke0 g h) (False)
  | _, _, _ => False
noncomputable def n8_c1 : Code := cFst n7_c1
def n8_L (Kn : T2) (Ke0 : T2) (Kr : T0) : Nat → (List UInt8) → Int → Int → H → Prop
  | 0 => fun _ _ _ _ => False
  | N + 1 => fun x0 x1 x6 h => Spl (x6 < (x0.length : Int)) ((0 ≤ x6 ∧ x6 < (x0.length : Int)) ∧ (HCalls Tryd.prog 27 ⟨[(.int .u8 ((List.getD x0 (Int.toNat x6) 0).toNat : Int))]⟩ h fun v57 h58 => vBool v57 fun b59 => cond b59 (Rng .i64 (x6 + (1 : Int)) ∧ (n8_L Kn Ke0 Kr N x0 x1 (x6 + (1 : Int)) h58)) ((0 ≤ x6 ∧ x6 < (x0.length : Int)) ∧ (HCalls Tryd.prog 28 ⟨[(.int .u8 ((List.getD x0 (Int.toNat x6) 0).toNat : Int)), (S ([46, 43, 95, 45] : List UInt8))]⟩ h58 fun v60 h61 => vBool v60 fun b62 => cond b62 (Rng .i64 (x6 + (1 : Int)) ∧ (n8_L Kn Ke0 Kr N x0 x1 (x6 + (1 : Int)) h61)) (Ke0 x0 x1 x6 h61))))) (Ke0 x0 x1 x6 h)
abbrev n8 (x0 : List UInt8) (x1 : Int) (x6 : Int) (Kn : T2) (Ke0 : T2) (Kr : T0) (h : H) : Prop := ∃ N, n8_L Kn Ke0 Kr N x0 x1 x6 h
theorem n8_ok (x0 : List UInt8) (x1 : Int) (x6 : Int) (Kn : T2) (Ke0 : T2) (Kr : T0) (g : Env) (hg : E2 g x0 x1 x6) (h : H) (hS : n8 x0 x1 x6 Kn Ke0 Kr h) : wpC none Tryd.prog 80 n7_c1 (Q3 Kn Ke0 Kr) g h := by
  obtain ⟨N0, hS⟩ := hS
  refine wpC_loop' (x := n8_c1) (by kernel_rfl) (fun k g h => ∃ (x0 : List UInt8) (x1 : Int) (x6 : Int), E2 g x0 x1 x6 ∧ n8_L Kn Ke0 Kr k x0 x1 x6 h) (fun g h hr => ?_) (fun N g h hr => ?_) N0 ⟨x0, x1, x6, hg, hS⟩
  · obtain ⟨x0, x1, x6, hg, hS⟩ := hr
    exact hS.elim
  · obtain ⟨x0, x1, x6, hg, hS⟩ := hr
    have hw : wpC none Tryd.prog 80 n8_c1 (Q3 (fun z0 z1 z6 h => n8_L Kn Ke0 Kr N z0 z1 z6 h) Ke0 Kr) g h := by
      obtain ⟨hg0, hg1, hg6, hds⟩ := hg
      refine wpC_of_wpx (by kernel_rfl) (by kernel_rfl) (g' := (((⟨g.v, []⟩ : Env).upd (some 0) (S x0)).upd (some 1) (.int .i64 x1)).upd (some 6) (.int .i64 x6)) (by rw [env_ds hds, upd_self hg0, upd_self hg1, upd_self hg6]) ?_
      have e : (n8_L Kn Ke0 Kr (N + 1) x0 x1 x6 h) = wpx none Tryd.prog 80 n8_c1 (Q3 (fun z0 z1 z6 h => n8_L Kn Ke0 Kr N z0 z1 z6 h) Ke0 Kr) ((((⟨g.v, []⟩ : Env).upd (some 0) (S x0)).upd (some 1) (.int .i64 x1)).upd (some 6) (.int .i64 x6)) h := by kernel_rfl
      exact e ▸ hS
    refine hw.mono ?_
    intro e g' h' hq
    cases e with
    | normal => exact D2_ok (K := (fun z0 z1 z6 h => n8_L Kn Ke0 Kr N z0 z1 z6 h)) hq
    | _ => exact hq
abbrev n7 (x0 : List UInt8) (x1 : Int) (x6 : Int) (Kn : T2) (Kr : T0) (h : H) : Prop := n8 x0 x1 x6 Kn Kn Kr h
theorem n7_ok (x0 : List UInt8) (x1 : Int) (x6 : Int) (Kn : T2) (Kr : T0) (g : Env) (hg : E2 g x0 x1 x6) (h : H) (hS : n7 x0 x1 x6 Kn Kr h) : wpC none Tryd.prog 80 n3_c1 (Q2 Kn Kr) g h := by
  refine wpC_block' (id := 0) (x := n7_c1) (by kernel_rfl) (n8_ok x0 x1 x6 Kn Kn Kr g hg h hS) ?_
  intro e g' h' hq
  cases e <;> exact hq
abbrev n3 (x0 : List UInt8) (x1 : Int) (x6 : Int) (Kn : T0) (Kr : T0) (h : H) : Prop := n7 x0 x1 x6 (fun z0 z1 z6 h => n4 z0 z1 z6 Kn Kr h) Kr h
theorem n3_ok (x0 : List UInt8) (x1 : Int) (x6 : Int) (Kn : T0) (Kr : T0) (g : Env) (hg : E2 g x0 x1 x6) (h : H) (hS : n3 x0 x1 x6 Kn Kr h) : wpC none Tryd.prog 80 n2_c2 (Q0 Kn Kr) g h := by
  refine wpC_seq' (x := n3_c1) (y := n3_c2) (by kernel_rfl) (n7_ok x0 x1 x6 (fun z0 z1 z6 h => n4 z0 z1 z6 Kn Kr h) Kr g hg h hS) ?_
  intro e g' h' hq
  cases e with
  | normal =>
    have hq : D2 (fun z0 z1 z6 h => n4 z0 z1 z6 Kn Kr h) g' h' := hq
    obtain ⟨y0, y1, y6, hg', hq⟩ := D2_ok hq
    exact n4_ok y0 y1 y6 Kn Kr g' hg' h' hq
  | _ => exact hq
abbrev n2 (x0 : List UInt8) (x1 : Int) (Kn : T0) (Kr : T0) (h : H) : Prop :=
  n3 x0 x1 x1 Kn Kr h
theorem n2_ok (x0 : List UInt8) (x1 : Int) (Kn : T0) (Kr : T0) (g : Env) (hg : E1 g x0 x1) (h : H) (hS : n2 x0 x1 Kn Kr h) : wpC none Tryd.prog 80 n1_c2 (Q0 Kn Kr) g h := by
  obtain ⟨hg0, hg1, hds⟩ := hg
  refine wpC_seq' (x := n2_c1) (y := n2_c2) (Q' := (Q2 (fun z0 z1 z6 h => n3 z0 z1 z6 Kn Kr h) Kr)) (by kernel_rfl) ?_ ?_
  · refine wpC_of_wpx (by kernel_rfl) (by kernel_rfl) (g' := ((⟨g.v, []⟩ : Env).upd (some 0) (S x0)).upd (some 1) (.int .i64 x1)) (by rw [env_ds hds, upd_self hg0, upd_self hg1]) ?_
    have e : (n2 x0 x1 Kn Kr h) = wpx none Tryd.prog 80 n2_c1 (Q2 (fun z0 z1 z6 h => n3 z0 z1 z6 Kn Kr h) Kr) (((⟨g.v, []⟩ : Env).upd (some 0) (S x0)).upd (some 1) (.int .i64 x1)) h := by kernel_rfl
    exact e ▸ hS
  · intro e g' h' hq
    cases e with
    | normal =>
      have hq : D2 (fun z0 z1 z6 h => n3 z0 z1 z6 Kn Kr h) g' h' := hq
      obtain ⟨y0, y1, y6, hg', hq⟩ := D2_ok hq
      exact n3_ok y0 y1 y6 Kn Kr g' hg' h' hq
    | _ => exact hq
def Q4 (Kn : T1) (Kr : T0) : XPost
  | .normal, g, h => D1 Kn g h
  | .ret, g, h => D0 Kr g h
  | _, _, _ => False
abbrev n1 (x0 : List UInt8) (x1 : Int) (Kn : T0) (Kr : T0) (h : H) : Prop :=
  n2 x0 x1 Kn Kr h
theorem n1_ok (x0 : List UInt8) (x1 : Int) (Kn : T0) (Kr : T0) (g : Env) (hg : E1 g x0 x1) (h : H) (hS : n1 x0 x1 Kn Kr h) : wpC none Tryd.prog 80 code (Q0 Kn Kr) g h := by
  obtain ⟨hg0, hg1, hds⟩ := hg
  refine wpC_seq' (x := n1_c1) (y := n1_c2) (Q' := (Q4 (fun z0 z1 h => n2 z0 z1 Kn Kr h) Kr)) (by kernel_rfl) ?_ ?_
  · refine wpC_of_wpx (by kernel_rfl) (by kernel_rfl) (g' := ((⟨g.v, []⟩ : Env).upd (some 0) (S x0)).upd (some 1) (.int .i64 x1)) (by rw [env_ds hds, upd_self hg0, upd_self hg1]) ?_
    have e : (n1 x0 x1 Kn Kr h) = wpx none Tryd.prog 80 n1_c1 (Q4 (fun z0 z1 h => n2 z0 z1 Kn Kr h) Kr) (((⟨g.v, []⟩ : Env).upd (some 0) (S x0)).upd (some 1) (.int .i64 x1)) h := by kernel_rfl
    exact e ▸ hS
  · intro e g' h' hq
    cases e with
    | normal =>
      have hq : D1 (fun z0 z1 h => n2 z0 z1 Kn Kr h) g' h' := hq
      obtain ⟨y0, y1, hg', hq⟩ := D1_ok hq
      exact n2_ok y0 y1 Kn Kr g' hg' h' hq
    | _ => exact hq
/-- WHAT tympan/tympanref28.mail ASKS -/
abbrev asks (x0 : List UInt8) (x1 : Int) (K : Value → H → Prop) (h : H) : Prop := n1 x0 x1 (fun y4 y5 h => K (.tuple ⟨[(S y4), (.int .i64 y5)]⟩) h) (fun y4 y5 h => K (.tuple ⟨[(S y4), (.int .i64 y5)]⟩) h) h
theorem ok (x0 : List UInt8) (x1 : Int) (K : Value → H → Prop) (h : H) (hS : asks x0 x1 K h) : HCalls Tryd.prog 14 ⟨[(S x0), (.int .i64 x1)]⟩ h K := by
  refine calls_of_wpC (c := code) Tryd.func14 (by kernel_rfl) (Nat.le_of_ble_eq_true (by kernel_rfl)) ?_
  refine (n1_ok x0 x1 (fun y4 y5 h => K (.tuple ⟨[(S y4), (.int .i64 y5)]⟩) h) (fun y4 y5 h => K (.tuple ⟨[(S y4), (.int .i64 y5)]⟩) h) (env0 [(S x0), (.int .i64 x1)]) ⟨rfl, rfl, rfl⟩ h hS).mono ?_
  intro e g' h' hq
  cases e with
  | normal =>
    have hq : D0 (fun y4 y5 h => K (.tuple ⟨[(S y4), (.int .i64 y5)]⟩) h) g' h' := hq
    obtain ⟨y4, y5, ⟨hg4, hg5, hd⟩, hq⟩ := D0_ok hq
    show leaveX g'.ds h' _
    rw [hd]
    show K (.tuple ⟨[(g'.v 4), (g'.v 5)]⟩) h'
    rw [hg4, hg5]
    exact hq
  | ret =>
    have hq : D0 (fun y4 y5 h => K (.tuple ⟨[(S y4), (.int .i64 y5)]⟩) h) g' h' := hq
    obtain ⟨y4, y5, ⟨hg4, hg5, hd⟩, hq⟩ := D0_ok hq
    show leaveX g'.ds h' _
    rw [hd]
    show K (.tuple ⟨[(g'.v 4), (g'.v 5)]⟩) h'
    rw [hg4, hg5]
    exact hq
  | _ => exact hq
end Sx.r28_mail

/-! ### tympan/tympanref28.at -/
namespace Sx.r28_at
noncomputable def code : Code := bodyOf Tryd.f23
abbrev T0 := Bool → H → Prop
def E0 (g : Env) (x6 : Bool) : Prop := g.v 6 = (.bool x6) ∧ g.ds = []
def D0 (K : T0) (g : Env) (h : H) : Prop := nilDs g.ds (vBool (g.v 6) fun b1 => K b1 h)
theorem D0_ok {K : T0} {g : Env} {h : H} (hq : D0 K g h) : ∃ (x6 : Bool), E0 g x6 ∧ K x6 h := by
  obtain ⟨hd, hq⟩ := nilDs_ok hq
  obtain ⟨y3, e2, q4⟩ := vBool_ok hq
  exact ⟨y3, ⟨e2, hd⟩, q4⟩
def Q0 (Kn : T0) (Kr : T0) : XPost
  | .normal, g, h => D0 Kn g h
  | .ret, g, h => D0 Kr g h
  | _, _, _ => False
abbrev T1 := (List UInt8) → Int → (List UInt8) → H → Prop
def E1 (g : Env) (x0 : List UInt8) (x1 : Int) (x2 : List UInt8) : Prop := g.v 0 = (S x0) ∧ g.v 1 = (.int .i64 x1) ∧ g.v 2 = (S x2) ∧ g.ds = []
def D1 (K : T1) (g : Env) (h : H) : Prop := nilDs g.ds (vStr (g.v 0) fun s5 => vInt .i64 (g.v 1) fun i6 => vStr (g.v 2) fun s7 => K s5 i6 s7 h)
theorem D1_ok {K : T1} {g : Env} {h : H} (hq : D1 K g h) : ∃ (x0 : List UInt8) (x1 : Int) (x2 : List UInt8), E1 g x0 x1 x2 ∧ K x0 x1 x2 h := by
  obtain ⟨hd, hq⟩ := nilDs_ok hq
  obtain ⟨y9, e8, q10⟩ := vStr_ok hq
  obtain ⟨y12, e11, q13⟩ := vInt_ok q10
  obtain ⟨y15, e14, q16⟩ := vStr_ok q13
  exact ⟨y9, y12, y15, ⟨e8, e11, e14, hd⟩, q16⟩
abbrev n1 (x0 : List UInt8) (x1 : Int) (x2 : List UInt8) (Kn : T0) (Kr : T0) (h : H) : Prop :=
  Rng .i64 ((x0.length : Int) - x1) ∧ (Spl (((x0.length : Int) - x1) ≥ (x2.length : Int)) (Rng .i64 (x1 + (x2.length : Int)) ∧ ((0 ≤ x1 ∧ x1 ≤ (x1 + (x2.length : Int)) ∧ (x1 + (x2.length : Int)) ≤ (x0.length : Int)) ∧ (Spl ((sub x0 x1 (x1 + (x2.length : Int))) = x2) (Kr true h) (Kr false h)))) (Kr false h))
theorem n1_ok (x0 : List UInt8) (x1 : Int) (x2 : List UInt8) (Kn : T0) (Kr : T0) (g : Env) (hg : E1 g x0 x1 x2) (h : H) (hS : n1 x0 x1 x2 Kn Kr h) : wpC none Tryd.prog 25 code (Q0 Kn Kr) g h := by
  obtain ⟨hg0, hg1, hg2, hds⟩ := hg
  refine wpC_of_wpx (by kernel_rfl) (by kernel_rfl) (g' := (((⟨g.v, []⟩ : Env).upd (some 0) (S x0)).upd (some 1) (.int .i64 x1)).upd (some 2) (S x2)) (by rw [env_ds hds, upd_self hg0, upd_self hg1, upd_self hg2]) ?_
  have e : (n1 x0 x1 x2 Kn Kr h) = wpx none Tryd.prog 25 code (Q0 Kn Kr) ((((⟨g.v, []⟩ : Env).upd (some 0) (S x0)).upd (some 1) (.int .i64 x1)).upd (some 2) (S x2)) h := by kernel_rfl
  exact e ▸ hS
/-- WHAT tympan/tympanref28.at ASKS -/
abbrev asks (x0 : List UInt8) (x1 : Int) (x2 : List UInt8) (K : Value → H → Prop) (h : H) : Prop := n1 x0 x1 x2 (fun y6 h => K (.bool y6) h) (fun y6 h => K (.bool y6) h) h
theorem ok (x0 : List UInt8) (x1 : Int) (x2 : List UInt8) (K : Value → H → Prop) (h : H) (hS : asks x0 x1 x2 K h) : HCalls Tryd.prog 23 ⟨[(S x0), (.int .i64 x1), (S x2)]⟩ h K := by
  refine calls_of_wpC (c := code) Tryd.func23 (by kernel_rfl) (Nat.le_of_ble_eq_true (by kernel_rfl)) ?_
  refine (n1_ok x0 x1 x2 (fun y6 h => K (.bool y6) h) (fun y6 h => K (.bool y6) h) (env0 [(S x0), (.int .i64 x1), (S x2)]) ⟨rfl, rfl, rfl, rfl⟩ h hS).mono ?_
  intro e g' h' hq
  cases e with
  | normal =>
    have hq : D0 (fun y6 h => K (.bool y6) h) g' h' := hq
    obtain ⟨y6, ⟨hg6, hd⟩, hq⟩ := D0_ok hq
    show leaveX g'.ds h' _
    rw [hd]
    show K (g'.v 6) h'
    rw [hg6]
    exact hq
  | ret =>
    have hq : D0 (fun y6 h => K (.bool y6) h) g' h' := hq
    obtain ⟨y6, ⟨hg6, hd⟩, hq⟩ := D0_ok hq
    show leaveX g'.ds h' _
    rw [hd]
    show K (g'.v 6) h'
    rw [hg6]
    exact hq
  | _ => exact hq
end Sx.r28_at

/-! ### tympan/tympanref28.domain -/
namespace Sx.r28_domain
noncomputable def code : Code := bodyOf Tryd.f24
abbrev T0 := Int → Bool → H → Prop
def E0 (g : Env) (x4 : Int) (x5 : Bool) : Prop := g.v 4 = (.int .i64 x4) ∧ g.v 5 = (.bool x5) ∧ g.ds = []
def D0 (K : T0) (g : Env) (h : H) : Prop := nilDs g.ds (vInt .i64 (g.v 4) fun i1 => vBool (g.v 5) fun b2 => K i1 b2 h)
theorem D0_ok {K : T0} {g : Env} {h : H} (hq : D0 K g h) : ∃ (x4 : Int) (x5 : Bool), E0 g x4 x5 ∧ K x4 x5 h := by
  obtain ⟨hd, hq⟩ := nilDs_ok hq
  obtain ⟨y4, e3, q5⟩ := vInt_ok hq
  obtain ⟨y7, e6, q8⟩ := vBool_ok q5
  exact ⟨y4, y7, ⟨e3, e6, hd⟩, q8⟩
def Q0 (Kn : T0) (Kr : T0) : XPost
  | .normal, g, h => D0 Kn g h
  | .ret, g, h => D0 Kr g h
  | _, _, _ => False
abbrev T1 := (List UInt8) → Int → H → Prop
def E1 (g : Env) (x0 : List UInt8) (x1 : Int) : Prop := g.v 0 = (S x0) ∧ g.v 1 = (.int .i64 x1) ∧ g.ds = []
def D1 (K : T1) (g : Env) (h : H) : Prop := nilDs g.ds (vStr (g.v 0) fun s9 => vInt .i64 (g.v 1) fun i10 => K s9 i10 h)
theorem D1_ok {K : T1} {g : Env} {h : H} (hq : D1 K g h) : ∃ (x0 : List UInt8) (x1 : Int), E1 g x0 x1 ∧ K x0 x1 h := by
  obtain ⟨hd, hq⟩ := nilDs_ok hq
  obtain ⟨y12, e11, q13⟩ := vStr_ok hq
  obtain ⟨y15, e14, q16⟩ := vInt_ok q13
  exact ⟨y12, y15, ⟨e11, e14, hd⟩, q16⟩
noncomputable def n1_c1 : Code := cFst code
noncomputable def n1_c2 : Code := cSnd code
noncomputable def n2_c1 : Code := cFst n1_c2
noncomputable def n2_c2 : Code := cSnd n1_c2
abbrev T2 := (List UInt8) → Int → (Option Addr) → Nat → Nat → H → Prop
def E2 (g : Env) (x0 : List UInt8) (x1 : Int) (x6b : Option Addr) (x6n : Nat) (x6c : Nat) : Prop := g.v 0 = (S x0) ∧ g.v 1 = (.int .i64 x1) ∧ g.v 6 = (.slice x6b x6n x6c) ∧ g.ds = []
def D2 (K : T2) (g : Env) (h : H) : Prop := nilDs g.ds (vStr (g.v 0) fun s17 => vInt .i64 (g.v 1) fun i18 => vSlice (g.v 6) fun s19b s19n s19c => K s17 i18 s19b s19n s19c h)
theorem D2_ok {K : T2} {g : Env} {h : H} (hq : D2 K g h) : ∃ (x0 : List UInt8) (x1 : Int) (x6b : Option Addr) (x6n : Nat) (x6c : Nat), E2 g x0 x1 x6b x6n x6c ∧ K x0 x1 x6b x6n x6c h := by
  obtain ⟨hd, hq⟩ := nilDs_ok hq
  obtain ⟨y21, e20, q22⟩ := vStr_ok hq
  obtain ⟨y24, e23, q25⟩ := vInt_ok q22
  obtain ⟨y27b, y27n, y27c, e26, q28⟩ := vSlice_ok q25
  exact ⟨y21, y24, y27b, y27n, y27c, ⟨e20, e23, e26, hd⟩, q28⟩
noncomputable def n3_c1 : Code := cFst n2_c2
noncomputable def n3_c2 : Code := cSnd n2_c2
abbrev T3 := (List UInt8) → Int → (Option Addr) → Nat → Nat → Bool → H → Prop
def E3 (g : Env) (x0 : List UInt8) (x1 : Int) (x6b : Option Addr) (x6n : Nat) (x6c : Nat) (x7 : Bool) : Prop := g.v 0 = (S x0) ∧ g.v 1 = (.int .i64 x1) ∧ g.v 6 = (.slice x6b x6n x6c) ∧ g.v 7 = (.bool x7) ∧ g.ds = []
def D3 (K : T3) (g : Env) (h : H) : Prop := nilDs g.ds (vStr (g.v 0) fun s29 => vInt .i64 (g.v 1) fun i30 => vSlice (g.v 6) fun s31b s31n s31c => vBool (g.v 7) fun b32 => K s29 i30 s31b s31n s31c b32 h)
theorem D3_ok {K : T3} {g : Env} {h : H} (hq : D3 K g h) : ∃ (x0 : List UInt8) (x1 : Int) (x6b : Option Addr) (x6n : Nat) (x6c : Nat) (x7 : Bool), E3 g x0 x1 x6b x6n x6c x7 ∧ K x0 x1 x6b x6n x6c x7 h := by
  obtain ⟨hd, hq⟩ := nilDs_ok hq
  obtain ⟨y34, e33, q35⟩ := vStr_ok hq
  obtain ⟨y37, e36, q38⟩ := vInt_ok q35
  obtain ⟨y40b, y40n, y40c, e39, q41⟩ := vSlice_ok q38
  obtain ⟨y43, e42, q44⟩ := vBool_ok q41
  exact ⟨y34, y37, y40b, y40n, y40c, y43, ⟨e33, e36, e39, e42, hd⟩, q44⟩
noncomputable def n4_c1 : Code := cFst n3_c2
noncomputable def n4_c2 : Code := cSnd n3_c2
abbrev T4 := (List UInt8) → (Option Addr) → Nat → Nat → Bool → Int → H → Prop
def E4 (g : Env) (x0 : List UInt8) (x6b : Option Addr) (x6n : Nat) (x6c : Nat) (x7 : Bool) (x8 : Int) : Prop := g.v 0 = (S x0) ∧ g.v 6 = (.slice x6b x6n x6c) ∧ g.v 7 = (.bool x7) ∧ g.v 8 = (.int .i64 x8) ∧ g.ds = []
def D4 (K : T4) (g : Env) (h : H) : Prop := nilDs g.ds (vStr (g.v 0) fun s45 => vSlice (g.v 6) fun s46b s46n s46c => vBool (g.v 7) fun b47 => vInt .i64 (g.v 8) fun i48 => K s45 s46b s46n s46c b47 i48 h)
theorem D4_ok {K : T4} {g : Env} {h : H} (hq : D4 K g h) : ∃ (x0 : List UInt8) (x6b : Option Addr) (x6n : Nat) (x6c : Nat) (x7 : Bool) (x8 : Int), E4 g x0 x6b x6n x6c x7 x8 ∧ K x0 x6b x6n x6c x7 x8 h := by
  obtain ⟨hd, hq⟩ := nilDs_ok hq
  obtain ⟨y50, e49, q51⟩ := vStr_ok hq
  obtain ⟨y53b, y53n, y53c, e52, q54⟩ := vSlice_ok q51
  obtain ⟨y56, e55, q57⟩ := vBool_ok q54
  obtain ⟨y59, e58, q60⟩ := vInt_ok q57
  exact ⟨y50, y53b, y53n, y53c, y56, y59, ⟨e49, e52, e55, e58, hd⟩, q60⟩
noncomputable def n5_c1 : Code := cFst n4_c2
noncomputable def n5_c2 : Code := cSnd n4_c2
abbrev T5 := (Option Addr) → Nat → Nat → Bool → Int → H → Prop
def E5 (g : Env) (x6b : Option Addr) (x6n : Nat) (x6c : Nat) (x7 : Bool) (x8 : Int) : Prop := g.v 6 = (.slice x6b x6n x6c) ∧ g.v 7 = (.bool x7) ∧ g.v 8 = (.int .i64 x8) ∧ g.ds = []
def D5 (K : T5) (g : Env) (h : H) : Prop := nilDs g.ds (vSlice (g.v 6) fun s61b s61n s61c => vBool (g.v 7) fun b62 => vInt .i64 (g.v 8) fun i63 => K s61b s61n s61c b62 i63 h)
theorem D5_ok {K : T5} {g : Env} {h : H} (hq : D5 K g h) : ∃ (x6b : Option Addr) (x6n : Nat) (x6c : Nat) (x7 : Bool) (x8 : Int), E5 g x6b x6n x6c x7 x8 ∧ K x6b x6n x6c x7 x8 h := by
  obtain ⟨hd, hq⟩ := nilDs_ok hq
  obtain ⟨y65b, y65n, y65c, e64, q66⟩ := vSlice_ok hq
  obtain ⟨y68, e67, q69⟩ := vBool_ok q66
  obtain ⟨y71, e70, q72⟩ := vInt_ok q69
  exact ⟨y65b, y65n, y65c, y68, y71, ⟨e64, e67, e70, hd⟩, q72⟩
abbrev n6 (x6b : Option Addr) (x6n : Nat) (x6c : Nat) (x7 : Bool) (x8 : Int) (Kn : T0) (Kr : T0) (h : H) : Prop :=
  Spl ((x6n : Int) < (2 : Int)) (Kr (0 : Int) false h) (Rng .i64 ((x6n : Int) - (1 : Int)) ∧ ((0 ≤ ((x6n : Int) - (1 : Int)) ∧ ((x6n : Int) - (1 : Int)) < (x6n : Int)) ∧ (vSome x6b fun a73 => ∃ b74, cell h (a73.add (Int.toNat ((x6n : Int) - (1 : Int)) * 1)) = some (.bool b74) ∧ (cond b74 (Kr (0 : Int) false h) (Rng .i64 ((x6n : Int) - (2 : Int)) ∧ ((0 ≤ ((x6n : Int) - (2 : Int)) ∧ ((x6n : Int) - (2 : Int)) < (x6n : Int)) ∧ (vSome x6b fun a75 => ∃ b76, cell h (a75.add (Int.toNat ((x6n : Int) - (2 : Int)) * 1)) = some (.bool b76) ∧ (cond b76 (Kr (0 : Int) false h) (cond x7 (Kr x8 true h) (Kr x8 false h))))))))))
theorem n6_ok (x6b : Option Addr) (x6n : Nat) (x6c : Nat) (x7 : Bool) (x8 : Int) (Kn : T0) (Kr : T0) (g : Env) (hg : E5 g x6b x6n x6c x7 x8) (h : H) (hS : n6 x6b x6n x6c x7 x8 Kn Kr h) : wpC none Tryd.prog 104 n5_c2 (Q0 Kn Kr) g h := by
  obtain ⟨hg6, hg7, hg8, hds⟩ := hg
  refine wpC_of_wpx (by kernel_rfl) (by kernel_rfl) (g' := (((⟨g.v, []⟩ : Env).upd (some 6) (.slice x6b x6n x6c)).upd (some 7) (.bool x7)).upd (some 8) (.int .i64 x8)) (by rw [env_ds hds, upd_self hg6, upd_self hg7, upd_self hg8]) ?_
  have e : (n6 x6b x6n x6c x7 x8 Kn Kr h) = wpx none Tryd.prog 104 n5_c2 (Q0 Kn Kr) ((((⟨g.v, []⟩ : Env).upd (some 6) (.slice x6b x6n x6c)).upd (some 7) (.bool x7)).upd (some 8) (.int .i64 x8)) h := by kernel_rfl
  exact e ▸ hS
def Q1 (Kn : T5) (Kr : T0) : XPost
  | .normal, g, h => D5 Kn g h
  | .ret, g, h => D0 Kr g h
  | _, _, _ => False
noncomputable def n7_c1 : Code := cFst n5_c1
def Q2 (Kn : T5) (Ke0 : T5) (Kr : T0) : XPost
  | .normal, g, h => D5 Kn g h
  | .ret, g, h => D0 Kr g h
  | .exit id, g, h => cond (Nat.beq id 0) (D5 Ke0 g h) (False)
  | _, _, _ => False
noncomputable def n8_c1 : Code := cFst n7_c1
def Q3 (Kn : T4) (Ke0 : T5) (Kr : T0) : XPost
  | .normal, g, h => D4 Kn g h
  | .ret, g, h => D0 Kr g h
  | .exit id, g, h => cond (Nat.beq id 0) (D5 Ke0 g h) (False)
  | _, _, _ => False
noncomputable def n9_c1 : Code := cFst n8_c1
def Q4 (Kn : T4) (Ke1 : T4) (Ke0 : T5) (Kr : T0) : XPost
  | .normal, g, h => D4 Kn g h
  | .ret, g, h => D0 Kr g h
  | .exit id, g, h => cond (Nat.beq id 1) (D4 Ke1 g h) (cond (Nat.beq id 0) (D5 Ke0 g h) (False))
  | _, _, _ => False
noncomputable def n10_c1 : Code := cFst n9_c1
noncomputable def n10_c2 : Code := cSnd n9_c1
abbrev T6 := (List UInt8) → (Option Addr) → Nat → Nat → Bool → Int → Int → H → Prop
def E6 (g : Env) (x0 : List UInt8) (x6b : Option Addr) (x6n : Nat) (x6c : Nat) (x7 : Bool) (x8 : Int) (x9 : Int) : Prop := g.v 0 = (S x0) ∧ g.v 6 = (.slice x6b x6n x6c) ∧ g.v 7 = (.bool x7) ∧ g.v 8 = (.int .i64 x8) ∧ g.v 9 = (.int .i64 x9) ∧ g.ds = []
def D6 (K : T6) (g : Env) (h : H) : Prop := nilDs g.ds (vStr (g.v 0) fun s77 => vSlice (g.v 6) fun s78b s78n s78c => vBool (g.v 7) fun b79 => vInt .i64 (g.v 8) fun i80 => vInt .i64 (g.v 9) fun i81 => K s77 s78b s78n s78c b79 i80 i81 h)
theorem D6_ok {K : T6} {g : Env} {h : H} (hq : D6 K g h) : ∃ (x0 : List UInt8) (x6b : Option Addr) (x6n : Nat) (x6c : Nat) (x7 : Bool) (x8 : Int) (x9 : Int), E6 g x0 x6b x6n x6c x7 x8 x9 ∧ K x0 x6b x6n x6c x7 x8 x9 h := by
  obtain ⟨hd, hq⟩ := nilDs_ok hq
  obtain ⟨y83, e82, q84⟩ := vStr_ok hq
  obtain ⟨y86b, y86n, y86c, e85, q87⟩ := vSlice_ok q84
  obtain ⟨y89, e88, q90⟩ := vBool_ok q87
  obtain ⟨y92, e91, q93⟩ := vInt_ok q90
  obtain ⟨y95, e94, q96⟩ := vInt_ok q93
  exact ⟨y83, y86b, y86n, y86c, y89, y92, y95, ⟨e82, e85, e88, e91, e94, hd⟩, q96⟩
noncomputable def n11_c1 : Code := cFst n10_c2
noncomputable def n11_c2 : Code := cSnd n10_c2
abbrev T7 := (List UInt8) → (Option Addr) → Nat → Nat → Bool → Int → Int → Bool → H → Prop
def E7 (g : Env) (x0 : List UInt8) (x6b : Option Addr) (x6n : Nat) (x6c : Nat) (x7 : Bool) (x8 : Int) (x9 : Int) (x10 : Bool) : Prop := g.v 0 = (S x0) ∧ g.v 6 = (.slice x6b x6n x6c) ∧ g.v 7 = (.bool x7) ∧ g.v 8 = (.int .i64 x8) ∧ g.v 9 = (.int .i64 x9) ∧ g.v 10 = (.bool x10) ∧ g.ds = []
def D7 (K : T7) (g : Env) (h : H) : Prop := nilDs g.ds (vStr (g.v 0) fun s97 => vSlice (g.v 6) fun s98b s98n s98c => vBool (g.v 7) fun b99 => vInt .i64 (g.v 8) fun i100 => vInt .i64 (g.v 9) fun i101 => vBool (g.v 10) fun b102 => K s97 s98b s98n s98c b99 i100 i101 b102 h)
theorem D7_ok {K : T7} {g : Env} {h : H} (hq : D7 K g h) : ∃ (x0 : List UInt8) (x6b : Option Addr) (x6n : Nat) (x6c : Nat) (x7 : Bool) (x8 : Int) (x9 : Int) (x10 : Bool), E7 g x0 x6b x6n x6c x7 x8 x9 x10 ∧ K x0 x6b x6n x6c x7 x8 x9 x10 h := by
  obtain ⟨hd, hq⟩ := nilDs_ok hq
  obtain ⟨y104, e103, q105⟩ := vStr_ok hq
  obtain ⟨y107b, y107n, y107c, e106, q108⟩ := vSlice_ok q105
  obtain ⟨y110, e109, q111⟩ := vBool_ok q108
  obtain ⟨y113, e112, q114⟩ := vInt_ok q111
  obtain ⟨y116, e115, q117⟩ := vInt_ok q114
  obtain ⟨y119, e118, q120⟩ := vBool_ok q117
  exact ⟨y104, y107b, y107n, y107c, y110, y113, y116, y119, ⟨e103, e106, e109, e112, e115, e118, hd⟩, q120⟩
noncomputable def n12_c1 : Code := cFst n11_c2
noncomputable def n12_c2 : Code := cSnd n11_c2
abbrev n13 (x0 : List UInt8) (x6b : Option Addr) (x6n : Nat) (x6c : Nat) (x7 : Bool) (x8 : Int) (x9 : Int) (x10 : Bool) (Kn : T4) (Ke1 : T4) (Ke0 : T5) (Kr : T0) (h : H) : Prop :=
  Spl (x9 = (0 : Int)) (Spl ((x6n : Int) > (0 : Int)) (Rng .i64 (x8 - (1 : Int)) ∧ (Ke0 x6b x6n x6c x7 (x8 - (1 : Int)) h)) (Ke0 x6b x6n x6c x7 x8 h)) (cond x10 (newx h #[(.bool true)] 4 fun a121 h122 => SemH Tryd.prog (Builtin.append_ #[58, 58] 58 ⟨[(.slice x6b x6n x6c), (.slice (some a121) 1 1)]⟩) h122 fun v123 h124 => vSlice v123 fun s125b s125n s125c => cond x7 (Rng .i64 (x8 + x9) ∧ (Spl ((x8 + x9) ≥ (x0.length : Int)) (Ke0 s125b s125n s125c true (x8 + x9) h124) ((0 ≤ (x8 + x9) ∧ (x8 + x9) < (x0.length : Int)) ∧ (Spl (((List.getD x0 (Int.toNat (x8 + x9)) 0).toNat : Int) = (46 : Int)) (Rng .i64 ((x8 + x9) + (1 : Int)) ∧ (Kn x0 s125b s125n s125c true ((x8 + x9) + (1 : Int)) h124)) (Ke0 s125b s125n s125c true (x8 + x9) h124))))) (cond x10 (Rng .i64 (x8 + x9) ∧ (Spl ((x8 + x9) ≥ (x0.length : Int)) (Ke0 s125b s125n s125c true (x8 + x9) h124) ((0 ≤ (x8 + x9) ∧ (x8 + x9) < (x0.length : Int)) ∧ (Spl (((List.getD x0 (Int.toNat (x8 + x9)) 0).toNat : Int) = (46 : Int)) (Rng .i64 ((x8 + x9) + (1 : Int)) ∧ (Kn x0 s125b s125n s125c true ((x8 + x9) + (1 : Int)) h124)) (Ke0 s125b s125n s125c true (x8 + x9) h124))))) (Rng .i64 (x8 + x9) ∧ (Spl ((x8 + x9) ≥ (x0.length : Int)) (Ke0 s125b s125n s125c false (x8 + x9) h124) ((0 ≤ (x8 + x9) ∧ (x8 + x9) < (x0.length : Int)) ∧ (Spl (((List.getD x0 (Int.toNat (x8 + x9)) 0).toNat : Int) = (46 : Int)) (Rng .i64 ((x8 + x9) + (1 : Int)) ∧ (Kn x0 s125b s125n s125c false ((x8 + x9) + (1 : Int)) h124)) (Ke0 s125b s125n s125c false (x8 + x9) h124))))))) (newx h #[(.bool false)] 4 fun a126 h127 => SemH Tryd.prog (Builtin.append_ #[58, 58] 58 ⟨[(.slice x6b x6n x6c), (.slice (some a126) 1 1)]⟩) h127 fun v128 h129 => vSlice v128 fun s130b s130n s130c => cond x7 (Rng .i64 (x8 + x9) ∧ (Spl ((x8 + x9) ≥ (x0.length : Int)) (Ke0 s130b s130n s130c true (x8 + x9) h129) ((0 ≤ (x8 + x9) ∧ (x8 + x9) < (x0.length : Int)) ∧ (Spl (((List.getD x0 (Int.toNat (x8 + x9)) 0).toNat : Int) = (46 : Int)) (Rng .i64 ((x8 + x9) + (1 : Int)) ∧ (Kn x0 s130b s130n s130c true ((x8 + x9) + (1 : Int)) h129)) (Ke0 s130b s130n s130c true (x8 + x9) h129))))) (cond x10 (Rng .i64 (x8 + x9) ∧ (Spl ((x8 + x9) ≥ (x0.length : Int)) (Ke0 s130b s130n s130c true (x8 + x9) h129) ((0 ≤ (x8 + x9) ∧ (x8 + x9) < (x0.length : Int)) ∧ (Spl (((List.getD x0 (Int.toNat (x8 + x9)) 0).toNat : Int) = (46 : Int)) (Rng .i64 ((x8 + x9) + (1 : Int)) ∧ (Kn x0 s130b s130n s130c true ((x8 + x9) + (1 : Int)) h129)) (Ke0 s130b s130n s130c true (x8 + x9) h129))))) (Rng .i64 (x8 + x9) ∧ (Spl ((x8 + x9) ≥ (x0.length : Int)) (Ke0 s130b s130n s130c false (x8 + x9) h129) ((0 ≤ (x8 + x9) ∧ (x8 + x9) < (x0.length : Int)) ∧ (Spl (((List.getD x0 (Int.toNat (x8 + x9)) 0).toNat : Int) = (46 : Int)) (Rng .i64 ((x8 + x9) + (1 : Int)) ∧ (Kn x0 s130b s130n s130c false ((x8 + x9) + (1 : Int)) h129)) (Ke0 s130b s130n s130c false (x8 + x9) h129))))))))
theorem n13_ok (x0 : List UInt8) (x6b : Option Addr) (x6n : Nat) (x6c : Nat) (x7 : Bool) (x8 : Int) (x9 : Int) (x10 : Bool) (Kn : T4) (Ke1 : T4) (Ke0 : T5) (Kr : T0) (g : Env) (hg : E7 g x0 x6b x6n x6c x7 x8 x9 x10) (h : H) (hS : n13 x0 x6b x6n x6c x7 x8 x9 x10 Kn Ke1 Ke0 Kr h) : wpC none Tryd.prog 104 n12_c2 (Q4 Kn Ke1 Ke0 Kr) g h := by
  obtain ⟨hg0, hg6, hg7, hg8, hg9, hg10, hds⟩ := hg
  refine wpC_of_wpx (by kernel_rfl) (by kernel_rfl) (g' := ((((((⟨g.v, []⟩ : Env).upd (some 0) (S x0)).upd (some 6) (.slice x6b x6n x6c)).upd (some 7) (.bool x7)).upd (some 8) (.int .i64 x8)).upd (some 9) (.int .i64 x9)).upd (some 10) (.bool x10)) (by rw [env_ds hds, upd_self hg0, upd_self hg6, upd_self hg7, upd_self hg8, upd_self hg9, upd_self hg10]) ?_
  have e : (n13 x0 x6b x6n x6c x7 x8 x9 x10 Kn Ke1 Ke0 Kr h) = wpx none Tryd.prog 104 n12_c2 (Q4 Kn Ke1 Ke0 Kr) (((((((⟨g.v, []⟩ : Env).upd (some 0) (S x0)).upd (some 6) (.slice x6b x6n x6c)).upd (some 7) (.bool x7)).upd (some 8) (.int .i64 x8)).upd (some 9) (.int .i64 x9)).upd (some 10) (.bool x10)) h := by kernel_rfl
  exact e ▸ hS
def Q5 (Kn : T7) (Ke1 : T4) (Ke0 : T5) (Kr : T0) : XPost
  | .normal, g, h => D7 Kn g h
  | .ret, g, h => D0 Kr g h
  | .exit id, g, h => cond (Nat.beq id 1) (D4 Ke1 g h) (cond (Nat.beq id 0) (D5 Ke0 g h) (False))
  | _, _, _ => False
noncomputable def n14_c1 : Code := cFst n12_c1
def Q6 (Kn : T7) (Ke2 : T7) (Ke1 : T4) (Ke0 : T5) (Kr : T0) : XPost
  | .normal, g, h => D7 Kn g h
  | .ret, g, h => D0 Kr g h
  | .exit id, g, h => cond (Nat.beq id 2) (D7 Ke2 g h) (cond (Nat.beq id 1) (D4 Ke1 g h) (cond (Nat.beq id 0) (D5 Ke0 g h) (False)))
  | _, _, _ => False
noncomputable def n15_c1 : Code := cFst n14_c1
def n15_L (Kn : T7) (Ke2 : T7) (Ke1 : T4) (Ke0 : T5) (Kr : T0) : Nat → (List UInt8) → (Option Addr) → Nat → Nat → Bool → Int → Int → Bool → H → Prop
  | 0 => fun _ _ _ _ _ _ _ _ _ => False
  | N + 1 => fun x0 x6b x6n x6c x7 x8 x9 x10 h => Rng .i64 (x8 + x9) ∧ (Spl ((x8 + x9) < (x0.length : Int)) (Rng .i64 (x8 + x9) ∧ ((0 ≤ (x8 + x9) ∧ (x8 + x9) < (x0.length : Int)) ∧ (HCalls Tryd.prog 27 ⟨[(.int .u8 ((List.getD x0 (Int.toNat (x8 + x9)) 0).toNat : Int))]⟩ h fun v131 h132 => vBool v131 fun b133 => cond b133 (cond x10 (Rng .i64 (x9 + (1 : Int)) ∧ (n15_L Kn Ke2 Ke1 Ke0 Kr N x0 x6b x6n x6c x7 x8 (x9 + (1 : Int)) true h132)) (Rng .i64 (x8 + x9) ∧ ((0 ≤ (x8 + x9) ∧ (x8 + x9) < (x0.length : Int)) ∧ (Spl (((List.getD x0 (Int.toNat (x8 + x9)) 0).toNat : Int) = (95 : Int)) (Rng .i64 (x9 + (1 : Int)) ∧ (n15_L Kn Ke2 Ke1 Ke0 Kr N x0 x6b x6n x6c x7 x8 (x9 + (1 : Int)) true h132)) (Rng .i64 (x9 + (1 : Int)) ∧ (n15_L Kn Ke2 Ke1 Ke0 Kr N x0 x6b x6n x6c x7 x8 (x9 + (1 : Int)) false h132)))))) (Rng .i64 (x8 + x9) ∧ ((0 ≤ (x8 + x9) ∧ (x8 + x9) < (x0.length : Int)) ∧ (Spl (((List.getD x0 (Int.toNat (x8 + x9)) 0).toNat : Int) = (45 : Int)) (cond x10 (Rng .i64 (x9 + (1 : Int)) ∧ (n15_L Kn Ke2 Ke1 Ke0 Kr N x0 x6b x6n x6c x7 x8 (x9 + (1 : Int)) true h132)) (Rng .i64 (x8 + x9) ∧ ((0 ≤ (x8 + x9) ∧ (x8 + x9) < (x0.length : Int)) ∧ (Spl (((List.getD x0 (Int.toNat (x8 + x9)) 0).toNat : Int) = (95 : Int)) (Rng .i64 (x9 + (1 : Int)) ∧ (n15_L Kn Ke2 Ke1 Ke0 Kr N x0 x6b x6n x6c x7 x8 (x9 + (1 : Int)) true h132)) (Rng .i64 (x9 + (1 : Int)) ∧ (n15_L Kn Ke2 Ke1 Ke0 Kr N x0 x6b x6n x6c x7 x8 (x9 + (1 : Int)) false h132)))))) (Rng .i64 (x8 + x9) ∧ ((0 ≤ (x8 + x9) ∧ (x8 + x9) < (x0.length : Int)) ∧ (Spl (((List.getD x0 (Int.toNat (x8 + x9)) 0).toNat : Int) = (95 : Int)) (cond x10 (Rng .i64 (x9 + (1 : Int)) ∧ (n15_L Kn Ke2 Ke1 Ke0 Kr N x0 x6b x6n x6c x7 x8 (x9 + (1 : Int)) true h132)) (Rng .i64 (x8 + x9) ∧ ((0 ≤ (x8 + x9) ∧ (x8 + x9) < (x0.length : Int)) ∧ (Spl (((List.getD x0 (Int.toNat (x8 + x9)) 0).toNat : Int) = (95 : Int)) (Rng .i64 (x9 + (1 : Int)) ∧ (n15_L Kn Ke2 Ke1 Ke0 Kr N x0 x6b x6n x6c x7 x8 (x9 + (1 : Int)) true h132)) (Rng .i64 (x9 + (1 : Int)) ∧ (n15_L Kn Ke2 Ke1 Ke0 Kr N x0 x6b x6n x6c x7 x8 (x9 + (1 : Int)) false h132)))))) (Ke2 x0 x6b x6n x6c x7 x8 x9 x10 h132)))))))))) (Ke2 x0 x6b x6n x6c x7 x8 x9 x10 h))
abbrev n15 (x0 : List UInt8) (x6b : Option Addr) (x6n : Nat) (x6c : Nat) (x7 : Bool) (x8 : Int) (x9 : Int) (x10 : Bool) (Kn : T7) (Ke2 : T7) (Ke1 : T4) (Ke0 : T5) (Kr : T0) (h : H) : Prop := ∃ N, n15_L Kn Ke2 Ke1 Ke0 Kr N x0 x6b x6n x6c x7 x8 x9 x10 h
theorem n15_ok (x0 : List UInt8) (x6b : Option Addr) (x6n : Nat) (x6c : Nat) (x7 : Bool) (x8 : Int) (x9 : Int) (x10 : Bool) (Kn : T7) (Ke2 : T7) (Ke1 : T4) (Ke0 : T5) (Kr : T0) (g : Env) (hg : E7 g x0 x6b x6n x6c x7 x8 x9 x10) (h : H) (hS : n15 x0 x6b x6n x6c x7 x8 x9 x10 Kn Ke2 Ke1 Ke0 Kr h) : wpC none Tryd.prog 104 n14_c1 (Q6 Kn Ke2 Ke1 Ke0 Kr) g h := by
  obtain ⟨N0, hS⟩ := hS
  refine wpC_loop' (x := n15_c1) (by kernel_rfl) (fun k g h => ∃ (x0 : List UInt8) (x6b : Option Addr) (x6n : Nat) (x6c : Nat) (x7 : Bool) (x8 : Int) (x9 : Int) (x10 : Bool), E7 g x0 x6b x6n x6c x7 x8 x9 x10 ∧ n15_L Kn Ke2 Ke1 Ke0 Kr k x0 x6b x6n x6c x7 x8 x9 x10 h) (fun g h hr => ?_) (fun N g h hr => ?_) N0 ⟨x0, x6b, x6n, x6c, x7, x8, x9, x10, hg, hS⟩
  · obtain ⟨x0, x6b, x6n, x6c, x7, x8, x9, x10, hg, hS⟩ := hr
    exact hS.elim
  · obtain ⟨x0, x6b, x6n, x6c, x7, x8, x9, x10, hg, hS⟩ := hr
    have hw : wpC none Tryd.prog 104 n15_c1 (Q6 (fun z0 z6b z6n z6c z7 z8 z9 z10 h => n15_L Kn Ke2 Ke1 Ke0 Kr N z0 z6b z6n z6c z7 z8 z9 z10 h) Ke2 Ke1 Ke0 Kr) g h := by
      obtain ⟨hg0, hg6, hg7, hg8, hg9, hg10, hds⟩ := hg
      refine wpC_of_wpx (by kernel_rfl) (by kernel_rfl) (g' := ((((((⟨g.v, []⟩ : Env).upd (some 0) (S x0)).upd (some 6) (.slice x6b x6n x6c)).upd (some 7) (.bool x7)).upd (some 8) (.int .i64 x8)).upd (some 9) (.int .i64 x9)).upd (some 10) (.bool x10)) (by rw [env_ds hds, upd_self hg0, upd_self hg6, upd_self hg7, upd_self hg8, upd_self hg9, upd_self hg10]) ?_
      have e : (n15_L Kn Ke2 Ke1 Ke0 Kr (N + 1) x0 x6b x6n x6c x7 x8 x9 x10 h) = wpx none Tryd.prog 104 n15_c1 (Q6 (fun z0 z6b z6n z6c z7 z8 z9 z10 h => n15_L Kn Ke2 Ke1 Ke0 Kr N z0 z6b z6n z6c z7 z8 z9 z10 h) Ke2 Ke1 Ke0 Kr) (((((((⟨g.v, []⟩ : Env).upd (some 0) (S x0)).upd (some 6) (.slice x6b x6n x6c)).upd (some 7) (.bool x7)).upd (some 8) (.int .i64 x8)).upd (some 9) (.int .i64 x9)).upd (some 10) (.bool x10)) h := by kernel_rfl
      exact e ▸ hS
    refine hw.mono ?_
    intro e g' h' hq
    cases e with
    | normal => exact D7_ok (K := (fun z0 z6b z6n z6c z7 z8 z9 z10 h => n15_L Kn Ke2 Ke1 Ke0 Kr N z0 z6b z6n z6c z7 z8 z9 z10 h)) hq
    | _ => exact hq
abbrev n14 (x0 : List UInt8) (x6b : Option Addr) (x6n : Nat) (x6c : Nat) (x7 : Bool) (x8 : Int) (x9 : Int) (x10 : Bool) (Kn : T7) (Ke1 : T4) (Ke0 : T5) (Kr : T0) (h : H) : Prop := n15 x0 x6b x6n x6c x7 x8 x9 x10 Kn Kn Ke1 Ke0 Kr h
theorem n14_ok (x0 : List UInt8) (x6b : Option Addr) (x6n : Nat) (x6c : Nat) (x7 : Bool) (x8 : Int) (x9 : Int) (x10 : Bool) (Kn : T7) (Ke1 : T4) (Ke0 : T5) (Kr : T0) (g : Env) (hg : E7 g x0 x6b x6n x6c x7 x8 x9 x10) (h : H) (hS : n14 x0 x6b x6n x6c x7 x8 x9 x10 Kn Ke1 Ke0 Kr h) : wpC none Tryd.prog 104 n12_c1 (Q5 Kn Ke1 Ke0 Kr) g h := by
  refine wpC_block' (id := 2) (x := n14_c1) (by kernel_rfl) (n15_ok x0 x6b x6n x6c x7 x8 x9 x10 Kn Kn Ke1 Ke0 Kr g hg h hS) ?_
  intro e g' h' hq
  cases e <;> exact hq
abbrev n12 (x0 : List UInt8) (x6b : Option Addr) (x6n : Nat) (x6c : Nat) (x7 : Bool) (x8 : Int) (x9 : Int) (x10 : Bool) (Kn : T4) (Ke1 : T4) (Ke0 : T5) (Kr : T0) (h : H) : Prop := n14 x0 x6b x6n x6c x7 x8 x9 x10 (fun z0 z6b z6n z6c z7 z8 z9 z10 h => n13 z0 z6b z6n z6c z7 z8 z9 z10 Kn Ke1 Ke0 Kr h) Ke1 Ke0 Kr h
theorem n12_ok (x0 : List UInt8) (x6b : Option Addr) (x6n : Nat) (x6c : Nat) (x7 : Bool) (x8 : Int) (x9 : Int) (x10 : Bool) (Kn : T4) (Ke1 : T4) (Ke0 : T5) (Kr : T0) (g : Env) (hg : E7 g x0 x6b x6n x6c x7 x8 x9 x10) (h : H) (hS : n12 x0 x6b x6n x6c x7 x8 x9 x10 Kn Ke1 Ke0 Kr h) : wpC none Tryd.prog 104 n11_c2 (Q4 Kn Ke1 Ke0 Kr) g h := by
  refine wpC_seq' (x := n12_c1) (y := n12_c2) (by kernel_rfl) (n14_ok x0 x6b x6n x6c x7 x8 x9 x10 (fun z0 z6b z6n z6c z7 z8 z9 z10 h => n13 z0 z6b z6n z6c z7 z8 z9 z10 Kn Ke1 Ke0 Kr h) Ke1 Ke0 Kr g hg h hS) ?_
  intro e g' h' hq
  cases e with
  | normal =>
    have hq : D7 (fun z0 z6b z6n z6c z7 z8 z9 z10 h => n13 z0 z6b z6n z6c z7 z8 z9 z10 Kn Ke1 Ke0 Kr h) g' h' := hq
    obtain ⟨y0, y6b, y6n, y6c, y7, y8, y9, y10, hg', hq⟩ := D7_ok hq
    exact n13_ok y0 y6b y6n y6c y7 y8 y9 y10 Kn Ke1 Ke0 Kr g' hg' h' hq
  | _ => exact hq
abbrev n11 (x0 : List UInt8) (x6b : Option Addr) (x6n : Nat) (x6c : Nat) (x7 : Bool) (x8 : Int) (x9 : Int) (Kn : T4) (Ke1 : T4) (Ke0 : T5) (Kr : T0) (h : H) : Prop :=
  n12 x0 x6b x6n x6c x7 x8 x9 false Kn Ke1 Ke0 Kr h
theorem n11_ok (x0 : List UInt8) (x6b : Option Addr) (x6n : Nat) (x6c : Nat) (x7 : Bool) (x8 : Int) (x9 : Int) (Kn : T4) (Ke1 : T4) (Ke0 : T5) (Kr : T0) (g : Env) (hg : E6 g x0 x6b x6n x6c x7 x8 x9) (h : H) (hS : n11 x0 x6b x6n x6c x7 x8 x9 Kn Ke1 Ke0 Kr h) : wpC none Tryd.prog 104 n10_c2 (Q4 Kn Ke1 Ke0 Kr) g h := by
  obtain ⟨hg0, hg6, hg7, hg8, hg9, hds⟩ := hg
  refine wpC_seq' (x := n11_c1) (y := n11_c2) (Q' := (Q5 (fun z0 z6b z6n z6c z7 z8 z9 z10 h => n12 z0 z6b z6n z6c z7 z8 z9 z10 Kn Ke1 Ke0 Kr h) Ke1 Ke0 Kr)) (by kernel_rfl) ?_ ?_
  · refine wpC_of_wpx (by kernel_rfl) (by kernel_rfl) (g' := (((((⟨g.v, []⟩ : Env).upd (some 0) (S x0)).upd (some 6) (.slice x6b x6n x6c)).upd (some 7) (.bool x7)).upd (some 8) (.int .i64 x8)).upd (some 9) (.int .i64 x9)) (by rw [env_ds hds, upd_self hg0, upd_self hg6, upd_self hg7, upd_self hg8, upd_self hg9]) ?_
    have e : (n11 x0 x6b x6n x6c x7 x8 x9 Kn Ke1 Ke0 Kr h) = wpx none Tryd.prog 104 n11_c1 (Q5 (fun z0 z6b z6n z6c z7 z8 z9 z10 h => n12 z0 z6b z6n z6c z7 z8 z9 z10 Kn Ke1 Ke0 Kr h) Ke1 Ke0 Kr) ((((((⟨g.v, []⟩ : Env).upd (some 0) (S x0)).upd (some 6) (.slice x6b x6n x6c)).upd (some 7) (.bool x7)).upd (some 8) (.int .i64 x8)).upd (some 9) (.int .i64 x9)) h := by kernel_rfl
    exact e ▸ hS
  · intro e g' h' hq
    cases e with
    | normal =>
      have hq : D7 (fun z0 z6b z6n z6c z7 z8 z9 z10 h => n12 z0 z6b z6n z6c z7 z8 z9 z10 Kn Ke1 Ke0 Kr h) g' h' := hq
      obtain ⟨y0, y6b, y6n, y6c, y7, y8, y9, y10, hg', hq⟩ := D7_ok hq
      exact n12_ok y0 y6b y6n y6c y7 y8 y9 y10 Kn Ke1 Ke0 Kr g' hg' h' hq
    | _ => exact hq
def Q7 (Kn : T6) (Ke1 : T4) (Ke0 : T5) (Kr : T0) : XPost
  | .normal, g, h => D6 Kn g h
  | .ret, g, h => D0 Kr g h
  | .exit id, g, h => cond (Nat.beq id 1) (D4 Ke1 g h) (cond (Nat.beq id 0) (D5 Ke0 g h) (False))
  | _, _, _ => False
abbrev n10 (x0 : List UInt8) (x6b : Option Addr) (x6n : Nat) (x6c : Nat) (x7 : Bool) (x8 : Int) (Kn : T4) (Ke1 : T4) (Ke0 : T5) (Kr : T0) (h : H) : Prop :=
  n11 x0 x6b x6n x6c x7 x8 (0 : Int) Kn Ke1 Ke0 Kr h
theorem n10_ok (x0 : List UInt8) (x6b : Option Addr) (x6n : Nat) (x6c : Nat) (x7 : Bool) (x8 : Int) (Kn : T4) (Ke1 : T4) (Ke0 : T5) (Kr : T0) (g : Env) (hg : E4 g x0 x6b x6n x6c x7 x8) (h : H) (hS : n10 x0 x6b x6n x6c x7 x8 Kn Ke1 Ke0 Kr h) : wpC none Tryd.prog 104 n9_c1 (Q4 Kn Ke1 Ke0 Kr) g h := by
  obtain ⟨hg0, hg6, hg7, hg8, hds⟩ := hg
  refine wpC_seq' (x := n10_c1) (y := n10_c2) (Q' := (Q7 (fun z0 z6b z6n z6c z7 z8 z9 h => n11 z0 z6b z6n z6c z7 z8 z9 Kn Ke1 Ke0 Kr h) Ke1 Ke0 Kr)) (by kernel_rfl) ?_ ?_
  · refine wpC_of_wpx (by kernel_rfl) (by kernel_rfl) (g' := ((((⟨g.v, []⟩ : Env).upd (some 0) (S x0)).upd (some 6) (.slice x6b x6n x6c)).upd (some 7) (.bool x7)).upd (some 8) (.int .i64 x8)) (by rw [env_ds hds, upd_self hg0, upd_self hg6, upd_self hg7, upd_self hg8]) ?_
    have e : (n10 x0 x6b x6n x6c x7 x8 Kn Ke1 Ke0 Kr h) = wpx none Tryd.prog 104 n10_c1 (Q7 (fun z0 z6b z6n z6c z7 z8 z9 h => n11 z0 z6b z6n z6c z7 z8 z9 Kn Ke1 Ke0 Kr h) Ke1 Ke0 Kr) (((((⟨g.v, []⟩ : Env).upd (some 0) (S x0)).upd (some 6) (.slice x6b x6n x6c)).upd (some 7) (.bool x7)).upd (some 8) (.int .i64 x8)) h := by kernel_rfl
    exact e ▸ hS
  · intro e g' h' hq
    cases e with
    | normal =>
      have hq : D6 (fun z0 z6b z6n z6c z7 z8 z9 h => n11 z0 z6b z6n z6c z7 z8 z9 Kn Ke1 Ke0 Kr h) g' h' := hq
      obtain ⟨y0, y6b, y6n, y6c, y7, y8, y9, hg', hq⟩ := D6_ok hq
      exact n11_ok y0 y6b y6n y6c y7 y8 y9 Kn Ke1 Ke0 Kr g' hg' h' hq
    | _ => exact hq
abbrev n9 (x0 : List UInt8) (x6b : Option Addr) (x6n : Nat) (x6c : Nat) (x7 : Bool) (x8 : Int) (Kn : T4) (Ke0 : T5) (Kr : T0) (h : H) : Prop := n10 x0 x6b x6n x6c x7 x8 Kn Kn Ke0 Kr h
theorem n9_ok (x0 : List UInt8) (x6b : Option Addr) (x6n : Nat) (x6c : Nat) (x7 : Bool) (x8 : Int) (Kn : T4) (Ke0 : T5) (Kr : T0) (g : Env) (hg : E4 g x0 x6b x6n x6c x7 x8) (h : H) (hS : n9 x0 x6b x6n x6c x7 x8 Kn Ke0 Kr h) : wpC none Tryd.prog 104 n8_c1 (Q3 Kn Ke0 Kr) g h := by
  refine wpC_block' (id := 1) (x := n9_c1) (by kernel_rfl) (n10_ok x0 x6b x6n x6c x7 x8 Kn Kn Ke0 Kr g hg h hS) ?_
  intro e g' h' hq
  cases e <;> exact hq
def n8_L (Kn : T5) (Ke0 : T5) (Kr : T0) : Nat → (List UInt8) → (Option Addr) → Nat → Nat → Bool → Int → H → Prop
  | 0 => fun _ _ _ _ _ _ _ => False
  | N + 1 => fun x0 x6b x6n x6c x7 x8 h => n9 x0 x6b x6n x6c x7 x8 (fun z0 z6b z6n z6c z7 z8 h => n8_L Kn Ke0 Kr N z0 z6b z6n z6c z7 z8 h) Ke0 Kr h
abbrev n8 (x0 : List UInt8) (x6b : Option Addr) (x6n : Nat) (x6c : Nat) (x7 : Bool) (x8 : Int) (Kn : T5) (Ke0 : T5) (Kr : T0) (h : H) : Prop := ∃ N, n8_L Kn Ke0 Kr N x0 x6b x6n x6c x7 x8 h
theorem n8_ok (x0 : List UInt8) (x6b : Option Addr) (x6n : Nat) (x6c : Nat) (x7 : Bool) (x8 : Int) (Kn : T5) (Ke0 : T5) (Kr : T0) (g : Env) (hg : E4 g x0 x6b x6n x6c x7 x8) (h : H) (hS : n8 x0 x6b x6n x6c x7 x8 Kn Ke0 Kr h) : wpC none Tryd.prog 104 n7_c1 (Q2 Kn Ke0 Kr) g h := by
  obtain ⟨N0, hS⟩ := hS
  refine wpC_loop' (x := n8_c1) (by kernel_rfl) (fun k g h => ∃ (x0 : List UInt8) (x6b : Option Addr) (x6n : Nat) (x6c : Nat) (x7 : Bool) (x8 : Int), E4 g x0 x6b x6n x6c x7 x8 ∧ n8_L Kn Ke0 Kr k x0 x6b x6n x6c x7 x8 h) (fun g h hr => ?_) (fun N g h hr => ?_) N0 ⟨x0, x6b, x6n, x6c, x7, x8, hg, hS⟩
  · obtain ⟨x0, x6b, x6n, x6c, x7, x8, hg, hS⟩ := hr
    exact hS.elim
  · obtain ⟨x0, x6b, x6n, x6c, x7, x8, hg, hS⟩ := hr
    refine (n9_ok x0 x6b x6n x6c x7 x8 (fun z0 z6b z6n z6c z7 z8 h => n8_L Kn Ke0 Kr N z0 z6b z6n z6c z7 z8 h) Ke0 Kr g hg h hS).mono ?_
    intro e g' h' hq
    cases e with
    | normal => exact D4_ok (K := (fun z0 z6b z6n z6c z7 z8 h => n8_L Kn Ke0 Kr N z0 z6b z6n z6c z7 z8 h)) hq
    | _ => exact hq
abbrev n7 (x0 : List UInt8) (x6b : Option Addr) (x6n : Nat) (x6c : Nat) (x7 : Bool) (x8 : Int) (Kn : T5) (Kr : T0) (h : H) : Prop := n8 x0 x6b x6n x6c x7 x8 Kn Kn Kr h
theorem n7_ok (x0 : List UInt8) (x6b : Option Addr) (x6n : Nat) (x6c : Nat) (x7 : Bool) (x8 : Int) (Kn : T5) (Kr : T0) (g : Env) (hg : E4 g x0 x6b x6n x6c x7 x8) (h : H) (hS : n7 x0 x6b x6n x6c x7 x8 Kn Kr h) : wpC none Tryd.prog 104 n5_c1 (Q1 Kn Kr) g h := by
  refine wpC_block' (id := 0) (x := n7_c1) (by kernel_rfl) (n8_ok x0 x6b x6n x6c x7 x8 Kn Kn Kr g hg h hS) ?_
  intro e g' h' hq
  cases e <;> exact hq
abbrev n5 (x0 : List UInt8) (x6b : Option Addr) (x6n : Nat) (x6c : Nat) (x7 : Bool) (x8 : Int) (Kn : T0) (Kr : T0) (h : H) : Prop := n7 x0 x6b x6n x6c x7 x8 (fun z6b z6n z6c z7 z8 h => n6 z6b z6n z6c z7 z8 Kn Kr h) Kr h
theorem n5_ok (x0 : List UInt8) (x6b : Option Addr) (x6n : Nat) (x6c : Nat) (x7 : Bool) (x8 : Int) (Kn : T0) (Kr : T0) (g : Env) (hg : E4 g x0 x6b x6n x6c x7 x8) (h : H) (hS : n5 x0 x6b x6n x6c x7 x8 Kn Kr h) : wpC none Tryd.prog 104 n4_c2 (Q0 Kn Kr) g h := by
  refine wpC_seq' (x := n5_c1) (y := n5_c2) (by kernel_rfl) (n7_ok x0 x6b x6n x6c x7 x8 (fun z6b z6n z6c z7 z8 h => n6 z6b z6n z6c z7 z8 Kn Kr h) Kr g hg h hS) ?_
  intro e g' h' hq
  cases e with
  | normal =>
    have hq : D5 (fun z6b z6n z6c z7 z8 h => n6 z6b z6n z6c z7 z8 Kn Kr h) g' h' := hq
    obtain ⟨y6b, y6n, y6c, y7, y8, hg', hq⟩ := D5_ok hq
    exact n6_ok y6b y6n y6c y7 y8 Kn Kr g' hg' h' hq
  | _ => exact hq
def Q8 (Kn : T4) (Kr : T0) : XPost
  | .normal, g, h => D4 Kn g h
  | .ret, g, h => D0 Kr g h
  | _, _, _ => False
abbrev n4 (x0 : List UInt8) (x1 : Int) (x6b : Option Addr) (x6n : Nat) (x6c : Nat) (x7 : Bool) (Kn : T0) (Kr : T0) (h : H) : Prop :=
  n5 x0 x6b x6n x6c x7 x1 Kn Kr h
theorem n4_ok (x0 : List UInt8) (x1 : Int) (x6b : Option Addr) (x6n : Nat) (x6c : Nat) (x7 : Bool) (Kn : T0) (Kr : T0) (g : Env) (hg : E3 g x0 x1 x6b x6n x6c x7) (h : H) (hS : n4 x0 x1 x6b x6n x6c x7 Kn Kr h) : wpC none Tryd.prog 104 n3_c2 (Q0 Kn Kr) g h := by
  obtain ⟨hg0, hg1, hg6, hg7, hds⟩ := hg
  refine wpC_seq' (x := n4_c1) (y := n4_c2) (Q' := (Q8 (fun z0 z6b z6n z6c z7 z8 h => n5 z0 z6b z6n z6c z7 z8 Kn Kr h) Kr)) (by kernel_rfl) ?_ ?_
  · refine wpC_of_wpx (by kernel_rfl) (by kernel_rfl) (g' := ((((⟨g.v, []⟩ : Env).upd (some 0) (S x0)).upd (some 1) (.int .i64 x1)).upd (some 6) (.slice x6b x6n x6c)).upd (some 7) (.bool x7)) (by rw [env_ds hds, upd_self hg0, upd_self hg1, upd_self hg6, upd_self hg7]) ?_
    have e : (n4 x0 x1 x6b x6n x6c x7 Kn Kr h) = wpx none Tryd.prog 104 n4_c1 (Q8 (fun z0 z6b z6n z6c z7 z8 h => n5 z0 z6b z6n z6c z7 z8 Kn Kr h) Kr) (((((⟨g.v, []⟩ : Env).upd (some 0) (S x0)).upd (some 1) (.int .i64 x1)).upd (some 6) (.slice x6b x6n x6c)).upd (some 7) (.bool x7)) h := by kernel_rfl
    exact e ▸ hS
  · intro e g' h' hq
    cases e with
    | normal =>
      have hq : D4 (fun z0 z6b z6n z6c z7 z8 h => n5 z0 z6b z6n z6c z7 z8 Kn Kr h) g' h' := hq
      obtain ⟨y0, y6b, y6n, y6c, y7, y8, hg', hq⟩ := D4_ok hq
      exact n5_ok y0 y6b y6n y6c y7 y8 Kn Kr g' hg' h' hq
    | _ => exact hq
def Q9 (Kn : T3) (Kr : T0) : XPost
  | .normal, g, h => D3 Kn g h
  | .ret, g, h => D0 Kr g h
  | _, _, _ => False
abbrev n3 (x0 : List UInt8) (x1 : Int) (x6b : Option Addr) (x6n : Nat) (x6c : Nat) (Kn : T0) (Kr : T0) (h : H) : Prop :=
  n4 x0 x1 x6b x6n x6c false Kn Kr h
theorem n3_ok (x0 : List UInt8) (x1 : Int) (x6b : Option Addr) (x6n : Nat) (x6c : Nat) (Kn : T0) (Kr : T0) (g : Env) (hg : E2 g x0 x1 x6b x6n x6c) (h : H) (hS : n3 x0 x1 x6b x6n x6c Kn Kr h) : wpC none Tryd.prog 104 n2_c2 (Q0 Kn Kr) g h := by
  obtain ⟨hg0, hg1, hg6, hds⟩ := hg
  refine wpC_seq' (x := n3_c1) (y := n3_c2) (Q' := (Q9 (fun z0 z1 z6b z6n z6c z7 h => n4 z0 z1 z6b z6n z6c z7 Kn Kr h) Kr)) (by kernel_rfl) ?_ ?_
  · refine wpC_of_wpx (by kernel_rfl) (by kernel_rfl) (g' := (((⟨g.v, []⟩ : Env).upd (some 0) (S x0)).upd (some 1) (.int .i64 x1)).upd (some 6) (.slice x6b x6n x6c)) (by rw [env_ds hds, upd_self hg0, upd_self hg1, upd_self hg6]) ?_
    have e : (n3 x0 x1 x6b x6n x6c Kn Kr h) = wpx none Tryd.prog 104 n3_c1 (Q9 (fun z0 z1 z6b z6n z6c z7 h => n4 z0 z1 z6b z6n z6c z7 Kn Kr h) Kr) ((((⟨g.v, []⟩ : Env).upd (some 0) (S x0)).upd (some 1) (.int .i64 x1)).upd (some 6) (.slice x6b x6n x6c)) h := by kernel_rfl
    exact e ▸ hS
  · intro e g' h' hq
    cases e with
    | normal =>
      have hq : D3 (fun z0 z1 z6b z6n z6c z7 h => n4 z0 z1 z6b z6n z6c z7 Kn Kr h) g' h' := hq
      obtain ⟨y0, y1, y6b, y6n, y6c, y7, hg', hq⟩ := D3_ok hq
      exact n4_ok y0 y1 y6b y6n y6c y7 Kn Kr g' hg' h' hq
    | _ => exact hq
def Q10 (Kn : T2) (Kr : T0) : XPost
  | .normal, g, h => D2 Kn g h
  | .ret, g, h => D0 Kr g h
  | _, _, _ => False
abbrev n2 (x0 : List UInt8) (x1 : Int) (Kn : T0) (Kr : T0) (h : H) : Prop :=
  n3 x0 x1 none 0 0 Kn Kr h
theorem n2_ok (x0 : List UInt8) (x1 : Int) (Kn : T0) (Kr : T0) (g : Env) (hg : E1 g x0 x1) (h : H) (hS : n2 x0 x1 Kn Kr h) : wpC none Tryd.prog 104 n1_c2 (Q0 Kn Kr) g h := by
  obtain ⟨hg0, hg1, hds⟩ := hg
  refine wpC_seq' (x := n2_c1) (y := n2_c2) (Q' := (Q10 (fun z0 z1 z6b z6n z6c h => n3 z0 z1 z6b z6n z6c Kn Kr h) Kr)) (by kernel_rfl) ?_ ?_
  · refine wpC_of_wpx (by kernel_rfl) (by kernel_rfl) (g' := ((⟨g.v, []⟩ : Env).upd (some 0) (S x0)).upd (some 1) (.int .i64 x1)) (by rw [env_ds hds, upd_self hg0, upd_self hg1]) ?_
    have e : (n2 x0 x1 Kn Kr h) = wpx none Tryd.prog 104 n2_c1 (Q10 (fun z0 z1 z6b z6n z6c h => n3 z0 z1 z6b z6n z6c Kn Kr h) Kr) (((⟨g.v, []⟩ : Env).upd (some 0) (S x0)).upd (some 1) (.int .i64 x1)) h := by kernel_rfl
    exact e ▸ hS
  · intro e g' h' hq
    cases e with
    | normal =>
      have hq : D2 (fun z0 z1 z6b z6n z6c h => n3 z0 z1 z6b z6n z6c Kn Kr h) g' h' := hq
      obtain ⟨y0, y1, y6b, y6n, y6c, hg', hq⟩ := D2_ok hq
      exact n3_ok y0 y1 y6b y6n y6c Kn Kr g' hg' h' hq
    | _ => exact hq
def Q11 (Kn : T1) (Kr : T0) : XPost
  | .normal, g, h => D1 Kn g h
  | .ret, g, h => D0 Kr g h
  | _, _, _ => False
abbrev n1 (x0 : List UInt8) (x1 : Int) (Kn : T0) (Kr : T0) (h : H) : Prop :=
  n2 x0 x1 Kn Kr h
theorem n1_ok (x0 : List UInt8) (x1 : Int) (Kn : T0) (Kr : T0) (g : Env) (hg : E1 g x0 x1) (h : H) (hS : n1 x0 x1 Kn Kr h) : wpC none Tryd.prog 104 code (Q0 Kn Kr) g h := by
  obtain ⟨hg0, hg1, hds⟩ := hg
  refine wpC_seq' (x := n1_c1) (y := n1_c2) (Q' := (Q11 (fun z0 z1 h => n2 z0 z1 Kn Kr h) Kr)) (by kernel_rfl) ?_ ?_
  · refine wpC_of_wpx (by kernel_rfl) (by kernel_rfl) (g' := ((⟨g.v, []⟩ : Env).upd (some 0) (S x0)).upd (some 1) (.int .i64 x1)) (by rw [env_ds hds, upd_self hg0, upd_self hg1]) ?_
    have e : (n1 x0 x1 Kn Kr h) = wpx none Tryd.prog 104 n1_c1 (Q11 (fun z0 z1 h => n2 z0 z1 Kn Kr h) Kr) (((⟨g.v, []⟩ : Env).upd (some 0) (S x0)).upd (some 1) (.int .i64 x1)) h := by kernel_rfl
    exact e ▸ hS
  · intro e g' h' hq
    cases e with
    | normal =>
      have hq : D1 (fun z0 z1 h => n2 z0 z1 Kn Kr h) g' h' := hq
      obtain ⟨y0, y1, hg', hq⟩ := D1_ok hq
      exact n2_ok y0 y1 Kn Kr g' hg' h' hq
    | _ => exact hq
/-- WHAT tympan/tympanref28.domain ASKS -/
abbrev asks (x0 : List UInt8) (x1 : Int) (K : Value → H → Prop) (h : H) : Prop := n1 x0 x1 (fun y4 y5 h => K (.tuple ⟨[(.int .i64 y4), (.bool y5)]⟩) h) (fun y4 y5 h => K (.tuple ⟨[(.int .i64 y4), (.bool y5)]⟩) h) h
theorem ok (x0 : List UInt8) (x1 : Int) (K : Value → H → Prop) (h : H) (hS : asks x0 x1 K h) : HCalls Tryd.prog 24 ⟨[(S x0), (.int .i64 x1)]⟩ h K := by
  refine calls_of_wpC (c := code) Tryd.func24 (by kernel_rfl) (Nat.le_of_ble_eq_true (by kernel_rfl)) ?_
  refine (n1_ok x0 x1 (fun y4 y5 h => K (.tuple ⟨[(.int .i64 y4), (.bool y5)]⟩) h) (fun y4 y5 h => K (.tuple ⟨[(.int .i64 y4), (.bool y5)]⟩) h) (env0 [(S x0), (.int .i64 x1)]) ⟨rfl, rfl, rfl⟩ h hS).mono ?_
  intro e g' h' hq
  cases e with
  | normal =>
    have hq : D0 (fun y4 y5 h => K (.tuple ⟨[(.int .i64 y4), (.bool y5)]⟩) h) g' h' := hq
    obtain ⟨y4, y5, ⟨hg4, hg5, hd⟩, hq⟩ := D0_ok hq
    show leaveX g'.ds h' _
    rw [hd]
    show K (.tuple ⟨[(g'.v 4), (g'.v 5)]⟩) h'
    rw [hg4, hg5]
    exact hq
  | ret =>
    have hq : D0 (fun y4 y5 h => K (.tuple ⟨[(.int .i64 y4), (.bool y5)]⟩) h) g' h' := hq
    obtain ⟨y4, y5, ⟨hg4, hg5, hd⟩, hq⟩ := D0_ok hq
    show leaveX g'.ds h' _
    rw [hd]
    show K (.tuple ⟨[(g'.v 4), (g'.v 5)]⟩) h'
    rw [hg4, hg5]
    exact hq
  | _ => exact hq
end Sx.r28_domain

/-! ### tympan/tympanref28.cut -/
namespace Sx.r28_cut
noncomputable def code : Code := bodyOf Tryd.f26
abbrev T0 := (List UInt8) → H → Prop
def E0 (g : Env) (x4 : List UInt8) : Prop := g.v 4 = (S x4) ∧ g.ds = []
def D0 (K : T0) (g : Env) (h : H) : Prop := nilDs g.ds (vStr (g.v 4) fun s1 => K s1 h)
theorem D0_ok {K : T0} {g : Env} {h : H} (hq : D0 K g h) : ∃ (x4 : List UInt8), E0 g x4 ∧ K x4 h := by
  obtain ⟨hd, hq⟩ := nilDs_ok hq
  obtain ⟨y3, e2, q4⟩ := vStr_ok hq
  exact ⟨y3, ⟨e2, hd⟩, q4⟩
def Q0 (Kn : T0) (Kr : T0) : XPost
  | .normal, g, h => D0 Kn g h
  | .ret, g, h => D0 Kr g h
  | _, _, _ => False
abbrev T1 := (List UInt8) → Int → H → Prop
def E1 (g : Env) (x0 : List UInt8) (x1 : Int) : Prop := g.v 0 = (S x0) ∧ g.v 1 = (.int .i64 x1) ∧ g.ds = []
def D1 (K : T1) (g : Env) (h : H) : Prop := nilDs g.ds (vStr (g.v 0) fun s5 => vInt .i64 (g.v 1) fun i6 => K s5 i6 h)
theorem D1_ok {K : T1} {g : Env} {h : H} (hq : D1 K g h) : ∃ (x0 : List UInt8) (x1 : Int), E1 g x0 x1 ∧ K x0 x1 h := by
  obtain ⟨hd, hq⟩ := nilDs_ok hq
  obtain ⟨y8, e7, q9⟩ := vStr_ok hq
  obtain ⟨y11, e10, q12⟩ := vInt_ok q9
  exact ⟨y8, y11, ⟨e7, e10, hd⟩, q12⟩
noncomputable def n1_c1 : Code := cFst code
noncomputable def n1_c2 : Code := cSnd code
noncomputable def n2_c1 : Code := cFst n1_c2
noncomputable def n2_c2 : Code := cSnd n1_c2
abbrev T2 := (List UInt8) → H → Prop
def E2 (g : Env) (x0 : List UInt8) : Prop := g.v 0 = (S x0) ∧ g.ds = []
def D2 (K : T2) (g : Env) (h : H) : Prop := nilDs g.ds (vStr (g.v 0) fun s13 => K s13 h)
theorem D2_ok {K : T2} {g : Env} {h : H} (hq : D2 K g h) : ∃ (x0 : List UInt8), E2 g x0 ∧ K x0 h := by
  obtain ⟨hd, hq⟩ := nilDs_ok hq
  obtain ⟨y15, e14, q16⟩ := vStr_ok hq
  exact ⟨y15, ⟨e14, hd⟩, q16⟩
abbrev n3 (x0 : List UInt8) (Kn : T0) (Kr : T0) (h : H) : Prop :=
  Kr x0 h
theorem n3_ok (x0 : List UInt8) (Kn : T0) (Kr : T0) (g : Env) (hg : E2 g x0) (h : H) (hS : n3 x0 Kn Kr h) : wpC none Tryd.prog 84 n2_c2 (Q0 Kn Kr) g h := by
  obtain ⟨hg0, hds⟩ := hg
  refine wpC_of_wpx (by kernel_rfl) (by kernel_rfl) (g' := (⟨g.v, []⟩ : Env).upd (some 0) (S x0)) (by rw [env_ds hds, upd_self hg0]) ?_
  have e : (n3 x0 Kn Kr h) = wpx none Tryd.prog 84 n2_c2 (Q0 Kn Kr) ((⟨g.v, []⟩ : Env).upd (some 0) (S x0)) h := by kernel_rfl
  exact e ▸ hS
def Q1 (Kn : T2) (Kr : T0) : XPost
  | .normal, g, h => D2 Kn g h
  | .ret, g, h => D0 Kr g h
  | _, _, _ => False
noncomputable def n4_c1 : Code := cFst n2_c1
def Q2 (Kn : T2) (Ke0 : T2) (Kr : T0) : XPost
  | .normal, g, h => D2 Kn g h
  | .ret, g, h => D0 Kr g h
  | .exit id, g, h => cond (Nat.beq id 0) (D2 Ke0 g h) (False)
  | _, _, _ => False
noncomputable def n5_c1 : Code := cFst n4_c1
def Q3 (Kn : T1) (Ke0 : T2) (Kr : T0) : XPost
  | .normal, g, h => D1 Kn g h
  | .ret, g, h => D0 Kr g h
  | .exit id, g, h => cond (Nat.beq id 0) (D2 Ke0 g h) (False)
  | _, _, _ => False
noncomputable def n6_c1 : Code := cFst n5_c1
noncomputable def n6_c2 : Code := cSnd n5_c1
noncomputable def n7_c1 : Code := cFst n6_c2
def Q4 (Kn : T1) (Ke1 : T1) (Ke0 : T2) (Kr : T0) : XPost
  | .normal, g, h => D1 Kn g h
  | .ret, g, h => D0 Kr g h
  | .exit id, g, h => cond (Nat.beq id 1) (D1 Ke1 g h) (cond (Nat.beq id 0) (D2 Ke0 g h) (False))
  | _, _, _ => False
noncomputable def n8_c1 : Code := cFst n7_c1
noncomputable def n8_c2 : Code := cSnd n7_c1
abbrev T3 := (List UInt8) → Int → Int → H → Prop
def E3 (g : Env) (x0 : List UInt8) (x1 : Int) (x5 : Int) : Prop := g.v 0 = (S x0) ∧ g.v 1 = (.int .i64 x1) ∧ g.v 5 = (.int .i64 x5) ∧ g.ds = []
def D3 (K : T3) (g : Env) (h : H) : Prop := nilDs g.ds (vStr (g.v 0) fun s17 => vInt .i64 (g.v 1) fun i18 => vInt .i64 (g.v 5) fun i19 => K s17 i18 i19 h)
theorem D3_ok {K : T3} {g : Env} {h : H} (hq : D3 K g h) : ∃ (x0 : List UInt8) (x1 : Int) (x5 : Int), E3 g x0 x1 x5 ∧ K x0 x1 x5 h := by
  obtain ⟨hd, hq⟩ := nilDs_ok hq
  obtain ⟨y21, e20, q22⟩ := vStr_ok hq
  obtain ⟨y24, e23, q25⟩ := vInt_ok q22
  obtain ⟨y27, e26, q28⟩ := vInt_ok q25
  exact ⟨y21, y24, y27, ⟨e20, e23, e26, hd⟩, q28⟩
noncomputable def n9_c1 : Code := cFst n8_c2
noncomputable def n9_c2 : Code := cSnd n8_c2
abbrev T4 := (List UInt8) → Int → Int → Int → H → Prop
def E4 (g : Env) (x0 : List UInt8) (x1 : Int) (x5 : Int) (x6 : Int) : Prop := g.v 0 = (S x0) ∧ g.v 1 = (.int .i64 x1) ∧ g.v 5 = (.int .i64 x5) ∧ g.v 6 = (.int .u8 x6) ∧ g.ds = []
def D4 (K : T4) (g : Env) (h : H) : Prop := nilDs g.ds (vStr (g.v 0) fun s29 => vInt .i64 (g.v 1) fun i30 => vInt .i64 (g.v 5) fun i31 => vInt .u8 (g.v 6) fun i32 => K s29 i30 i31 i32 h)
theorem D4_ok {K : T4} {g : Env} {h : H} (hq : D4 K g h) : ∃ (x0 : List UInt8) (x1 : Int) (x5 : Int) (x6 : Int), E4 g x0 x1 x5 x6 ∧ K x0 x1 x5 x6 h := by
  obtain ⟨hd, hq⟩ := nilDs_ok hq
  obtain ⟨y34, e33, q35⟩ := vStr_ok hq
  obtain ⟨y37, e36, q38⟩ := vInt_ok q35
  obtain ⟨y40, e39, q41⟩ := vInt_ok q38
  obtain ⟨y43, e42, q44⟩ := vInt_ok q41
  exact ⟨y34, y37, y40, y43, ⟨e33, e36, e39, e42, hd⟩, q44⟩
noncomputable def n10_c1 : Code := cFst n9_c2
noncomputable def n10_c2 : Code := cSnd n9_c2
abbrev T5 := (List UInt8) → Int → Int → Int → Int → H → Prop
def E5 (g : Env) (x0 : List UInt8) (x1 : Int) (x5 : Int) (x6 : Int) (x7 : Int) : Prop := g.v 0 = (S x0) ∧ g.v 1 = (.int .i64 x1) ∧ g.v 5 = (.int .i64 x5) ∧ g.v 6 = (.int .u8 x6) ∧ g.v 7 = (.int .i64 x7) ∧ g.ds = []
def D5 (K : T5) (g : Env) (h : H) : Prop := nilDs g.ds (vStr (g.v 0) fun s45 => vInt .i64 (g.v 1) fun i46 => vInt .i64 (g.v 5) fun i47 => vInt .u8 (g.v 6) fun i48 => vInt .i64 (g.v 7) fun i49 => K s45 i46 i47 i48 i49 h)
theorem D5_ok {K : T5} {g : Env} {h : H} (hq : D5 K g h) : ∃ (x0 : List UInt8) (x1 : Int) (x5 : Int) (x6 : Int) (x7 : Int), E5 g x0 x1 x5 x6 x7 ∧ K x0 x1 x5 x6 x7 h := by
  obtain ⟨hd, hq⟩ := nilDs_ok hq
  obtain ⟨y51, e50, q52⟩ := vStr_ok hq
  obtain ⟨y54, e53, q55⟩ := vInt_ok q52
  obtain ⟨y57, e56, q58⟩ := vInt_ok q55
  obtain ⟨y60, e59, q61⟩ := vInt_ok q58
  obtain ⟨y63, e62, q64⟩ := vInt_ok q61
  exact ⟨y51, y54, y57, y60, y63, ⟨e50, e53, e56, e59, e62, hd⟩, q64⟩
noncomputable def n11_c1 : Code := cFst n10_c2
noncomputable def n11_c2 : Code := cSnd n10_c2
noncomputable def n12_c1 : Code := cFst n11_c2
def Q5 (Kn : T1) (Ke4 : T1) (Ke1 : T1) (Ke0 : T2) (Kr : T0) : XPost
  | .normal, g, h => D1 Kn g h
  | .ret, g, h => D0 Kr g h
  | .exit id, g, h => cond (Nat.beq id 4) (D1 Ke4 g h) (cond (Nat.beq id 1) (D1 Ke1 g h) (cond (Nat.beq id 0) (D2 Ke0 g h) (False)))
  | _, _, _ => False
noncomputable def n13_c1 : Code := cFst n12_c1
noncomputable def n13_c2 : Code := cSnd n12_c1
abbrev T6 := (List UInt8) → Int → Int → Int → Int → Bool → H → Prop
def E6 (g : Env) (x0 : List UInt8) (x1 : Int) (x5 : Int) (x6 : Int) (x7 : Int) (x32 : Bool) : Prop := g.v 0 = (S x0) ∧ g.v 1 = (.int .i64 x1) ∧ g.v 5 = (.int .i64 x5) ∧ g.v 6 = (.int .u8 x6) ∧ g.v 7 = (.int .i64 x7) ∧ g.v 32 = (.bool x32) ∧ g.ds = []
def D6 (K : T6) (g : Env) (h : H) : Prop := nilDs g.ds (vStr (g.v 0) fun s65 => vInt .i64 (g.v 1) fun i66 => vInt .i64 (g.v 5) fun i67 => vInt .u8 (g.v 6) fun i68 => vInt .i64 (g.v 7) fun i69 => vBool (g.v 32) fun b70 => K s65 i66 i67 i68 i69 b70 h)
theorem D6_ok {K : T6} {g : Env} {h : H} (hq : D6 K g h) : ∃ (x0 : List UInt8) (x1 : Int) (x5 : Int) (x6 : Int) (x7 : Int) (x32 : Bool), E6 g x0 x1 x5 x6 x7 x32 ∧ K x0 x1 x5 x6 x7 x32 h := by
  obtain ⟨hd, hq⟩ := nilDs_ok hq
  obtain ⟨y72, e71, q73⟩ := vStr_ok hq
  obtain ⟨y75, e74, q76⟩ := vInt_ok q73
  obtain ⟨y78, e77, q79⟩ := vInt_ok q76
  obtain ⟨y81, e80, q82⟩ := vInt_ok q79
  obtain ⟨y84, e83, q85⟩ := vInt_ok q82
  obtain ⟨y87, e86, q88⟩ := vBool_ok q85
  exact ⟨y72, y75, y78, y81, y84, y87, ⟨e71, e74, e77, e80, e83, e86, hd⟩, q88⟩
noncomputable def n14_c1 : Code := cFst n13_c2
noncomputable def n14_c2 : Code := cSnd n13_c2
abbrev n15 (x0 : List UInt8) (x1 : Int) (x5 : Int) (Kn : T1) (Ke4 : T1) (Ke1 : T1) (Ke0 : T2) (Kr : T0) (h : H) : Prop :=
  Rng .i64 (x5 - (1 : Int)) ∧ ((0 ≤ (0 : Int) ∧ (0 : Int) ≤ (x5 - (1 : Int)) ∧ (x5 - (1 : Int)) ≤ (x0.length : Int)) ∧ (Kn (sub x0 (0 : Int) (x5 - (1 : Int))) x1 h))
theorem n15_ok (x0 : List UInt8) (x1 : Int) (x5 : Int) (Kn : T1) (Ke4 : T1) (Ke1 : T1) (Ke0 : T2) (Kr : T0) (g : Env) (hg : E3 g x0 x1 x5) (h : H) (hS : n15 x0 x1 x5 Kn Ke4 Ke1 Ke0 Kr h) : wpC none Tryd.prog 84 n14_c1 (Q5 Kn Ke4 Ke1 Ke0 Kr) g h := by
  obtain ⟨hg0, hg1, hg5, hds⟩ := hg
  refine wpC_of_wpx (by kernel_rfl) (by kernel_rfl) (g' := (((⟨g.v, []⟩ : Env).upd (some 0) (S x0)).upd (some 1) (.int .i64 x1)).upd (some 5) (.int .i64 x5)) (by rw [env_ds hds, upd_self hg0, upd_self hg1, upd_self hg5]) ?_
  have e : (n15 x0 x1 x5 Kn Ke4 Ke1 Ke0 Kr h) = wpx none Tryd.prog 84 n14_c1 (Q5 Kn Ke4 Ke1 Ke0 Kr) ((((⟨g.v, []⟩ : Env).upd (some 0) (S x0)).upd (some 1) (.int .i64 x1)).upd (some 5) (.int .i64 x5)) h := by kernel_rfl
  exact e ▸ hS
noncomputable def n16_c1 : Code := cFst n14_c2
noncomputable def n16_c2 : Code := cSnd n14_c2
abbrev T7 := (List UInt8) → Int → Int → Int → Int → Bool → H → Prop
def E7 (g : Env) (x0 : List UInt8) (x1 : Int) (x5 : Int) (x6 : Int) (x7 : Int) (x39 : Bool) : Prop := g.v 0 = (S x0) ∧ g.v 1 = (.int .i64 x1) ∧ g.v 5 = (.int .i64 x5) ∧ g.v 6 = (.int .u8 x6) ∧ g.v 7 = (.int .i64 x7) ∧ g.v 39 = (.bool x39) ∧ g.ds = []
def D7 (K : T7) (g : Env) (h : H) : Prop := nilDs g.ds (vStr (g.v 0) fun s89 => vInt .i64 (g.v 1) fun i90 => vInt .i64 (g.v 5) fun i91 => vInt .u8 (g.v 6) fun i92 => vInt .i64 (g.v 7) fun i93 => vBool (g.v 39) fun b94 => K s89 i90 i91 i92 i93 b94 h)
theorem D7_ok {K : T7} {g : Env} {h : H} (hq : D7 K g h) : ∃ (x0 : List UInt8) (x1 : Int) (x5 : Int) (x6 : Int) (x7 : Int) (x39 : Bool), E7 g x0 x1 x5 x6 x7 x39 ∧ K x0 x1 x5 x6 x7 x39 h := by
  obtain ⟨hd, hq⟩ := nilDs_ok hq
  obtain ⟨y96, e95, q97⟩ := vStr_ok hq
  obtain ⟨y99, e98, q100⟩ := vInt_ok q97
  obtain ⟨y102, e101, q103⟩ := vInt_ok q100
  obtain ⟨y105, e104, q106⟩ := vInt_ok q103
  obtain ⟨y108, e107, q109⟩ := vInt_ok q106
  obtain ⟨y111, e110, q112⟩ := vBool_ok q109
  exact ⟨y96, y99, y102, y105, y108, y111, ⟨e95, e98, e101, e104, e107, e110, hd⟩, q112⟩
noncomputable def n17_c1 : Code := cFst n16_c2
noncomputable def n17_c2 : Code := cSnd n16_c2
abbrev n18 (x0 : List UInt8) (x1 : Int) (x5 : Int) (Kn : T1) (Ke4 : T1) (Ke1 : T1) (Ke0 : T2) (Kr : T0) (h : H) : Prop :=
  Rng .i64 (x5 - (1 : Int)) ∧ ((0 ≤ (0 : Int) ∧ (0 : Int) ≤ (x5 - (1 : Int)) ∧ (x5 - (1 : Int)) ≤ (x0.length : Int)) ∧ (Kn (sub x0 (0 : Int) (x5 - (1 : Int))) x1 h))
theorem n18_ok (x0 : List UInt8) (x1 : Int) (x5 : Int) (Kn : T1) (Ke4 : T1) (Ke1 : T1) (Ke0 : T2) (Kr : T0) (g : Env) (hg : E3 g x0 x1 x5) (h : H) (hS : n18 x0 x1 x5 Kn Ke4 Ke1 Ke0 Kr h) : wpC none Tryd.prog 84 n17_c1 (Q5 Kn Ke4 Ke1 Ke0 Kr) g h := by
  obtain ⟨hg0, hg1, hg5, hds⟩ := hg
  refine wpC_of_wpx (by kernel_rfl) (by kernel_rfl) (g' := (((⟨g.v, []⟩ : Env).upd (some 0) (S x0)).upd (some 1) (.int .i64 x1)).upd (some 5) (.int .i64 x5)) (by rw [env_ds hds, upd_self hg0, upd_self hg1, upd_self hg5]) ?_
  have e : (n18 x0 x1 x5 Kn Ke4 Ke1 Ke0 Kr h) = wpx none Tryd.prog 84 n17_c1 (Q5 Kn Ke4 Ke1 Ke0 Kr) ((((⟨g.v, []⟩ : Env).upd (some 0) (S x0)).upd (some 1) (.int .i64 x1)).upd (some 5) (.int .i64 x5)) h := by kernel_rfl
  exact e ▸ hS
noncomputable def n19_c1 : Code := cFst n17_c2
noncomputable def n19_c2 : Code := cSnd n17_c2
abbrev T8 := (List UInt8) → Int → Int → Bool → H → Prop
def E8 (g : Env) (x0 : List UInt8) (x1 : Int) (x7 : Int) (x53 : Bool) : Prop := g.v 0 = (S x0) ∧ g.v 1 = (.int .i64 x1) ∧ g.v 7 = (.int .i64 x7) ∧ g.v 53 = (.bool x53) ∧ g.ds = []
def D8 (K : T8) (g : Env) (h : H) : Prop := nilDs g.ds (vStr (g.v 0) fun s113 => vInt .i64 (g.v 1) fun i114 => vInt .i64 (g.v 7) fun i115 => vBool (g.v 53) fun b116 => K s113 i114 i115 b116 h)
theorem D8_ok {K : T8} {g : Env} {h : H} (hq : D8 K g h) : ∃ (x0 : List UInt8) (x1 : Int) (x7 : Int) (x53 : Bool), E8 g x0 x1 x7 x53 ∧ K x0 x1 x7 x53 h := by
  obtain ⟨hd, hq⟩ := nilDs_ok hq
  obtain ⟨y118, e117, q119⟩ := vStr_ok hq
  obtain ⟨y121, e120, q122⟩ := vInt_ok q119
  obtain ⟨y124, e123, q125⟩ := vInt_ok q122
  obtain ⟨y127, e126, q128⟩ := vBool_ok q125
  exact ⟨y118, y121, y124, y127, ⟨e117, e120, e123, e126, hd⟩, q128⟩
abbrev n20 (x0 : List UInt8) (x1 : Int) (x7 : Int) (x53 : Bool) (Kn : T1) (Ke4 : T1) (Ke1 : T1) (Ke0 : T2) (Kr : T0) (h : H) : Prop :=
  cond x53 (Rng .i64 (x7 - (1 : Int)) ∧ ((0 ≤ (0 : Int) ∧ (0 : Int) ≤ (x7 - (1 : Int)) ∧ (x7 - (1 : Int)) ≤ (x0.length : Int)) ∧ (Kn (sub x0 (0 : Int) (x7 - (1 : Int))) x1 h))) (Kr x0 h)
theorem n20_ok (x0 : List UInt8) (x1 : Int) (x7 : Int) (x53 : Bool) (Kn : T1) (Ke4 : T1) (Ke1 : T1) (Ke0 : T2) (Kr : T0) (g : Env) (hg : E8 g x0 x1 x7 x53) (h : H) (hS : n20 x0 x1 x7 x53 Kn Ke4 Ke1 Ke0 Kr h) : wpC none Tryd.prog 84 n19_c2 (Q5 Kn Ke4 Ke1 Ke0 Kr) g h := by
  obtain ⟨hg0, hg1, hg7, hg53, hds⟩ := hg
  refine wpC_of_wpx (by kernel_rfl) (by kernel_rfl) (g' := ((((⟨g.v, []⟩ : Env).upd (some 0) (S x0)).upd (some 1) (.int .i64 x1)).upd (some 7) (.int .i64 x7)).upd (some 53) (.bool x53)) (by rw [env_ds hds, upd_self hg0, upd_self hg1, upd_self hg7, upd_self hg53]) ?_
  have e : (n20 x0 x1 x7 x53 Kn Ke4 Ke1 Ke0 Kr h) = wpx none Tryd.prog 84 n19_c2 (Q5 Kn Ke4 Ke1 Ke0 Kr) (((((⟨g.v, []⟩ : Env).upd (some 0) (S x0)).upd (some 1) (.int .i64 x1)).upd (some 7) (.int .i64 x7)).upd (some 53) (.bool x53)) h := by kernel_rfl
  exact e ▸ hS
def Q6 (Kn : T8) (Ke4 : T1) (Ke1 : T1) (Ke0 : T2) (Kr : T0) : XPost
  | .normal, g, h => D8 Kn g h
  | .ret, g, h => D0 Kr g h
  | .exit id, g, h => cond (Nat.beq id 4) (D1 Ke4 g h) (cond (Nat.beq id 1) (D1 Ke1 g h) (cond (Nat.beq id 0) (D2 Ke0 g h) (False)))
  | _, _, _ => False
abbrev n19 (x0 : List UInt8) (x1 : Int) (x5 : Int) (x6 : Int) (x7 : Int) (Kn : T1) (Ke4 : T1) (Ke1 : T1) (Ke0 : T2) (Kr : T0) (h : H) : Prop :=
  Spl (x6 = (59 : Int)) (Rng .i64 (x5 - (1 : Int)) ∧ (Spl (x7 < (x5 - (1 : Int))) (Spl (x7 > (0 : Int)) (Rng .i64 (x7 - (1 : Int)) ∧ ((0 ≤ (x7 - (1 : Int)) ∧ (x7 - (1 : Int)) < (x0.length : Int)) ∧ (Spl (((List.getD x0 (Int.toNat (x7 - (1 : Int))) 0).toNat : Int) = (38 : Int)) (Rng .i64 (x7 - (1 : Int)) ∧ (Spl ((x7 - (1 : Int)) ≥ x1) (n20 x0 x1 x7 true Kn Ke4 Ke1 Ke0 Kr h) (n20 x0 x1 x7 false Kn Ke4 Ke1 Ke0 Kr h))) (n20 x0 x1 x7 false Kn Ke4 Ke1 Ke0 Kr h)))) (n20 x0 x1 x7 false Kn Ke4 Ke1 Ke0 Kr h)) (n20 x0 x1 x7 false Kn Ke4 Ke1 Ke0 Kr h))) (n20 x0 x1 x7 false Kn Ke4 Ke1 Ke0 Kr h)
theorem n19_ok (x0 : List UInt8) (x1 : Int) (x5 : Int) (x6 : Int) (x7 : Int) (Kn : T1) (Ke4 : T1) (Ke1 : T1) (Ke0 : T2) (Kr : T0) (g : Env) (hg : E5 g x0 x1 x5 x6 x7) (h : H) (hS : n19 x0 x1 x5 x6 x7 Kn Ke4 Ke1 Ke0 Kr h) : wpC none Tryd.prog 84 n17_c2 (Q5 Kn Ke4 Ke1 Ke0 Kr) g h := by
  obtain ⟨hg0, hg1, hg5, hg6, hg7, hds⟩ := hg
  refine wpC_seq' (x := n19_c1) (y := n19_c2) (Q' := (Q6 (fun z0 z1 z7 z53 h => n20 z0 z1 z7 z53 Kn Ke4 Ke1 Ke0 Kr h) Ke4 Ke1 Ke0 Kr)) (by kernel_rfl) ?_ ?_
  · refine wpC_of_wpx (by kernel_rfl) (by kernel_rfl) (g' := (((((⟨g.v, []⟩ : Env).upd (some 0) (S x0)).upd (some 1) (.int .i64 x1)).upd (some 5) (.int .i64 x5)).upd (some 6) (.int .u8 x6)).upd (some 7) (.int .i64 x7)) (by rw [env_ds hds, upd_self hg0, upd_self hg1, upd_self hg5, upd_self hg6, upd_self hg7]) ?_
    have e : (n19 x0 x1 x5 x6 x7 Kn Ke4 Ke1 Ke0 Kr h) = wpx none Tryd.prog 84 n19_c1 (Q6 (fun z0 z1 z7 z53 h => n20 z0 z1 z7 z53 Kn Ke4 Ke1 Ke0 Kr h) Ke4 Ke1 Ke0 Kr) ((((((⟨g.v, []⟩ : Env).upd (some 0) (S x0)).upd (some 1) (.int .i64 x1)).upd (some 5) (.int .i64 x5)).upd (some 6) (.int .u8 x6)).upd (some 7) (.int .i64 x7)) h := by kernel_rfl
    exact e ▸ hS
  · intro e g' h' hq
    cases e with
    | normal =>
      have hq : D8 (fun z0 z1 z7 z53 h => n20 z0 z1 z7 z53 Kn Ke4 Ke1 Ke0 Kr h) g' h' := hq
      obtain ⟨y0, y1, y7, y53, hg', hq⟩ := D8_ok hq
      exact n20_ok y0 y1 y7 y53 Kn Ke4 Ke1 Ke0 Kr g' hg' h' hq
    | _ => exact hq
abbrev n17 (x0 : List UInt8) (x1 : Int) (x5 : Int) (x6 : Int) (x7 : Int) (x39 : Bool) (Kn : T1) (Ke4 : T1) (Ke1 : T1) (Ke0 : T2) (Kr : T0) (h : H) : Prop := cond x39 (n18 x0 x1 x5 Kn Ke4 Ke1 Ke0 Kr h) (n19 x0 x1 x5 x6 x7 Kn Ke4 Ke1 Ke0 Kr h)
theorem n17_ok (x0 : List UInt8) (x1 : Int) (x5 : Int) (x6 : Int) (x7 : Int) (x39 : Bool) (Kn : T1) (Ke4 : T1) (Ke1 : T1) (Ke0 : T2) (Kr : T0) (g : Env) (hg : E7 g x0 x1 x5 x6 x7 x39) (h : H) (hS : n17 x0 x1 x5 x6 x7 x39 Kn Ke4 Ke1 Ke0 Kr h) : wpC none Tryd.prog 84 n16_c2 (Q5 Kn Ke4 Ke1 Ke0 Kr) g h := by
  obtain ⟨hg0, hg1, hg5, hg6, hg7, hg39, hds⟩ := hg
  have hx : evalE 84 g (.tmp 39) = .bool x39 := by
    show cond (Nat.blt 39 84) (g.v 39) undef = _
    rw [hg39]; rfl
  unfold n17 at hS
  refine wpC_cond' (o := .tmp 39) (x := n17_c1) (y := n17_c2) (by kernel_rfl) hx (fun hb => ?_) (fun hb => ?_)
  · subst hb
    exact n18_ok x0 x1 x5 Kn Ke4 Ke1 Ke0 Kr g ⟨hg0, hg1, hg5, hds⟩ h hS
  · subst hb
    exact n19_ok x0 x1 x5 x6 x7 Kn Ke4 Ke1 Ke0 Kr g ⟨hg0, hg1, hg5, hg6, hg7, hds⟩ h hS
def Q7 (Kn : T7) (Ke4 : T1) (Ke1 : T1) (Ke0 : T2) (Kr : T0) : XPost
  | .normal, g, h => D7 Kn g h
  | .ret, g, h => D0 Kr g h
  | .exit id, g, h => cond (Nat.beq id 4) (D1 Ke4 g h) (cond (Nat.beq id 1) (D1 Ke1 g h) (cond (Nat.beq id 0) (D2 Ke0 g h) (False)))
  | _, _, _ => False
abbrev n16 (x0 : List UInt8) (x1 : Int) (x5 : Int) (x6 : Int) (x7 : Int) (Kn : T1) (Ke4 : T1) (Ke1 : T1) (Ke0 : T2) (Kr : T0) (h : H) : Prop :=
  Spl (x6 = (41 : Int)) (HCalls Tryd.prog 43 ⟨[(S x0), (.int .u8 (41 : Int))]⟩ h fun v129 h130 => vInt .i64 v129 fun i131 => HCalls Tryd.prog 43 ⟨[(S x0), (.int .u8 (40 : Int))]⟩ h130 fun v132 h133 => vInt .i64 v132 fun i134 => Spl (i131 > i134) (n17 x0 x1 x5 x6 x7 true Kn Ke4 Ke1 Ke0 Kr h133) (n17 x0 x1 x5 x6 x7 false Kn Ke4 Ke1 Ke0 Kr h133)) (n17 x0 x1 x5 x6 x7 false Kn Ke4 Ke1 Ke0 Kr h)
theorem n16_ok (x0 : List UInt8) (x1 : Int) (x5 : Int) (x6 : Int) (x7 : Int) (Kn : T1) (Ke4 : T1) (Ke1 : T1) (Ke0 : T2) (Kr : T0) (g : Env) (hg : E5 g x0 x1 x5 x6 x7) (h : H) (hS : n16 x0 x1 x5 x6 x7 Kn Ke4 Ke1 Ke0 Kr h) : wpC none Tryd.prog 84 n14_c2 (Q5 Kn Ke4 Ke1 Ke0 Kr) g h := by
  obtain ⟨hg0, hg1, hg5, hg6, hg7, hds⟩ := hg
  refine wpC_seq' (x := n16_c1) (y := n16_c2) (Q' := (Q7 (fun z0 z1 z5 z6 z7 z39 h => n17 z0 z1 z5 z6 z7 z39 Kn Ke4 Ke1 Ke0 Kr h) Ke4 Ke1 Ke0 Kr)) (by kernel_rfl) ?_ ?_
  · refine wpC_of_wpx (by kernel_rfl) (by kernel_rfl) (g' := (((((⟨g.v, []⟩ : Env).upd (some 0) (S x0)).upd (some 1) (.int .i64 x1)).upd (some 5) (.int .i64 x5)).upd (some 6) (.int .u8 x6)).upd (some 7) (.int .i64 x7)) (by rw [env_ds hds, upd_self hg0, upd_self hg1, upd_self hg5, upd_self hg6, upd_self hg7]) ?_
    have e : (n16 x0 x1 x5 x6 x7 Kn Ke4 Ke1 Ke0 Kr h) = wpx none Tryd.prog 84 n16_c1 (Q7 (fun z0 z1 z5 z6 z7 z39 h => n17 z0 z1 z5 z6 z7 z39 Kn Ke4 Ke1 Ke0 Kr h) Ke4 Ke1 Ke0 Kr) ((((((⟨g.v, []⟩ : Env).upd (some 0) (S x0)).upd (some 1) (.int .i64 x1)).upd (some 5) (.int .i64 x5)).upd (some 6) (.int .u8 x6)).upd (some 7) (.int .i64 x7)) h := by kernel_rfl
    exact e ▸ hS
  · intro e g' h' hq
    cases e with
    | normal =>
      have hq : D7 (fun z0 z1 z5 z6 z7 z39 h => n17 z0 z1 z5 z6 z7 z39 Kn Ke4 Ke1 Ke0 Kr h) g' h' := hq
      obtain ⟨y0, y1, y5, y6, y7, y39, hg', hq⟩ := D7_ok hq
      exact n17_ok y0 y1 y5 y6 y7 y39 Kn Ke4 Ke1 Ke0 Kr g' hg' h' hq
    | _ => exact hq
abbrev n14 (x0 : List UInt8) (x1 : Int) (x5 : Int) (x6 : Int) (x7 : Int) (x32 : Bool) (Kn : T1) (Ke4 : T1) (Ke1 : T1) (Ke0 : T2) (Kr : T0) (h : H) : Prop := cond x32 (n15 x0 x1 x5 Kn Ke4 Ke1 Ke0 Kr h) (n16 x0 x1 x5 x6 x7 Kn Ke4 Ke1 Ke0 Kr h)
theorem n14_ok (x0 : List UInt8) (x1 : Int) (x5 : Int) (x6 : Int) (x7 : Int) (x32 : Bool) (Kn : T1) (Ke4 : T1) (Ke1 : T1) (Ke0 : T2) (Kr : T0) (g : Env) (hg : E6 g x0 x1 x5 x6 x7 x32) (h : H) (hS : n14 x0 x1 x5 x6 x7 x32 Kn Ke4 Ke1 Ke0 Kr h) : wpC none Tryd.prog 84 n13_c2 (Q5 Kn Ke4 Ke1 Ke0 Kr) g h := by
  obtain ⟨hg0, hg1, hg5, hg6, hg7, hg32, hds⟩ := hg
  have hx : evalE 84 g (.tmp 32) = .bool x32 := by
    show cond (Nat.blt 32 84) (g.v 32) undef = _
    rw [hg32]; rfl
  unfold n14 at hS
  refine wpC_cond' (o := .tmp 32) (x := n14_c1) (y := n14_c2) (by kernel_rfl) hx (fun hb => ?_) (fun hb => ?_)
  · subst hb
    exact n15_ok x0 x1 x5 Kn Ke4 Ke1 Ke0 Kr g ⟨hg0, hg1, hg5, hds⟩ h hS
  · subst hb
    exact n16_ok x0 x1 x5 x6 x7 Kn Ke4 Ke1 Ke0 Kr g ⟨hg0, hg1, hg5, hg6, hg7, hds⟩ h hS
def Q8 (Kn : T6) (Ke4 : T1) (Ke1 : T1) (Ke0 : T2) (Kr : T0) : XPost
  | .normal, g, h => D6 Kn g h
  | .ret, g, h => D0 Kr g h
  | .exit id, g, h => cond (Nat.beq id 4) (D1 Ke4 g h) (cond (Nat.beq id 1) (D1 Ke1 g h) (cond (Nat.beq id 0) (D2 Ke0 g h) (False)))
  | _, _, _ => False
abbrev n13 (x0 : List UInt8) (x1 : Int) (x5 : Int) (x6 : Int) (x7 : Int) (Kn : T1) (Ke4 : T1) (Ke1 : T1) (Ke0 : T2) (Kr : T0) (h : H) : Prop :=
  HCalls Tryd.prog 28 ⟨[(.int .u8 x6), (S ([63, 33, 46, 44, 58, 42, 95, 126, 39, 34] : List UInt8))]⟩ h fun v135 h136 => vBool v135 fun b137 => cond b137 (n14 x0 x1 x5 x6 x7 true Kn Ke4 Ke1 Ke0 Kr h136) (n14 x0 x1 x5 x6 x7 false Kn Ke4 Ke1 Ke0 Kr h136)
theorem n13_ok (x0 : List UInt8) (x1 : Int) (x5 : Int) (x6 : Int) (x7 : Int) (Kn : T1) (Ke4 : T1) (Ke1 : T1) (Ke0 : T2) (Kr : T0) (g : Env) (hg : E5 g x0 x1 x5 x6 x7) (h : H) (hS : n13 x0 x1 x5 x6 x7 Kn Ke4 Ke1 Ke0 Kr h) : wpC none Tryd.prog 84 n12_c1 (Q5 Kn Ke4 Ke1 Ke0 Kr) g h := by
  obtain ⟨hg0, hg1, hg5, hg6, hg7, hds⟩ := hg
  refine wpC_seq' (x := n13_c1) (y := n13_c2) (Q' := (Q8 (fun z0 z1 z5 z6 z7 z32 h => n14 z0 z1 z5 z6 z7 z32 Kn Ke4 Ke1 Ke0 Kr h) Ke4 Ke1 Ke0 Kr)) (by kernel_rfl) ?_ ?_
  · refine wpC_of_wpx (by kernel_rfl) (by kernel_rfl) (g' := (((((⟨g.v, []⟩ : Env).upd (some 0) (S x0)).upd (some 1) (.int .i64 x1)).upd (some 5) (.int .i64 x5)).upd (some 6) (.int .u8 x6)).upd (some 7) (.int .i64 x7)) (by rw [env_ds hds, upd_self hg0, upd_self hg1, upd_self hg5, upd_self hg6, upd_self hg7]) ?_
    have e : (n13 x0 x1 x5 x6 x7 Kn Ke4 Ke1 Ke0 Kr h) = wpx none Tryd.prog 84 n13_c1 (Q8 (fun z0 z1 z5 z6 z7 z32 h => n14 z0 z1 z5 z6 z7 z32 Kn Ke4 Ke1 Ke0 Kr h) Ke4 Ke1 Ke0 Kr) ((((((⟨g.v, []⟩ : Env).upd (some 0) (S x0)).upd (some 1) (.int .i64 x1)).upd (some 5) (.int .i64 x5)).upd (some 6) (.int .u8 x6)).upd (some 7) (.int .i64 x7)) h := by kernel_rfl
    exact e ▸ hS
  · intro e g' h' hq
    cases e with
    | normal =>
      have hq : D6 (fun z0 z1 z5 z6 z7 z32 h => n14 z0 z1 z5 z6 z7 z32 Kn Ke4 Ke1 Ke0 Kr h) g' h' := hq
      obtain ⟨y0, y1, y5, y6, y7, y32, hg', hq⟩ := D6_ok hq
      exact n14_ok y0 y1 y5 y6 y7 y32 Kn Ke4 Ke1 Ke0 Kr g' hg' h' hq
    | _ => exact hq
abbrev n12 (x0 : List UInt8) (x1 : Int) (x5 : Int) (x6 : Int) (x7 : Int) (Kn : T1) (Ke1 : T1) (Ke0 : T2) (Kr : T0) (h : H) : Prop := n13 x0 x1 x5 x6 x7 Kn Kn Ke1 Ke0 Kr h
theorem n12_ok (x0 : List UInt8) (x1 : Int) (x5 : Int) (x6 : Int) (x7 : Int) (Kn : T1) (Ke1 : T1) (Ke0 : T2) (Kr : T0) (g : Env) (hg : E5 g x0 x1 x5 x6 x7) (h : H) (hS : n12 x0 x1 x5 x6 x7 Kn Ke1 Ke0 Kr h) : wpC none Tryd.prog 84 n11_c2 (Q4 Kn Ke1 Ke0 Kr) g h := by
  refine wpC_block' (id := 4) (x := n12_c1) (by kernel_rfl) (n13_ok x0 x1 x5 x6 x7 Kn Kn Ke1 Ke0 Kr g hg h hS) ?_
  intro e g' h' hq
  cases e <;> exact hq
def Q9 (Kn : T5) (Ke1 : T1) (Ke0 : T2) (Kr : T0) : XPost
  | .normal, g, h => D5 Kn g h
  | .ret, g, h => D0 Kr g h
  | .exit id, g, h => cond (Nat.beq id 1) (D1 Ke1 g h) (cond (Nat.beq id 0) (D2 Ke0 g h) (False))
  | _, _, _ => False
noncomputable def n21_c1 : Code := cFst n11_c1
def Q10 (Kn : T5) (Ke2 : T5) (Ke1 : T1) (Ke0 : T2) (Kr : T0) : XPost
  | .normal, g, h => D5 Kn g h
  | .ret, g, h => D0 Kr g h
  | .exit id, g, h => cond (Nat.beq id 2) (D5 Ke2 g h) (cond (Nat.beq id 1) (D1 Ke1 g h) (cond (Nat.beq id 0) (D2 Ke0 g h) (False)))
  | _, _, _ => False
noncomputable def n22_c1 : Code := cFst n21_c1
def n22_L (Kn : T5) (Ke2 : T5) (Ke1 : T1) (Ke0 : T2) (Kr : T0) : Nat → (List UInt8) → Int → Int → Int → Int → H → Prop
  | 0 => fun _ _ _ _ _ _ => False
  | N + 1 => fun x0 x1 x5 x6 x7 h => Spl (x7 > (0 : Int)) (Rng .i64 (x7 - (1 : Int)) ∧ ((0 ≤ (x7 - (1 : Int)) ∧ (x7 - (1 : Int)) < (x0.length : Int)) ∧ (HCalls Tryd.prog 27 ⟨[(.int .u8 ((List.getD x0 (Int.toNat (x7 - (1 : Int))) 0).toNat : Int))]⟩ h fun v138 h139 => vBool v138 fun b140 => cond b140 (Rng .i64 (x7 - (1 : Int)) ∧ (n22_L Kn Ke2 Ke1 Ke0 Kr N x0 x1 x5 x6 (x7 - (1 : Int)) h139)) (Ke2 x0 x1 x5 x6 x7 h139)))) (Ke2 x0 x1 x5 x6 x7 h)
abbrev n22 (x0 : List UInt8) (x1 : Int) (x5 : Int) (x6 : Int) (x7 : Int) (Kn : T5) (Ke2 : T5) (Ke1 : T1) (Ke0 : T2) (Kr : T0) (h : H) : Prop := ∃ N, n22_L Kn Ke2 Ke1 Ke0 Kr N x0 x1 x5 x6 x7 h
theorem n22_ok (x0 : List UInt8) (x1 : Int) (x5 : Int) (x6 : Int) (x7 : Int) (Kn : T5) (Ke2 : T5) (Ke1 : T1) (Ke0 : T2) (Kr : T0) (g : Env) (hg : E5 g x0 x1 x5 x6 x7) (h : H) (hS : n22 x0 x1 x5 x6 x7 Kn Ke2 Ke1 Ke0 Kr h) : wpC none Tryd.prog 84 n21_c1 (Q10 Kn Ke2 Ke1 Ke0 Kr) g h := by
  obtain ⟨N0, hS⟩ := hS
  refine wpC_loop' (x := n22_c1) (by kernel_rfl) (fun k g h => ∃ (x0 : List UInt8) (x1 : Int) (x5 : Int) (x6 : Int) (x7 : Int), E5 g x0 x1 x5 x6 x7 ∧ n22_L Kn Ke2 Ke1 Ke0 Kr k x0 x1 x5 x6 x7 h) (fun g h hr => ?_) (fun N g h hr => ?_) N0 ⟨x0, x1, x5, x6, x7, hg, hS⟩
  · obtain ⟨x0, x1, x5, x6, x7, hg, hS⟩ := hr
    exact hS.elim
  · obtain ⟨x0, x1, x5, x6, x7, hg, hS⟩ := hr
    have hw : wpC none Tryd.prog 84 n22_c1 (Q10 (fun z0 z1 z5 z6 z7 h => n22_L Kn Ke2 Ke1 Ke0 Kr N z0 z1 z5 z6 z7 h) Ke2 Ke1 Ke0 Kr) g h := by
      obtain ⟨hg0, hg1, hg5, hg6, hg7, hds⟩ := hg
      refine wpC_of_wpx (by kernel_rfl) (by kernel_rfl) (g' := (((((⟨g.v, []⟩ : Env).upd (some 0) (S x0)).upd (some 1) (.int .i64 x1)).upd (some 5) (.int .i64 x5)).upd (some 6) (.int .u8 x6)).upd (some 7) (.int .i64 x7)) (by rw [env_ds hds, upd_self hg0, upd_self hg1, upd_self hg5, upd_self hg6, upd_self hg7]) ?_
      have e : (n22_L Kn Ke2 Ke1 Ke0 Kr (N + 1) x0 x1 x5 x6 x7 h) = wpx none Tryd.prog 84 n22_c1 (Q10 (fun z0 z1 z5 z6 z7 h => n22_L Kn Ke2 Ke1 Ke0 Kr N z0 z1 z5 z6 z7 h) Ke2 Ke1 Ke0 Kr) ((((((⟨g.v, []⟩ : Env).upd (some 0) (S x0)).upd (some 1) (.int .i64 x1)).upd (some 5) (.int .i64 x5)).upd (some 6) (.int .u8 x6)).upd (some 7) (.int .i64 x7)) h := by kernel_rfl
      exact e ▸ hS
    refine hw.mono ?_
    intro e g' h' hq
    cases e with
    | normal => exact D5_ok (K := (fun z0 z1 z5 z6 z7 h => n22_L Kn Ke2 Ke1 Ke0 Kr N z0 z1 z5 z6 z7 h)) hq
    | _ => exact hq
abbrev n21 (x0 : List UInt8) (x1 : Int) (x5 : Int) (x6 : Int) (x7 : Int) (Kn : T5) (Ke1 : T1) (Ke0 : T2) (Kr : T0) (h : H) : Prop := n22 x0 x1 x5 x6 x7 Kn Kn Ke1 Ke0 Kr h
theorem n21_ok (x0 : List UInt8) (x1 : Int) (x5 : Int) (x6 : Int) (x7 : Int) (Kn : T5) (Ke1 : T1) (Ke0 : T2) (Kr : T0) (g : Env) (hg : E5 g x0 x1 x5 x6 x7) (h : H) (hS : n21 x0 x1 x5 x6 x7 Kn Ke1 Ke0 Kr h) : wpC none Tryd.prog 84 n11_c1 (Q9 Kn Ke1 Ke0 Kr) g h := by
  refine wpC_block' (id := 2) (x := n21_c1) (by kernel_rfl) (n22_ok x0 x1 x5 x6 x7 Kn Kn Ke1 Ke0 Kr g hg h hS) ?_
  intro e g' h' hq
  cases e <;> exact hq
abbrev n11 (x0 : List UInt8) (x1 : Int) (x5 : Int) (x6 : Int) (x7 : Int) (Kn : T1) (Ke1 : T1) (Ke0 : T2) (Kr : T0) (h : H) : Prop := n21 x0 x1 x5 x6 x7 (fun z0 z1 z5 z6 z7 h => n12 z0 z1 z5 z6 z7 Kn Ke1 Ke0 Kr h) Ke1 Ke0 Kr h
theorem n11_ok (x0 : List UInt8) (x1 : Int) (x5 : Int) (x6 : Int) (x7 : Int) (Kn : T1) (Ke1 : T1) (Ke0 : T2) (Kr : T0) (g : Env) (hg : E5 g x0 x1 x5 x6 x7) (h : H) (hS : n11 x0 x1 x5 x6 x7 Kn Ke1 Ke0 Kr h) : wpC none Tryd.prog 84 n10_c2 (Q4 Kn Ke1 Ke0 Kr) g h := by
  refine wpC_seq' (x := n11_c1) (y := n11_c2) (by kernel_rfl) (n21_ok x0 x1 x5 x6 x7 (fun z0 z1 z5 z6 z7 h => n12 z0 z1 z5 z6 z7 Kn Ke1 Ke0 Kr h) Ke1 Ke0 Kr g hg h hS) ?_
  intro e g' h' hq
  cases e with
  | normal =>
    have hq : D5 (fun z0 z1 z5 z6 z7 h => n12 z0 z1 z5 z6 z7 Kn Ke1 Ke0 Kr h) g' h' := hq
    obtain ⟨y0, y1, y5, y6, y7, hg', hq⟩ := D5_ok hq
    exact n12_ok y0 y1 y5 y6 y7 Kn Ke1 Ke0 Kr g' hg' h' hq
  | _ => exact hq
abbrev n10 (x0 : List UInt8) (x1 : Int) (x5 : Int) (x6 : Int) (Kn : T1) (Ke1 : T1) (Ke0 : T2) (Kr : T0) (h : H) : Prop :=
  Rng .i64 (x5 - (1 : Int)) ∧ (n11 x0 x1 x5 x6 (x5 - (1 : Int)) Kn Ke1 Ke0 Kr h)
theorem n10_ok (x0 : List UInt8) (x1 : Int) (x5 : Int) (x6 : Int) (Kn : T1) (Ke1 : T1) (Ke0 : T2) (Kr : T0) (g : Env) (hg : E4 g x0 x1 x5 x6) (h : H) (hS : n10 x0 x1 x5 x6 Kn Ke1 Ke0 Kr h) : wpC none Tryd.prog 84 n9_c2 (Q4 Kn Ke1 Ke0 Kr) g h := by
  obtain ⟨hg0, hg1, hg5, hg6, hds⟩ := hg
  refine wpC_seq' (x := n10_c1) (y := n10_c2) (Q' := (Q9 (fun z0 z1 z5 z6 z7 h => n11 z0 z1 z5 z6 z7 Kn Ke1 Ke0 Kr h) Ke1 Ke0 Kr)) (by kernel_rfl) ?_ ?_
  · refine wpC_of_wpx (by kernel_rfl) (by kernel_rfl) (g' := ((((⟨g.v, []⟩ : Env).upd (some 0) (S x0)).upd (some 1) (.int .i64 x1)).upd (some 5) (.int .i64 x5)).upd (some 6) (.int .u8 x6)) (by rw [env_ds hds, upd_self hg0, upd_self hg1, upd_self hg5, upd_self hg6]) ?_
    have e : (n10 x0 x1 x5 x6 Kn Ke1 Ke0 Kr h) = wpx none Tryd.prog 84 n10_c1 (Q9 (fun z0 z1 z5 z6 z7 h => n11 z0 z1 z5 z6 z7 Kn Ke1 Ke0 Kr h) Ke1 Ke0 Kr) (((((⟨g.v, []⟩ : Env).upd (some 0) (S x0)).upd (some 1) (.int .i64 x1)).upd (some 5) (.int .i64 x5)).upd (some 6) (.int .u8 x6)) h := by kernel_rfl
    exact e ▸ hS
  · intro e g' h' hq
    cases e with
    | normal =>
      have hq : D5 (fun z0 z1 z5 z6 z7 h => n11 z0 z1 z5 z6 z7 Kn Ke1 Ke0 Kr h) g' h' := hq
      obtain ⟨y0, y1, y5, y6, y7, hg', hq⟩ := D5_ok hq
      exact n11_ok y0 y1 y5 y6 y7 Kn Ke1 Ke0 Kr g' hg' h' hq
    | _ => exact hq
def Q11 (Kn : T4) (Ke1 : T1) (Ke0 : T2) (Kr : T0) : XPost
  | .normal, g, h => D4 Kn g h
  | .ret, g, h => D0 Kr g h
  | .exit id, g, h => cond (Nat.beq id 1) (D1 Ke1 g h) (cond (Nat.beq id 0) (D2 Ke0 g h) (False))
  | _, _, _ => False
abbrev n9 (x0 : List UInt8) (x1 : Int) (x5 : Int) (Kn : T1) (Ke1 : T1) (Ke0 : T2) (Kr : T0) (h : H) : Prop :=
  Rng .i64 (x5 - (1 : Int)) ∧ ((0 ≤ (x5 - (1 : Int)) ∧ (x5 - (1 : Int)) < (x0.length : Int)) ∧ (n10 x0 x1 x5 ((List.getD x0 (Int.toNat (x5 - (1 : Int))) 0).toNat : Int) Kn Ke1 Ke0 Kr h))
theorem n9_ok (x0 : List UInt8) (x1 : Int) (x5 : Int) (Kn : T1) (Ke1 : T1) (Ke0 : T2) (Kr : T0) (g : Env) (hg : E3 g x0 x1 x5) (h : H) (hS : n9 x0 x1 x5 Kn Ke1 Ke0 Kr h) : wpC none Tryd.prog 84 n8_c2 (Q4 Kn Ke1 Ke0 Kr) g h := by
  obtain ⟨hg0, hg1, hg5, hds⟩ := hg
  refine wpC_seq' (x := n9_c1) (y := n9_c2) (Q' := (Q11 (fun z0 z1 z5 z6 h => n10 z0 z1 z5 z6 Kn Ke1 Ke0 Kr h) Ke1 Ke0 Kr)) (by kernel_rfl) ?_ ?_
  · refine wpC_of_wpx (by kernel_rfl) (by kernel_rfl) (g' := (((⟨g.v, []⟩ : Env).upd (some 0) (S x0)).upd (some 1) (.int .i64 x1)).upd (some 5) (.int .i64 x5)) (by rw [env_ds hds, upd_self hg0, upd_self hg1, upd_self hg5]) ?_
    have e : (n9 x0 x1 x5 Kn Ke1 Ke0 Kr h) = wpx none Tryd.prog 84 n9_c1 (Q11 (fun z0 z1 z5 z6 h => n10 z0 z1 z5 z6 Kn Ke1 Ke0 Kr h) Ke1 Ke0 Kr) ((((⟨g.v, []⟩ : Env).upd (some 0) (S x0)).upd (some 1) (.int .i64 x1)).upd (some 5) (.int .i64 x5)) h := by kernel_rfl
    exact e ▸ hS
  · intro e g' h' hq
    cases e with
    | normal =>
      have hq : D4 (fun z0 z1 z5 z6 h => n10 z0 z1 z5 z6 Kn Ke1 Ke0 Kr h) g' h' := hq
      obtain ⟨y0, y1, y5, y6, hg', hq⟩ := D4_ok hq
      exact n10_ok y0 y1 y5 y6 Kn Ke1 Ke0 Kr g' hg' h' hq
    | _ => exact hq
def Q12 (Kn : T3) (Ke1 : T1) (Ke0 : T2) (Kr : T0) : XPost
  | .normal, g, h => D3 Kn g h
  | .ret, g, h => D0 Kr g h
  | .exit id, g, h => cond (Nat.beq id 1) (D1 Ke1 g h) (cond (Nat.beq id 0) (D2 Ke0 g h) (False))
  | _, _, _ => False
abbrev n8 (x0 : List UInt8) (x1 : Int) (Kn : T1) (Ke1 : T1) (Ke0 : T2) (Kr : T0) (h : H) : Prop :=
  n9 x0 x1 (x0.length : Int) Kn Ke1 Ke0 Kr h
theorem n8_ok (x0 : List UInt8) (x1 : Int) (Kn : T1) (Ke1 : T1) (Ke0 : T2) (Kr : T0) (g : Env) (hg : E1 g x0 x1) (h : H) (hS : n8 x0 x1 Kn Ke1 Ke0 Kr h) : wpC none Tryd.prog 84 n7_c1 (Q4 Kn Ke1 Ke0 Kr) g h := by
  obtain ⟨hg0, hg1, hds⟩ := hg
  refine wpC_seq' (x := n8_c1) (y := n8_c2) (Q' := (Q12 (fun z0 z1 z5 h => n9 z0 z1 z5 Kn Ke1 Ke0 Kr h) Ke1 Ke0 Kr)) (by kernel_rfl) ?_ ?_
  · refine wpC_of_wpx (by kernel_rfl) (by kernel_rfl) (g' := ((⟨g.v, []⟩ : Env).upd (some 0) (S x0)).upd (some 1) (.int .i64 x1)) (by rw [env_ds hds, upd_self hg0, upd_self hg1]) ?_
    have e : (n8 x0 x1 Kn Ke1 Ke0 Kr h) = wpx none Tryd.prog 84 n8_c1 (Q12 (fun z0 z1 z5 h => n9 z0 z1 z5 Kn Ke1 Ke0 Kr h) Ke1 Ke0 Kr) (((⟨g.v, []⟩ : Env).upd (some 0) (S x0)).upd (some 1) (.int .i64 x1)) h := by kernel_rfl
    exact e ▸ hS
  · intro e g' h' hq
    cases e with
    | normal =>
      have hq : D3 (fun z0 z1 z5 h => n9 z0 z1 z5 Kn Ke1 Ke0 Kr h) g' h' := hq
      obtain ⟨y0, y1, y5, hg', hq⟩ := D3_ok hq
      exact n9_ok y0 y1 y5 Kn Ke1 Ke0 Kr g' hg' h' hq
    | _ => exact hq
abbrev n7 (x0 : List UInt8) (x1 : Int) (Kn : T1) (Ke0 : T2) (Kr : T0) (h : H) : Prop := n8 x0 x1 Kn Kn Ke0 Kr h
theorem n7_ok (x0 : List UInt8) (x1 : Int) (Kn : T1) (Ke0 : T2) (Kr : T0) (g : Env) (hg : E1 g x0 x1) (h : H) (hS : n7 x0 x1 Kn Ke0 Kr h) : wpC none Tryd.prog 84 n6_c2 (Q3 Kn Ke0 Kr) g h := by
  refine wpC_block' (id := 1) (x := n7_c1) (by kernel_rfl) (n8_ok x0 x1 Kn Kn Ke0 Kr g hg h hS) ?_
  intro e g' h' hq
  cases e <;> exact hq
abbrev n6 (x0 : List UInt8) (x1 : Int) (Kn : T1) (Ke0 : T2) (Kr : T0) (h : H) : Prop :=
  Spl ((x0.length : Int) > x1) (n7 x0 x1 Kn Ke0 Kr h) (Ke0 x0 h)
theorem n6_ok (x0 : List UInt8) (x1 : Int) (Kn : T1) (Ke0 : T2) (Kr : T0) (g : Env) (hg : E1 g x0 x1) (h : H) (hS : n6 x0 x1 Kn Ke0 Kr h) : wpC none Tryd.prog 84 n5_c1 (Q3 Kn Ke0 Kr) g h := by
  obtain ⟨hg0, hg1, hds⟩ := hg
  refine wpC_seq' (x := n6_c1) (y := n6_c2) (Q' := (Q3 (fun z0 z1 h => n7 z0 z1 Kn Ke0 Kr h) Ke0 Kr)) (by kernel_rfl) ?_ ?_
  · refine wpC_of_wpx (by kernel_rfl) (by kernel_rfl) (g' := ((⟨g.v, []⟩ : Env).upd (some 0) (S x0)).upd (some 1) (.int .i64 x1)) (by rw [env_ds hds, upd_self hg0, upd_self hg1]) ?_
    have e : (n6 x0 x1 Kn Ke0 Kr h) = wpx none Tryd.prog 84 n6_c1 (Q3 (fun z0 z1 h => n7 z0 z1 Kn Ke0 Kr h) Ke0 Kr) (((⟨g.v, []⟩ : Env).upd (some 0) (S x0)).upd (some 1) (.int .i64 x1)) h := by kernel_rfl
    exact e ▸ hS
  · intro e g' h' hq
    cases e with
    | normal =>
      have hq : D1 (fun z0 z1 h => n7 z0 z1 Kn Ke0 Kr h) g' h' := hq
      obtain ⟨y0, y1, hg', hq⟩ := D1_ok hq
      exact n7_ok y0 y1 Kn Ke0 Kr g' hg' h' hq
    | _ => exact hq
def n5_L (Kn : T2) (Ke0 : T2) (Kr : T0) : Nat → (List UInt8) → Int → H → Prop
  | 0 => fun _ _ _ => False
  | N + 1 => fun x0 x1 h => n6 x0 x1 (fun z0 z1 h => n5_L Kn Ke0 Kr N z0 z1 h) Ke0 Kr h
abbrev n5 (x0 : List UInt8) (x1 : Int) (Kn : T2) (Ke0 : T2) (Kr : T0) (h : H) : Prop := ∃ N, n5_L Kn Ke0 Kr N x0 x1 h
theorem n5_ok (x0 : List UInt8) (x1 : Int) (Kn : T2) (Ke0 : T2) (Kr : T0) (g : Env) (hg : E1 g x0 x1) (h : H) (hS : n5 x0 x1 Kn Ke0 Kr h) : wpC none Tryd.prog 84 n4_c1 (Q2 Kn Ke0 Kr) g h := by
  obtain ⟨N0, hS⟩ := hS
  refine wpC_loop' (x := n5_c1) (by kernel_rfl) (fun k g h => ∃ (x0 : List UInt8) (x1 : Int), E1 g x0 x1 ∧ n5_L Kn Ke0 Kr k x0 x1 h) (fun g h hr => ?_) (fun N g h hr => ?_) N0 ⟨x0, x1, hg, hS⟩
  · obtain ⟨x0, x1, hg, hS⟩ := hr
    exact hS.elim
  · obtain ⟨x0, x1, hg, hS⟩ := hr
    refine (n6_ok x0 x1 (fun z0 z1 h => n5_L Kn Ke0 Kr N z0 z1 h) Ke0 Kr g hg h hS).mono ?_
    intro e g' h' hq
    cases e with
    | normal => exact D1_ok (K := (fun z0 z1 h => n5_L Kn Ke0 Kr N z0 z1 h)) hq
    | _ => exact hq
abbrev n4 (x0 : List UInt8) (x1 : Int) (Kn : T2) (Kr : T0) (h : H) : Prop := n5 x0 x1 Kn Kn Kr h
theorem n4_ok (x0 : List UInt8) (x1 : Int) (Kn : T2) (Kr : T0) (g : Env) (hg : E1 g x0 x1) (h : H) (hS : n4 x0 x1 Kn Kr h) : wpC none Tryd.prog 84 n2_c1 (Q1 Kn Kr) g h := by
  refine wpC_block' (id := 0) (x := n4_c1) (by kernel_rfl) (n5_ok x0 x1 Kn Kn Kr g hg h hS) ?_
  intro e g' h' hq
  cases e <;> exact hq
abbrev n2 (x0 : List UInt8) (x1 : Int) (Kn : T0) (Kr : T0) (h : H) : Prop := n4 x0 x1 (fun z0 h => n3 z0 Kn Kr h) Kr h
theorem n2_ok (x0 : List UInt8) (x1 : Int) (Kn : T0) (Kr : T0) (g : Env) (hg : E1 g x0 x1) (h : H) (hS : n2 x0 x1 Kn Kr h) : wpC none Tryd.prog 84 n1_c2 (Q0 Kn Kr) g h := by
  refine wpC_seq' (x := n2_c1) (y := n2_c2) (by kernel_rfl) (n4_ok x0 x1 (fun z0 h => n3 z0 Kn Kr h) Kr g hg h hS) ?_
  intro e g' h' hq
  cases e with
  | normal =>
    have hq : D2 (fun z0 h => n3 z0 Kn Kr h) g' h' := hq
    obtain ⟨y0, hg', hq⟩ := D2_ok hq
    exact n3_ok y0 Kn Kr g' hg' h' hq
  | _ => exact hq
def Q13 (Kn : T1) (Kr : T0) : XPost
  | .normal, g, h => D1 Kn g h
  | .ret, g, h => D0 Kr g h
  | _, _, _ => False
abbrev n1 (x0 : List UInt8) (x1 : Int) (Kn : T0) (Kr : T0) (h : H) : Prop :=
  n2 x0 x1 Kn Kr h
theorem n1_ok (x0 : List UInt8) (x1 : Int) (Kn : T0) (Kr : T0) (g : Env) (hg : E1 g x0 x1) (h : H) (hS : n1 x0 x1 Kn Kr h) : wpC none Tryd.prog 84 code (Q0 Kn Kr) g h := by
  obtain ⟨hg0, hg1, hds⟩ := hg
  refine wpC_seq' (x := n1_c1) (y := n1_c2) (Q' := (Q13 (fun z0 z1 h => n2 z0 z1 Kn Kr h) Kr)) (by kernel_rfl) ?_ ?_
  · refine wpC_of_wpx (by kernel_rfl) (by kernel_rfl) (g' := ((⟨g.v, []⟩ : Env).upd (some 0) (S x0)).upd (some 1) (.int .i64 x1)) (by rw [env_ds hds, upd_self hg0, upd_self hg1]) ?_
    have e : (n1 x0 x1 Kn Kr h) = wpx none Tryd.prog 84 n1_c1 (Q13 (fun z0 z1 h => n2 z0 z1 Kn Kr h) Kr) (((⟨g.v, []⟩ : Env).upd (some 0) (S x0)).upd (some 1) (.int .i64 x1)) h := by kernel_rfl
    exact e ▸ hS
  · intro e g' h' hq
    cases e with
    | normal =>
      have hq : D1 (fun z0 z1 h => n2 z0 z1 Kn Kr h) g' h' := hq
      obtain ⟨y0, y1, hg', hq⟩ := D1_ok hq
      exact n2_ok y0 y1 Kn Kr g' hg' h' hq
    | _ => exact hq
/-- WHAT tympan/tympanref28.cut ASKS -/
abbrev asks (x0 : List UInt8) (x1 : Int) (K : Value → H → Prop) (h : H) : Prop := n1 x0 x1 (fun y4 h => K (S y4) h) (fun y4 h => K (S y4) h) h
theorem ok (x0 : List UInt8) (x1 : Int) (K : Value → H → Prop) (h : H) (hS : asks x0 x1 K h) : HCalls Tryd.prog 26 ⟨[(S x0), (.int .i64 x1)]⟩ h K := by
  refine calls_of_wpC (c := code) Tryd.func26 (by kernel_rfl) (Nat.le_of_ble_eq_true (by kernel_rfl)) ?_
  refine (n1_ok x0 x1 (fun y4 h => K (S y4) h) (fun y4 h => K (S y4) h) (env0 [(S x0), (.int .i64 x1)]) ⟨rfl, rfl, rfl⟩ h hS).mono ?_
  intro e g' h' hq
  cases e with
  | normal =>
    have hq : D0 (fun y4 h => K (S y4) h) g' h' := hq
    obtain ⟨y4, ⟨hg4, hd⟩, hq⟩ := D0_ok hq
    show leaveX g'.ds h' _
    rw [hd]
    show K (g'.v 4) h'
    rw [hg4]
    exact hq
  | ret =>
    have hq : D0 (fun y4 h => K (S y4) h) g' h' := hq
    obtain ⟨y4, ⟨hg4, hd⟩, hq⟩ := D0_ok hq
    show leaveX g'.ds h' _
    rw [hd]
    show K (g'.v 4) h'
    rw [hg4]
    exact hq
  | _ => exact hq
end Sx.r28_cut

/-! ### tympan/tympanref28.alnum -/
namespace Sx.r28_alnum
noncomputable def code : Code := bodyOf Tryd.f27
abbrev T0 := Bool → H → Prop
def E0 (g : Env) (x2 : Bool) : Prop := g.v 2 = (.bool x2) ∧ g.ds = []
def D0 (K : T0) (g : Env) (h : H) : Prop := nilDs g.ds (vBool (g.v 2) fun b1 => K b1 h)
theorem D0_ok {K : T0} {g : Env} {h : H} (hq : D0 K g h) : ∃ (x2 : Bool), E0 g x2 ∧ K x2 h := by
  obtain ⟨hd, hq⟩ := nilDs_ok hq
  obtain ⟨y3, e2, q4⟩ := vBool_ok hq
  exact ⟨y3, ⟨e2, hd⟩, q4⟩
def Q0 (Kn : T0) (Kr : T0) : XPost
  | .normal, g, h => D0 Kn g h
  | .ret, g, h => D0 Kr g h
  | _, _, _ => False
abbrev T1 := Int → H → Prop
def E1 (g : Env) (x0 : Int) : Prop := g.v 0 = (.int .u8 x0) ∧ g.ds = []
def D1 (K : T1) (g : Env) (h : H) : Prop := nilDs g.ds (vInt .u8 (g.v 0) fun i5 => K i5 h)
theorem D1_ok {K : T1} {g : Env} {h : H} (hq : D1 K g h) : ∃ (x0 : Int), E1 g x0 ∧ K x0 h := by
  obtain ⟨hd, hq⟩ := nilDs_ok hq
  obtain ⟨y7, e6, q8⟩ := vInt_ok hq
  exact ⟨y7, ⟨e6, hd⟩, q8⟩
abbrev n1 (x0 : Int) (Kn : T0) (Kr : T0) (h : H) : Prop :=
  HCalls Tryd.prog 44 ⟨[(.int .u8 x0)]⟩ h fun v9 h10 => vBool v9 fun b11 => cond b11 (Kr true h10) (HCalls Tryd.prog 45 ⟨[(.int .u8 x0)]⟩ h10 fun v12 h13 => vBool v12 fun b14 => cond b14 (Kr true h13) (Kr false h13))
theorem n1_ok (x0 : Int) (Kn : T0) (Kr : T0) (g : Env) (hg : E1 g x0) (h : H) (hS : n1 x0 Kn Kr h) : wpC none Tryd.prog 9 code (Q0 Kn Kr) g h := by
  obtain ⟨hg0, hds⟩ := hg
  refine wpC_of_wpx (by kernel_rfl) (by kernel_rfl) (g' := (⟨g.v, []⟩ : Env).upd (some 0) (.int .u8 x0)) (by rw [env_ds hds, upd_self hg0]) ?_
  have e : (n1 x0 Kn Kr h) = wpx none Tryd.prog 9 code (Q0 Kn Kr) ((⟨g.v, []⟩ : Env).upd (some 0) (.int .u8 x0)) h := by kernel_rfl
  exact e ▸ hS
/-- WHAT tympan/tympanref28.alnum ASKS -/
abbrev asks (x0 : Int) (K : Value → H → Prop) (h : H) : Prop := n1 x0 (fun y2 h => K (.bool y2) h) (fun y2 h => K (.bool y2) h) h
theorem ok (x0 : Int) (K : Value → H → Prop) (h : H) (hS : asks x0 K h) : HCalls Tryd.prog 27 ⟨[(.int .u8 x0)]⟩ h K := by
  refine calls_of_wpC (c := code) Tryd.func27 (by kernel_rfl) (Nat.le_of_ble_eq_true (by kernel_rfl)) ?_
  refine (n1_ok x0 (fun y2 h => K (.bool y2) h) (fun y2 h => K (.bool y2) h) (env0 [(.int .u8 x0)]) ⟨rfl, rfl⟩ h hS).mono ?_
  intro e g' h' hq
  cases e with
  | normal =>
    have hq : D0 (fun y2 h => K (.bool y2) h) g' h' := hq
    obtain ⟨y2, ⟨hg2, hd⟩, hq⟩ := D0_ok hq
    show leaveX g'.ds h' _
    rw [hd]
    show K (g'.v 2) h'
    rw [hg2]
    exact hq
  | ret =>
    have hq : D0 (fun y2 h => K (.bool y2) h) g' h' := hq
    obtain ⟨y2, ⟨hg2, hd⟩, hq⟩ := D0_ok hq
    show leaveX g'.ds h' _
    rw [hd]
    show K (g'.v 2) h'
    rw [hg2]
    exact hq
  | _ => exact hq
end Sx.r28_alnum

/-! ### tympan/tympanref28.in -/
namespace Sx.r28_in
noncomputable def code : Code := bodyOf Tryd.f28
abbrev T0 := Bool → H → Prop
def E0 (g : Env) (x4 : Bool) : Prop := g.v 4 = (.bool x4) ∧ g.ds = []
def D0 (K : T0) (g : Env) (h : H) : Prop := nilDs g.ds (vBool (g.v 4) fun b1 => K b1 h)
theorem D0_ok {K : T0} {g : Env} {h : H} (hq : D0 K g h) : ∃ (x4 : Bool), E0 g x4 ∧ K x4 h := by
  obtain ⟨hd, hq⟩ := nilDs_ok hq
  obtain ⟨y3, e2, q4⟩ := vBool_ok hq
  exact ⟨y3, ⟨e2, hd⟩, q4⟩
def Q0 (Kn : T0) (Kr : T0) : XPost
  | .normal, g, h => D0 Kn g h
  | .ret, g, h => D0 Kr g h
  | _, _, _ => False
abbrev T1 := Int → (List UInt8) → H → Prop
def E1 (g : Env) (x0 : Int) (x1 : List UInt8) : Prop := g.v 0 = (.int .u8 x0) ∧ g.v 1 = (S x1) ∧ g.ds = []
def D1 (K : T1) (g : Env) (h : H) : Prop := nilDs g.ds (vInt .u8 (g.v 0) fun i5 => vStr (g.v 1) fun s6 => K i5 s6 h)
theorem D1_ok {K : T1} {g : Env} {h : H} (hq : D1 K g h) : ∃ (x0 : Int) (x1 : List UInt8), E1 g x0 x1 ∧ K x0 x1 h := by
  obtain ⟨hd, hq⟩ := nilDs_ok hq
  obtain ⟨y8, e7, q9⟩ := vInt_ok hq
  obtain ⟨y11, e10, q12⟩ := vStr_ok q9
  exact ⟨y8, y11, ⟨e7, e10, hd⟩, q12⟩
noncomputable def n1_c1 : Code := cFst code
noncomputable def n1_c2 : Code := cSnd code
noncomputable def n2_c1 : Code := cFst n1_c2
noncomputable def n2_c2 : Code := cSnd n1_c2
abbrev T2 := H → Prop
def E2 (g : Env)  : Prop := g.ds = []
def D2 (K : T2) (g : Env) (h : H) : Prop := nilDs g.ds (K h)
theorem D2_ok {K : T2} {g : Env} {h : H} (hq : D2 K g h) : E2 g  ∧ K  h := by
  obtain ⟨hd, hq⟩ := nilDs_ok hq
  skip
  exact ⟨hd, hq⟩
abbrev n3  (Kn : T0) (Kr : T0) (h : H) : Prop :=
  Kr false h
theorem n3_ok  (Kn : T0) (Kr : T0) (g : Env) (hg : E2 g ) (h : H) (hS : n3  Kn Kr h) : wpC none Tryd.prog 17 n2_c2 (Q0 Kn Kr) g h := by
  have hds : g.ds = [] := hg
  refine wpC_of_wpx (by kernel_rfl) (by kernel_rfl) (g' := ⟨g.v, []⟩) (by rw [env_ds hds]) ?_
  have e : (n3  Kn Kr h) = wpx none Tryd.prog 17 n2_c2 (Q0 Kn Kr) (⟨g.v, []⟩) h := by kernel_rfl
  exact e ▸ hS
def Q1 (Kn : T2) (Kr : T0) : XPost
  | .normal, g, h => D2 Kn g h
  | .ret, g, h => D0 Kr g h
  | _, _, _ => False
noncomputable def n4_c1 : Code := cFst n2_c1
noncomputable def n4_c2 : Code := cSnd n2_c1
abbrev T3 := Int → (List UInt8) → Int → H → Prop
def E3 (g : Env) (x0 : Int) (x1 : List UInt8) (x5 : Int) : Prop := g.v 0 = (.int .u8 x0) ∧ g.v 1 = (S x1) ∧ g.v 5 = (.int .i64 x5) ∧ g.ds = []
def D3 (K : T3) (g : Env) (h : H) : Prop := nilDs g.ds (vInt .u8 (g.v 0) fun i13 => vStr (g.v 1) fun s14 => vInt .i64 (g.v 5) fun i15 => K i13 s14 i15 h)
theorem D3_ok {K : T3} {g : Env} {h : H} (hq : D3 K g h) : ∃ (x0 : Int) (x1 : List UInt8) (x5 : Int), E3 g x0 x1 x5 ∧ K x0 x1 x5 h := by
  obtain ⟨hd, hq⟩ := nilDs_ok hq
  obtain ⟨y17, e16, q18⟩ := vInt_ok hq
  obtain ⟨y20, e19, q21⟩ := vStr_ok q18
  obtain ⟨y23, e22, q24⟩ := vInt_ok q21
  exact ⟨y17, y20, y23, ⟨e16, e19, e22, hd⟩, q24⟩
noncomputable def n5_c1 : Code := cFst n4_c2
def Q2 (Kn : T2) (Ke0 : T2) (Kr : T0) : XPost
  | .normal, g, h => D2 Kn g h
  | .ret, g, h => D0 Kr g h
  | .exit id, g, h => cond (Nat.beq id 0) (D2 Ke0 g h) (False)
  | _, _, _ => False
noncomputable def n6_c1 : Code := cFst n5_c1
def Q3 (Kn : T3) (Ke0 : T2) (Kr : T0) : XPost
  | .normal, g, h => D3 Kn g h
  | .ret, g, h => D0 Kr g h
  | .exit id, g, h => cond (Nat.beq id 0) (D2 Ke0 g h) (False)
  | _, _, _ => False
def n6_L (Kn : T2) (Ke0 : T2) (Kr : T0) : Nat → Int → (List UInt8) → Int → H → Prop
  | 0 => fun _ _ _ _ => False
  | N + 1 => fun x0 x1 x5 h => Spl (x5 < (x1.length : Int)) ((0 ≤ x5 ∧ x5 < (x1.length : Int)) ∧ (Spl (((List.getD x1 (Int.toNat x5) 0).toNat : Int) = x0) (Kr true h) (Rng .i64 (x5 + (1 : Int)) ∧ (n6_L Kn Ke0 Kr N x0 x1 (x5 + (1 : Int)) h)))) (Ke0 h)
abbrev n6 (x0 : Int) (x1 : List UInt8) (x5 : Int) (Kn : T2) (Ke0 : T2) (Kr : T0) (h : H) : Prop := ∃ N, n6_L Kn Ke0 Kr N x0 x1 x5 h
theorem n6_ok (x0 : Int) (x1 : List UInt8) (x5 : Int) (Kn : T2) (Ke0 : T2) (Kr : T0) (g : Env) (hg : E3 g x0 x1 x5) (h : H) (hS : n6 x0 x1 x5 Kn Ke0 Kr h) : wpC none Tryd.prog 17 n5_c1 (Q2 Kn Ke0 Kr) g h := by
  obtain ⟨N0, hS⟩ := hS
  refine wpC_loop' (x := n6_c1) (by kernel_rfl) (fun k g h => ∃ (x0 : Int) (x1 : List UInt8) (x5 : Int), E3 g x0 x1 x5 ∧ n6_L Kn Ke0 Kr k x0 x1 x5 h) (fun g h hr => ?_) (fun N g h hr => ?_) N0 ⟨x0, x1, x5, hg, hS⟩
  · obtain ⟨x0, x1, x5, hg, hS⟩ := hr
    exact hS.elim
  · obtain ⟨x0, x1, x5, hg, hS⟩ := hr
    have hw : wpC none Tryd.prog 17 n6_c1 (Q3 (fun z0 z1 z5 h => n6_L Kn Ke0 Kr N z0 z1 z5 h) Ke0 Kr) g h := by
      obtain ⟨hg0, hg1, hg5, hds⟩ := hg
      refine wpC_of_wpx (by kernel_rfl) (by kernel_rfl) (g' := (((⟨g.v, []⟩ : Env).upd (some 0) (.int .u8 x0)).upd (some 1) (S x1)).upd (some 5) (.int .i64 x5)) (by rw [env_ds hds, upd_self hg0, upd_self hg1, upd_self hg5]) ?_
      have e : (n6_L Kn Ke0 Kr (N + 1) x0 x1 x5 h) = wpx none Tryd.prog 17 n6_c1 (Q3 (fun z0 z1 z5 h => n6_L Kn Ke0 Kr N z0 z1 z5 h) Ke0 Kr) ((((⟨g.v, []⟩ : Env).upd (some 0) (.int .u8 x0)).upd (some 1) (S x1)).upd (some 5) (.int .i64 x5)) h := by kernel_rfl
      exact e ▸ hS
    refine hw.mono ?_
    intro e g' h' hq
    cases e with
    | normal => exact D3_ok (K := (fun z0 z1 z5 h => n6_L Kn Ke0 Kr N z0 z1 z5 h)) hq
    | _ => exact hq
abbrev n5 (x0 : Int) (x1 : List UInt8) (x5 : Int) (Kn : T2) (Kr : T0) (h : H) : Prop := n6 x0 x1 x5 Kn Kn Kr h
theorem n5_ok (x0 : Int) (x1 : List UInt8) (x5 : Int) (Kn : T2) (Kr : T0) (g : Env) (hg : E3 g x0 x1 x5) (h : H) (hS : n5 x0 x1 x5 Kn Kr h) : wpC none Tryd.prog 17 n4_c2 (Q1 Kn Kr) g h := by
  refine wpC_block' (id := 0) (x := n5_c1) (by kernel_rfl) (n6_ok x0 x1 x5 Kn Kn Kr g hg h hS) ?_
  intro e g' h' hq
  cases e <;> exact hq
def Q4 (Kn : T3) (Kr : T0) : XPost
  | .normal, g, h => D3 Kn g h
  | .ret, g, h => D0 Kr g h
  | _, _, _ => False
abbrev n4 (x0 : Int) (x1 : List UInt8) (Kn : T2) (Kr : T0) (h : H) : Prop :=
  n5 x0 x1 (0 : Int) Kn Kr h
theorem n4_ok (x0 : Int) (x1 : List UInt8) (Kn : T2) (Kr : T0) (g : Env) (hg : E1 g x0 x1) (h : H) (hS : n4 x0 x1 Kn Kr h) : wpC none Tryd.prog 17 n2_c1 (Q1 Kn Kr) g h := by
  obtain ⟨hg0, hg1, hds⟩ := hg
  refine wpC_seq' (x := n4_c1) (y := n4_c2) (Q' := (Q4 (fun z0 z1 z5 h => n5 z0 z1 z5 Kn Kr h) Kr)) (by kernel_rfl) ?_ ?_
  · refine wpC_of_wpx (by kernel_rfl) (by kernel_rfl) (g' := ((⟨g.v, []⟩ : Env).upd (some 0) (.int .u8 x0)).upd (some 1) (S x1)) (by rw [env_ds hds, upd_self hg0, upd_self hg1]) ?_
    have e : (n4 x0 x1 Kn Kr h) = wpx none Tryd.prog 17 n4_c1 (Q4 (fun z0 z1 z5 h => n5 z0 z1 z5 Kn Kr h) Kr) (((⟨g.v, []⟩ : Env).upd (some 0) (.int .u8 x0)).upd (some 1) (S x1)) h := by kernel_rfl
    exact e ▸ hS
  · intro e g' h' hq
    cases e with
    | normal =>
      have hq : D3 (fun z0 z1 z5 h => n5 z0 z1 z5 Kn Kr h) g' h' := hq
      obtain ⟨y0, y1, y5, hg', hq⟩ := D3_ok hq
      exact n5_ok y0 y1 y5 Kn Kr g' hg' h' hq
    | _ => exact hq
abbrev n2 (x0 : Int) (x1 : List UInt8) (Kn : T0) (Kr : T0) (h : H) : Prop := n4 x0 x1 (fun  h => n3 Kn Kr h) Kr h
theorem n2_ok (x0 : Int) (x1 : List UInt8) (Kn : T0) (Kr : T0) (g : Env) (hg : E1 g x0 x1) (h : H) (hS : n2 x0 x1 Kn Kr h) : wpC none Tryd.prog 17 n1_c2 (Q0 Kn Kr) g h := by
  refine wpC_seq' (x := n2_c1) (y := n2_c2) (by kernel_rfl) (n4_ok x0 x1 (fun  h => n3 Kn Kr h) Kr g hg h hS) ?_
  intro e g' h' hq
  cases e with
  | normal =>
    have hq : D2 (fun  h => n3 Kn Kr h) g' h' := hq
    obtain ⟨hg', hq⟩ := D2_ok hq
    exact n3_ok  Kn Kr g' hg' h' hq
  | _ => exact hq
def Q5 (Kn : T1) (Kr : T0) : XPost
  | .normal, g, h => D1 Kn g h
  | .ret, g, h => D0 Kr g h
  | _, _, _ => False
abbrev n1 (x0 : Int) (x1 : List UInt8) (Kn : T0) (Kr : T0) (h : H) : Prop :=
  n2 x0 x1 Kn Kr h
theorem n1_ok (x0 : Int) (x1 : List UInt8) (Kn : T0) (Kr : T0) (g : Env) (hg : E1 g x0 x1) (h : H) (hS : n1 x0 x1 Kn Kr h) : wpC none Tryd.prog 17 code (Q0 Kn Kr) g h := by
  obtain ⟨hg0, hg1, hds⟩ := hg
  refine wpC_seq' (x := n1_c1) (y := n1_c2) (Q' := (Q5 (fun z0 z1 h => n2 z0 z1 Kn Kr h) Kr)) (by kernel_rfl) ?_ ?_
  · refine wpC_of_wpx (by kernel_rfl) (by kernel_rfl) (g' := ((⟨g.v, []⟩ : Env).upd (some 0) (.int .u8 x0)).upd (some 1) (S x1)) (by rw [env_ds hds, upd_self hg0, upd_self hg1]) ?_
    have e : (n1 x0 x1 Kn Kr h) = wpx none Tryd.prog 17 n1_c1 (Q5 (fun z0 z1 h => n2 z0 z1 Kn Kr h) Kr) (((⟨g.v, []⟩ : Env).upd (some 0) (.int .u8 x0)).upd (some 1) (S x1)) h := by kernel_rfl
    exact e ▸ hS
  · intro e g' h' hq
    cases e with
    | normal =>
      have hq : D1 (fun z0 z1 h => n2 z0 z1 Kn Kr h) g' h' := hq
      obtain ⟨y0, y1, hg', hq⟩ := D1_ok hq
      exact n2_ok y0 y1 Kn Kr g' hg' h' hq
    | _ => exact hq
/-- WHAT tympan/tympanref28.in ASKS -/
abbrev asks (x0 : Int) (x1 : List UInt8) (K : Value → H → Prop) (h : H) : Prop := n1 x0 x1 (fun y4 h => K (.bool y4) h) (fun y4 h => K (.bool y4) h) h
theorem ok (x0 : Int) (x1 : List UInt8) (K : Value → H → Prop) (h : H) (hS : asks x0 x1 K h) : HCalls Tryd.prog 28 ⟨[(.int .u8 x0), (S x1)]⟩ h K := by
  refine calls_of_wpC (c := code) Tryd.func28 (by kernel_rfl) (Nat.le_of_ble_eq_true (by kernel_rfl)) ?_
  refine (n1_ok x0 x1 (fun y4 h => K (.bool y4) h) (fun y4 h => K (.bool y4) h) (env0 [(.int .u8 x0), (S x1)]) ⟨rfl, rfl, rfl⟩ h hS).mono ?_
  intro e g' h' hq
  cases e with
  | normal =>
    have hq : D0 (fun y4 h => K (.bool y4) h) g' h' := hq
    obtain ⟨y4, ⟨hg4, hd⟩, hq⟩ := D0_ok hq
    show leaveX g'.ds h' _
    rw [hd]
    show K (g'.v 4) h'
    rw [hg4]
    exact hq
  | ret =>
    have hq : D0 (fun y4 h => K (.bool y4) h) g' h' := hq
    obtain ⟨y4, ⟨hg4, hd⟩, hq⟩ := D0_ok hq
    show leaveX g'.ds h' _
    rw [hd]
    show K (g'.v 4) h'
    rw [hg4]
    exact hq
  | _ => exact hq
end Sx.r28_in

/-! ### tympan/tympanref28.count -/
namespace Sx.r28_count
noncomputable def code : Code := bodyOf Tryd.f43
abbrev T0 := Int → H → Prop
def E0 (g : Env) (x4 : Int) : Prop := g.v 4 = (.int .i64 x4) ∧ g.ds = []
def D0 (K : T0) (g : Env) (h : H) : Prop := nilDs g.ds (vInt .i64 (g.v 4) fun i1 => K i1 h)
theorem D0_ok {K : T0} {g : Env} {h : H} (hq : D0 K g h) : ∃ (x4 : Int), E0 g x4 ∧ K x4 h := by
  obtain ⟨hd, hq⟩ := nilDs_ok hq
  obtain ⟨y3, e2, q4⟩ := vInt_ok hq
  exact ⟨y3, ⟨e2, hd⟩, q4⟩
def Q0 (Kn : T0) (Kr : T0) : XPost
  | .normal, g, h => D0 Kn g h
  | .ret, g, h => D0 Kr g h
  | _, _, _ => False
abbrev T1 := (List UInt8) → Int → H → Prop
def E1 (g : Env) (x0 : List UInt8) (x1 : Int) : Prop := g.v 0 = (S x0) ∧ g.v 1 = (.int .u8 x1) ∧ g.ds = []
def D1 (K : T1) (g : Env) (h : H) : Prop := nilDs g.ds (vStr (g.v 0) fun s5 => vInt .u8 (g.v 1) fun i6 => K s5 i6 h)
theorem D1_ok {K : T1} {g : Env} {h : H} (hq : D1 K g h) : ∃ (x0 : List UInt8) (x1 : Int), E1 g x0 x1 ∧ K x0 x1 h := by
  obtain ⟨hd, hq⟩ := nilDs_ok hq
  obtain ⟨y8, e7, q9⟩ := vStr_ok hq
  obtain ⟨y11, e10, q12⟩ := vInt_ok q9
  exact ⟨y8, y11, ⟨e7, e10, hd⟩, q12⟩
noncomputable def n1_c1 : Code := cFst code
noncomputable def n1_c2 : Code := cSnd code
noncomputable def n2_c1 : Code := cFst n1_c2
noncomputable def n2_c2 : Code := cSnd n1_c2
abbrev T2 := (List UInt8) → Int → Int → H → Prop
def E2 (g : Env) (x0 : List UInt8) (x1 : Int) (x5 : Int) : Prop := g.v 0 = (S x0) ∧ g.v 1 = (.int .u8 x1) ∧ g.v 5 = (.int .i64 x5) ∧ g.ds = []
def D2 (K : T2) (g : Env) (h : H) : Prop := nilDs g.ds (vStr (g.v 0) fun s13 => vInt .u8 (g.v 1) fun i14 => vInt .i64 (g.v 5) fun i15 => K s13 i14 i15 h)
theorem D2_ok {K : T2} {g : Env} {h : H} (hq : D2 K g h) : ∃ (x0 : List UInt8) (x1 : Int) (x5 : Int), E2 g x0 x1 x5 ∧ K x0 x1 x5 h := by
  obtain ⟨hd, hq⟩ := nilDs_ok hq
  obtain ⟨y17, e16, q18⟩ := vStr_ok hq
  obtain ⟨y20, e19, q21⟩ := vInt_ok q18
  obtain ⟨y23, e22, q24⟩ := vInt_ok q21
  exact ⟨y17, y20, y23, ⟨e16, e19, e22, hd⟩, q24⟩
noncomputable def n3_c1 : Code := cFst n2_c2
noncomputable def n3_c2 : Code := cSnd n2_c2
abbrev T3 := Int → H → Prop
def E3 (g : Env) (x5 : Int) : Prop := g.v 5 = (.int .i64 x5) ∧ g.ds = []
def D3 (K : T3) (g : Env) (h : H) : Prop := nilDs g.ds (vInt .i64 (g.v 5) fun i25 => K i25 h)
theorem D3_ok {K : T3} {g : Env} {h : H} (hq : D3 K g h) : ∃ (x5 : Int), E3 g x5 ∧ K x5 h := by
  obtain ⟨hd, hq⟩ := nilDs_ok hq
  obtain ⟨y27, e26, q28⟩ := vInt_ok hq
  exact ⟨y27, ⟨e26, hd⟩, q28⟩
abbrev n4 (x5 : Int) (Kn : T0) (Kr : T0) (h : H) : Prop :=
  Kr x5 h
theorem n4_ok (x5 : Int) (Kn : T0) (Kr : T0) (g : Env) (hg : E3 g x5) (h : H) (hS : n4 x5 Kn Kr h) : wpC none Tryd.prog 21 n3_c2 (Q0 Kn Kr) g h := by
  obtain ⟨hg5, hds⟩ := hg
  refine wpC_of_wpx (by kernel_rfl) (by kernel_rfl) (g' := (⟨g.v, []⟩ : Env).upd (some 5) (.int .i64 x5)) (by rw [env_ds hds, upd_self hg5]) ?_
  have e : (n4 x5 Kn Kr h) = wpx none Tryd.prog 21 n3_c2 (Q0 Kn Kr) ((⟨g.v, []⟩ : Env).upd (some 5) (.int .i64 x5)) h := by kernel_rfl
  exact e ▸ hS
def Q1 (Kn : T3) (Kr : T0) : XPost
  | .normal, g, h => D3 Kn g h
  | .ret, g, h => D0 Kr g h
  | _, _, _ => False
noncomputable def n5_c1 : Code := cFst n3_c1
noncomputable def n5_c2 : Code := cSnd n3_c1
abbrev T4 := (List UInt8) → Int → Int → Int → H → Prop
def E4 (g : Env) (x0 : List UInt8) (x1 : Int) (x5 : Int) (x6 : Int) : Prop := g.v 0 = (S x0) ∧ g.v 1 = (.int .u8 x1) ∧ g.v 5 = (.int .i64 x5) ∧ g.v 6 = (.int .i64 x6) ∧ g.ds = []
def D4 (K : T4) (g : Env) (h : H) : Prop := nilDs g.ds (vStr (g.v 0) fun s29 => vInt .u8 (g.v 1) fun i30 => vInt .i64 (g.v 5) fun i31 => vInt .i64 (g.v 6) fun i32 => K s29 i30 i31 i32 h)
theorem D4_ok {K : T4} {g : Env} {h : H} (hq : D4 K g h) : ∃ (x0 : List UInt8) (x1 : Int) (x5 : Int) (x6 : Int), E4 g x0 x1 x5 x6 ∧ K x0 x1 x5 x6 h := by
  obtain ⟨hd, hq⟩ := nilDs_ok hq
  obtain ⟨y34, e33, q35⟩ := vStr_ok hq
  obtain ⟨y37, e36, q38⟩ := vInt_ok q35
  obtain ⟨y40, e39, q41⟩ := vInt_ok q38
  obtain ⟨y43, e42, q44⟩ := vInt_ok q41
  exact ⟨y34, y37, y40, y43, ⟨e33, e36, e39, e42, hd⟩, q44⟩
noncomputable def n6_c1 : Code := cFst n5_c2
def Q2 (Kn : T3) (Ke0 : T3) (Kr : T0) : XPost
  | .normal, g, h => D3 Kn g h
  | .ret, g, h => D0 Kr g h
  | .exit id, g, h => cond (Nat.beq id 0) (D3 Ke0 g h) (False)
  | _, _, _ => False
noncomputable def n7_c1 : Code := cFst n6_c1
def Q3 (Kn : T4) (Ke0 : T3) (Kr : T0) : XPost
  | .normal, g, h => D4 Kn g h
  | .ret, g, h => D0 Kr g h
  | .exit id, g, h => cond (Nat.beq id 0) (D3 Ke0 g h) (False)
  | _, _, _ => False
def n7_L (Kn : T3) (Ke0 : T3) (Kr : T0) : Nat → (List UInt8) → Int → Int → Int → H → Prop
  | 0 => fun _ _ _ _ _ => False
  | N + 1 => fun x0 x1 x5 x6 h => Spl (x6 < (x0.length : Int)) ((0 ≤ x6 ∧ x6 < (x0.length : Int)) ∧ (Spl (((List.getD x0 (Int.toNat x6) 0).toNat : Int) = x1) (Rng .i64 (x5 + (1 : Int)) ∧ (Rng .i64 (x6 + (1 : Int)) ∧ (n7_L Kn Ke0 Kr N x0 x1 (x5 + (1 : Int)) (x6 + (1 : Int)) h))) (Rng .i64 (x6 + (1 : Int)) ∧ (n7_L Kn Ke0 Kr N x0 x1 x5 (x6 + (1 : Int)) h)))) (Ke0 x5 h)
abbrev n7 (x0 : List UInt8) (x1 : Int) (x5 : Int) (x6 : Int) (Kn : T3) (Ke0 : T3) (Kr : T0) (h : H) : Prop := ∃ N, n7_L Kn Ke0 Kr N x0 x1 x5 x6 h
theorem n7_ok (x0 : List UInt8) (x1 : Int) (x5 : Int) (x6 : Int) (Kn : T3) (Ke0 : T3) (Kr : T0) (g : Env) (hg : E4 g x0 x1 x5 x6) (h : H) (hS : n7 x0 x1 x5 x6 Kn Ke0 Kr h) : wpC none Tryd.prog 21 n6_c1 (Q2 Kn Ke0 Kr) g h := by
  obtain ⟨N0, hS⟩ := hS
  refine wpC_loop' (x := n7_c1) (by kernel_rfl) (fun k g h => ∃ (x0 : List UInt8) (x1 : Int) (x5 : Int) (x6 : Int), E4 g x0 x1 x5 x6 ∧ n7_L Kn Ke0 Kr k x0 x1 x5 x6 h) (fun g h hr => ?_) (fun N g h hr => ?_) N0 ⟨x0, x1, x5, x6, hg, hS⟩
  · obtain ⟨x0, x1, x5, x6, hg, hS⟩ := hr
    exact hS.elim
  · obtain ⟨x0, x1, x5, x6, hg, hS⟩ := hr
    have hw : wpC none Tryd.prog 21 n7_c1 (Q3 (fun z0 z1 z5 z6 h => n7_L Kn Ke0 Kr N z0 z1 z5 z6 h) Ke0 Kr) g h := by
      obtain ⟨hg0, hg1, hg5, hg6, hds⟩ := hg
      refine wpC_of_wpx (by kernel_rfl) (by kernel_rfl) (g' := ((((⟨g.v, []⟩ : Env).upd (some 0) (S x0)).upd (some 1) (.int .u8 x1)).upd (some 5) (.int .i64 x5)).upd (some 6) (.int .i64 x6)) (by rw [env_ds hds, upd_self hg0, upd_self hg1, upd_self hg5, upd_self hg6]) ?_
      have e : (n7_L Kn Ke0 Kr (N + 1) x0 x1 x5 x6 h) = wpx none Tryd.prog 21 n7_c1 (Q3 (fun z0 z1 z5 z6 h => n7_L Kn Ke0 Kr N z0 z1 z5 z6 h) Ke0 Kr) (((((⟨g.v, []⟩ : Env).upd (some 0) (S x0)).upd (some 1) (.int .u8 x1)).upd (some 5) (.int .i64 x5)).upd (some 6) (.int .i64 x6)) h := by kernel_rfl
      exact e ▸ hS
    refine hw.mono ?_
    intro e g' h' hq
    cases e with
    | normal => exact D4_ok (K := (fun z0 z1 z5 z6 h => n7_L Kn Ke0 Kr N z0 z1 z5 z6 h)) hq
    | _ => exact hq
abbrev n6 (x0 : List UInt8) (x1 : Int) (x5 : Int) (x6 : Int) (Kn : T3) (Kr : T0) (h : H) : Prop := n7 x0 x1 x5 x6 Kn Kn Kr h
theorem n6_ok (x0 : List UInt8) (x1 : Int) (x5 : Int) (x6 : Int) (Kn : T3) (Kr : T0) (g : Env) (hg : E4 g x0 x1 x5 x6) (h : H) (hS : n6 x0 x1 x5 x6 Kn Kr h) : wpC none Tryd.prog 21 n5_c2 (Q1 Kn Kr) g h := by
  refine wpC_block' (id := 0) (x := n6_c1) (by kernel_rfl) (n7_ok x0 x1 x5 x6 Kn Kn Kr g hg h hS) ?_
  intro e g' h' hq
  cases e <;> exact hq
def Q4 (Kn : T4) (Kr : T0) : XPost
  | .normal, g, h => D4 Kn g h
  | .ret, g, h => D0 Kr g h
  | _, _, _ => False
abbrev n5 (x0 : List UInt8) (x1 : Int) (x5 : Int) (Kn : T3) (Kr : T0) (h : H) : Prop :=
  n6 x0 x1 x5 (0 : Int) Kn Kr h
theorem n5_ok (x0 : List UInt8) (x1 : Int) (x5 : Int) (Kn : T3) (Kr : T0) (g : Env) (hg : E2 g x0 x1 x5) (h : H) (hS : n5 x0 x1 x5 Kn Kr h) : wpC none Tryd.prog 21 n3_c1 (Q1 Kn Kr) g h := by
  obtain ⟨hg0, hg1, hg5, hds⟩ := hg
  refine wpC_seq' (x := n5_c1) (y := n5_c2) (Q' := (Q4 (fun z0 z1 z5 z6 h => n6 z0 z1 z5 z6 Kn Kr h) Kr)) (by kernel_rfl) ?_ ?_
  · refine wpC_of_wpx (by kernel_rfl) (by kernel_rfl) (g' := (((⟨g.v, []⟩ : Env).upd (some 0) (S x0)).upd (some 1) (.int .u8 x1)).upd (some 5) (.int .i64 x5)) (by rw [env_ds hds, upd_self hg0, upd_self hg1, upd_self hg5]) ?_
    have e : (n5 x0 x1 x5 Kn Kr h) = wpx none Tryd.prog 21 n5_c1 (Q4 (fun z0 z1 z5 z6 h => n6 z0 z1 z5 z6 Kn Kr h) Kr) ((((⟨g.v, []⟩ : Env).upd (some 0) (S x0)).upd (some 1) (.int .u8 x1)).upd (some 5) (.int .i64 x5)) h := by kernel_rfl
    exact e ▸ hS
  · intro e g' h' hq
    cases e with
    | normal =>
      have hq : D4 (fun z0 z1 z5 z6 h => n6 z0 z1 z5 z6 Kn Kr h) g' h' := hq
      obtain ⟨y0, y1, y5, y6, hg', hq⟩ := D4_ok hq
      exact n6_ok y0 y1 y5 y6 Kn Kr g' hg' h' hq
    | _ => exact hq
abbrev n3 (x0 : List UInt8) (x1 : Int) (x5 : Int) (Kn : T0) (Kr : T0) (h : H) : Prop := n5 x0 x1 x5 (fun z5 h => n4 z5 Kn Kr h) Kr h
theorem n3_ok (x0 : List UInt8) (x1 : Int) (x5 : Int) (Kn : T0) (Kr : T0) (g : Env) (hg : E2 g x0 x1 x5) (h : H) (hS : n3 x0 x1 x5 Kn Kr h) : wpC none Tryd.prog 21 n2_c2 (Q0 Kn Kr) g h := by
  refine wpC_seq' (x := n3_c1) (y := n3_c2) (by kernel_rfl) (n5_ok x0 x1 x5 (fun z5 h => n4 z5 Kn Kr h) Kr g hg h hS) ?_
  intro e g' h' hq
  cases e with
  | normal =>
    have hq : D3 (fun z5 h => n4 z5 Kn Kr h) g' h' := hq
    obtain ⟨y5, hg', hq⟩ := D3_ok hq
    exact n4_ok y5 Kn Kr g' hg' h' hq
  | _ => exact hq
def Q5 (Kn : T2) (Kr : T0) : XPost
  | .normal, g, h => D2 Kn g h
  | .ret, g, h => D0 Kr g h
  | _, _, _ => False
abbrev n2 (x0 : List UInt8) (x1 : Int) (Kn : T0) (Kr : T0) (h : H) : Prop :=
  n3 x0 x1 (0 : Int) Kn Kr h
theorem n2_ok (x0 : List UInt8) (x1 : Int) (Kn : T0) (Kr : T0) (g : Env) (hg : E1 g x0 x1) (h : H) (hS : n2 x0 x1 Kn Kr h) : wpC none Tryd.prog 21 n1_c2 (Q0 Kn Kr) g h := by
  obtain ⟨hg0, hg1, hds⟩ := hg
  refine wpC_seq' (x := n2_c1) (y := n2_c2) (Q' := (Q5 (fun z0 z1 z5 h => n3 z0 z1 z5 Kn Kr h) Kr)) (by kernel_rfl) ?_ ?_
  · refine wpC_of_wpx (by kernel_rfl) (by kernel_rfl) (g' := ((⟨g.v, []⟩ : Env).upd (some 0) (S x0)).upd (some 1) (.int .u8 x1)) (by rw [env_ds hds, upd_self hg0, upd_self hg1]) ?_
    have e : (n2 x0 x1 Kn Kr h) = wpx none Tryd.prog 21 n2_c1 (Q5 (fun z0 z1 z5 h => n3 z0 z1 z5 Kn Kr h) Kr) (((⟨g.v, []⟩ : Env).upd (some 0) (S x0)).upd (some 1) (.int .u8 x1)) h := by kernel_rfl
    exact e ▸ hS
  · intro e g' h' hq
    cases e with
    | normal =>
      have hq : D2 (fun z0 z1 z5 h => n3 z0 z1 z5 Kn Kr h) g' h' := hq
      obtain ⟨y0, y1, y5, hg', hq⟩ := D2_ok hq
      exact n3_ok y0 y1 y5 Kn Kr g' hg' h' hq
    | _ => exact hq
def Q6 (Kn : T1) (Kr : T0) : XPost
  | .normal, g, h => D1 Kn g h
  | .ret, g, h => D0 Kr g h
  | _, _, _ => False
abbrev n1 (x0 : List UInt8) (x1 : Int) (Kn : T0) (Kr : T0) (h : H) : Prop :=
  n2 x0 x1 Kn Kr h
theorem n1_ok (x0 : List UInt8) (x1 : Int) (Kn : T0) (Kr : T0) (g : Env) (hg : E1 g x0 x1) (h : H) (hS : n1 x0 x1 Kn Kr h) : wpC none Tryd.prog 21 code (Q0 Kn Kr) g h := by
  obtain ⟨hg0, hg1, hds⟩ := hg
  refine wpC_seq' (x := n1_c1) (y := n1_c2) (Q' := (Q6 (fun z0 z1 h => n2 z0 z1 Kn Kr h) Kr)) (by kernel_rfl) ?_ ?_
  · refine wpC_of_wpx (by kernel_rfl) (by kernel_rfl) (g' := ((⟨g.v, []⟩ : Env).upd (some 0) (S x0)).upd (some 1) (.int .u8 x1)) (by rw [env_ds hds, upd_self hg0, upd_self hg1]) ?_
    have e : (n1 x0 x1 Kn Kr h) = wpx none Tryd.prog 21 n1_c1 (Q6 (fun z0 z1 h => n2 z0 z1 Kn Kr h) Kr) (((⟨g.v, []⟩ : Env).upd (some 0) (S x0)).upd (some 1) (.int .u8 x1)) h := by kernel_rfl
    exact e ▸ hS
  · intro e g' h' hq
    cases e with
    | normal =>
      have hq : D1 (fun z0 z1 h => n2 z0 z1 Kn Kr h) g' h' := hq
      obtain ⟨y0, y1, hg', hq⟩ := D1_ok hq
      exact n2_ok y0 y1 Kn Kr g' hg' h' hq
    | _ => exact hq
/-- WHAT tympan/tympanref28.count ASKS -/
abbrev asks (x0 : List UInt8) (x1 : Int) (K : Value → H → Prop) (h : H) : Prop := n1 x0 x1 (fun y4 h => K (.int .i64 y4) h) (fun y4 h => K (.int .i64 y4) h) h
theorem ok (x0 : List UInt8) (x1 : Int) (K : Value → H → Prop) (h : H) (hS : asks x0 x1 K h) : HCalls Tryd.prog 43 ⟨[(S x0), (.int .u8 x1)]⟩ h K := by
  refine calls_of_wpC (c := code) Tryd.func43 (by kernel_rfl) (Nat.le_of_ble_eq_true (by kernel_rfl)) ?_
  refine (n1_ok x0 x1 (fun y4 h => K (.int .i64 y4) h) (fun y4 h => K (.int .i64 y4) h) (env0 [(S x0), (.int .u8 x1)]) ⟨rfl, rfl, rfl⟩ h hS).mono ?_
  intro e g' h' hq
  cases e with
  | normal =>
    have hq : D0 (fun y4 h => K (.int .i64 y4) h) g' h' := hq
    obtain ⟨y4, ⟨hg4, hd⟩, hq⟩ := D0_ok hq
    show leaveX g'.ds h' _
    rw [hd]
    show K (g'.v 4) h'
    rw [hg4]
    exact hq
  | ret =>
    have hq : D0 (fun y4 h => K (.int .i64 y4) h) g' h' := hq
    obtain ⟨y4, ⟨hg4, hd⟩, hq⟩ := D0_ok hq
    show leaveX g'.ds h' _
    rw [hd]
    show K (g'.v 4) h'
    rw [hg4]
    exact hq
  | _ => exact hq
end Sx.r28_count

/-! ### tympan/tympanref02.Letter -/
namespace Sx.r02_Letter
noncomputable def code : Code := bodyOf Tryd.f44
abbrev T0 := Bool → H → Prop
def E0 (g : Env) (x2 : Bool) : Prop := g.v 2 = (.bool x2) ∧ g.ds = []
def D0 (K : T0) (g : Env) (h : H) : Prop := nilDs g.ds (vBool (g.v 2) fun b1 => K b1 h)
theorem D0_ok {K : T0} {g : Env} {h : H} (hq : D0 K g h) : ∃ (x2 : Bool), E0 g x2 ∧ K x2 h := by
  obtain ⟨hd, hq⟩ := nilDs_ok hq
  obtain ⟨y3, e2, q4⟩ := vBool_ok hq
  exact ⟨y3, ⟨e2, hd⟩, q4⟩
def Q0 (Kn : T0) (Kr : T0) : XPost
  | .normal, g, h => D0 Kn g h
  | .ret, g, h => D0 Kr g h
  | _, _, _ => False
abbrev T1 := Int → H → Prop
def E1 (g : Env) (x0 : Int) : Prop := g.v 0 = (.int .u8 x0) ∧ g.ds = []
def D1 (K : T1) (g : Env) (h : H) : Prop := nilDs g.ds (vInt .u8 (g.v 0) fun i5 => K i5 h)
theorem D1_ok {K : T1} {g : Env} {h : H} (hq : D1 K g h) : ∃ (x0 : Int), E1 g x0 ∧ K x0 h := by
  obtain ⟨hd, hq⟩ := nilDs_ok hq
  obtain ⟨y7, e6, q8⟩ := vInt_ok hq
  exact ⟨y7, ⟨e6, hd⟩, q8⟩
abbrev n1 (x0 : Int) (Kn : T0) (Kr : T0) (h : H) : Prop :=
  Spl (x0 ≥ (97 : Int)) (Spl (x0 ≤ (122 : Int)) (Kr true h) (Spl (x0 ≥ (65 : Int)) (Spl (x0 ≤ (90 : Int)) (Kr true h) (Kr false h)) (Kr false h))) (Spl (x0 ≥ (65 : Int)) (Spl (x0 ≤ (90 : Int)) (Kr true h) (Kr false h)) (Kr false h))
theorem n1_ok (x0 : Int) (Kn : T0) (Kr : T0) (g : Env) (hg : E1 g x0) (h : H) (hS : n1 x0 Kn Kr h) : wpC none Tryd.prog 17 code (Q0 Kn Kr) g h := by
  obtain ⟨hg0, hds⟩ := hg
  refine wpC_of_wpx (by kernel_rfl) (by kernel_rfl) (g' := (⟨g.v, []⟩ : Env).upd (some 0) (.int .u8 x0)) (by rw [env_ds hds, upd_self hg0]) ?_
  have e : (n1 x0 Kn Kr h) = wpx none Tryd.prog 17 code (Q0 Kn Kr) ((⟨g.v, []⟩ : Env).upd (some 0) (.int .u8 x0)) h := by kernel_rfl
  exact e ▸ hS
/-- WHAT tympan/tympanref02.Letter ASKS -/
abbrev asks (x0 : Int) (K : Value → H → Prop) (h : H) : Prop := n1 x0 (fun y2 h => K (.bool y2) h) (fun y2 h => K (.bool y2) h) h
theorem ok (x0 : Int) (K : Value → H → Prop) (h : H) (hS : asks x0 K h) : HCalls Tryd.prog 44 ⟨[(.int .u8 x0)]⟩ h K := by
  refine calls_of_wpC (c := code) Tryd.func44 (by kernel_rfl) (Nat.le_of_ble_eq_true (by kernel_rfl)) ?_
  refine (n1_ok x0 (fun y2 h => K (.bool y2) h) (fun y2 h => K (.bool y2) h) (env0 [(.int .u8 x0)]) ⟨rfl, rfl⟩ h hS).mono ?_
  intro e g' h' hq
  cases e with
  | normal =>
    have hq : D0 (fun y2 h => K (.bool y2) h) g' h' := hq
    obtain ⟨y2, ⟨hg2, hd⟩, hq⟩ := D0_ok hq
    show leaveX g'.ds h' _
    rw [hd]
    show K (g'.v 2) h'
    rw [hg2]
    exact hq
  | ret =>
    have hq : D0 (fun y2 h => K (.bool y2) h) g' h' := hq
    obtain ⟨y2, ⟨hg2, hd⟩, hq⟩ := D0_ok hq
    show leaveX g'.ds h' _
    rw [hd]
    show K (g'.v 2) h'
    rw [hg2]
    exact hq
  | _ => exact hq
end Sx.r02_Letter

/-! ### tympan/tympanref02.Digit -/
namespace Sx.r02_Digit
noncomputable def code : Code := bodyOf Tryd.f45
abbrev T0 := Bool → H → Prop
def E0 (g : Env) (x2 : Bool) : Prop := g.v 2 = (.bool x2) ∧ g.ds = []
def D0 (K : T0) (g : Env) (h : H) : Prop := nilDs g.ds (vBool (g.v 2) fun b1 => K b1 h)
theorem D0_ok {K : T0} {g : Env} {h : H} (hq : D0 K g h) : ∃ (x2 : Bool), E0 g x2 ∧ K x2 h := by
  obtain ⟨hd, hq⟩ := nilDs_ok hq
  obtain ⟨y3, e2, q4⟩ := vBool_ok hq
  exact ⟨y3, ⟨e2, hd⟩, q4⟩
def Q0 (Kn : T0) (Kr : T0) : XPost
  | .normal, g, h => D0 Kn g h
  | .ret, g, h => D0 Kr g h
  | _, _, _ => False
abbrev T1 := Int → H → Prop
def E1 (g : Env) (x0 : Int) : Prop := g.v 0 = (.int .u8 x0) ∧ g.ds = []
def D1 (K : T1) (g : Env) (h : H) : Prop := nilDs g.ds (vInt .u8 (g.v 0) fun i5 => K i5 h)
theorem D1_ok {K : T1} {g : Env} {h : H} (hq : D1 K g h) : ∃ (x0 : Int), E1 g x0 ∧ K x0 h := by
  obtain ⟨hd, hq⟩ := nilDs_ok hq
  obtain ⟨y7, e6, q8⟩ := vInt_ok hq
  exact ⟨y7, ⟨e6, hd⟩, q8⟩
abbrev n1 (x0 : Int) (Kn : T0) (Kr : T0) (h : H) : Prop :=
  Spl (x0 ≥ (48 : Int)) (Spl (x0 ≤ (57 : Int)) (Kr true h) (Kr false h)) (Kr false h)
theorem n1_ok (x0 : Int) (Kn : T0) (Kr : T0) (g : Env) (hg : E1 g x0) (h : H) (hS : n1 x0 Kn Kr h) : wpC none Tryd.prog 9 code (Q0 Kn Kr) g h := by
  obtain ⟨hg0, hds⟩ := hg
  refine wpC_of_wpx (by kernel_rfl) (by kernel_rfl) (g' := (⟨g.v, []⟩ : Env).upd (some 0) (.int .u8 x0)) (by rw [env_ds hds, upd_self hg0]) ?_
  have e : (n1 x0 Kn Kr h) = wpx none Tryd.prog 9 code (Q0 Kn Kr) ((⟨g.v, []⟩ : Env).upd (some 0) (.int .u8 x0)) h := by kernel_rfl
  exact e ▸ hS
/-- WHAT tympan/tympanref02.Digit ASKS -/
abbrev asks (x0 : Int) (K : Value → H → Prop) (h : H) : Prop := n1 x0 (fun y2 h => K (.bool y2) h) (fun y2 h => K (.bool y2) h) h
theorem ok (x0 : Int) (K : Value → H → Prop) (h : H) (hS : asks x0 K h) : HCalls Tryd.prog 45 ⟨[(.int .u8 x0)]⟩ h K := by
  refine calls_of_wpC (c := code) Tryd.func45 (by kernel_rfl) (Nat.le_of_ble_eq_true (by kernel_rfl)) ?_
  refine (n1_ok x0 (fun y2 h => K (.bool y2) h) (fun y2 h => K (.bool y2) h) (env0 [(.int .u8 x0)]) ⟨rfl, rfl⟩ h hS).mono ?_
  intro e g' h' hq
  cases e with
  | normal =>
    have hq : D0 (fun y2 h => K (.bool y2) h) g' h' := hq
    obtain ⟨y2, ⟨hg2, hd⟩, hq⟩ := D0_ok hq
    show leaveX g'.ds h' _
    rw [hd]
    show K (g'.v 2) h'
    rw [hg2]
    exact hq
  | ret =>
    have hq : D0 (fun y2 h => K (.bool y2) h) g' h' := hq
    obtain ⟨y2, ⟨hg2, hd⟩, hq⟩ := D0_ok hq
    show leaveX g'.ds h' _
    rw [hd]
    show K (g'.v 2) h'
    rw [hg2]
    exact hq
  | _ => exact hq
end Sx.r02_Digit
end Go.Proofs
