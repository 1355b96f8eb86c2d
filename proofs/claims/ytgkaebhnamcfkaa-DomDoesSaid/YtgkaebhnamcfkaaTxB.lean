/- The shallow forms of functions, printed by sh.py out of the translation; each with its proof. No condition. -/
import Derived.Test.YtgkaebhnamcfkaaShJ
import Derived.Test.YtgkaebhnamcfkaaProg
namespace Go.Proofs
open Go Go.Sh
set_option linter.unusedVariables false
set_option maxRecDepth 100000

/-! ### tympan/tympanref00.LentNodes -/
namespace Sx.r00_LentNodes
noncomputable def code : Code := bodyOf Try.f13
abbrev T0 := (Option Addr) → Nat → Nat → H → Prop
def E0 (g : Env) (x2b : Option Addr) (x2n : Nat) (x2c : Nat) : Prop := g.v 2 = (.slice x2b x2n x2c) ∧ g.ds = []
def D0 (K : T0) (g : Env) (h : H) : Prop := nilDs g.ds (vSlice (g.v 2) fun s1b s1n s1c => K s1b s1n s1c h)
theorem D0_ok {K : T0} {g : Env} {h : H} (hq : D0 K g h) : ∃ (x2b : Option Addr) (x2n : Nat) (x2c : Nat), E0 g x2b x2n x2c ∧ K x2b x2n x2c h := by
  obtain ⟨hd, hq⟩ := nilDs_ok hq
  obtain ⟨y3b, y3n, y3c, e2, q4⟩ := vSlice_ok hq
  exact ⟨y3b, y3n, y3c, ⟨e2, hd⟩, q4⟩
def Q0 (Kn : T0) (Kr : T0) : XPost
  | .normal, g, h => D0 Kn g h
  | .ret, g, h => D0 Kr g h
  | _, _, _ => False
abbrev T1 := (Option Addr) → Nat → Nat → H → Prop
def E1 (g : Env) (x0b : Option Addr) (x0n : Nat) (x0c : Nat) : Prop := g.v 0 = (.slice x0b x0n x0c) ∧ g.ds = []
def D1 (K : T1) (g : Env) (h : H) : Prop := nilDs g.ds (vSlice (g.v 0) fun s5b s5n s5c => K s5b s5n s5c h)
theorem D1_ok {K : T1} {g : Env} {h : H} (hq : D1 K g h) : ∃ (x0b : Option Addr) (x0n : Nat) (x0c : Nat), E1 g x0b x0n x0c ∧ K x0b x0n x0c h := by
  obtain ⟨hd, hq⟩ := nilDs_ok hq
  obtain ⟨y7b, y7n, y7c, e6, q8⟩ := vSlice_ok hq
  exact ⟨y7b, y7n, y7c, ⟨e6, hd⟩, q8⟩
noncomputable def n1_c1 : Code := cFst code
noncomputable def n1_c2 : Code := cSnd code
noncomputable def n2_c1 : Code := cFst n1_c2
noncomputable def n2_c2 : Code := cSnd n1_c2
abbrev T2 := (Option Addr) → Nat → Nat → (Option Addr) → Nat → Nat → H → Prop
def E2 (g : Env) (x0b : Option Addr) (x0n : Nat) (x0c : Nat) (x3b : Option Addr) (x3n : Nat) (x3c : Nat) : Prop := g.v 0 = (.slice x0b x0n x0c) ∧ g.v 3 = (.slice x3b x3n x3c) ∧ g.ds = []
def D2 (K : T2) (g : Env) (h : H) : Prop := nilDs g.ds (vSlice (g.v 0) fun s9b s9n s9c => vSlice (g.v 3) fun s10b s10n s10c => K s9b s9n s9c s10b s10n s10c h)
theorem D2_ok {K : T2} {g : Env} {h : H} (hq : D2 K g h) : ∃ (x0b : Option Addr) (x0n : Nat) (x0c : Nat) (x3b : Option Addr) (x3n : Nat) (x3c : Nat), E2 g x0b x0n x0c x3b x3n x3c ∧ K x0b x0n x0c x3b x3n x3c h := by
  obtain ⟨hd, hq⟩ := nilDs_ok hq
  obtain ⟨y12b, y12n, y12c, e11, q13⟩ := vSlice_ok hq
  obtain ⟨y15b, y15n, y15c, e14, q16⟩ := vSlice_ok q13
  exact ⟨y12b, y12n, y12c, y15b, y15n, y15c, ⟨e11, e14, hd⟩, q16⟩
noncomputable def n3_c1 : Code := cFst n2_c2
noncomputable def n3_c2 : Code := cSnd n2_c2
abbrev T3 := (Option Addr) → Nat → Nat → H → Prop
def E3 (g : Env) (x3b : Option Addr) (x3n : Nat) (x3c : Nat) : Prop := g.v 3 = (.slice x3b x3n x3c) ∧ g.ds = []
def D3 (K : T3) (g : Env) (h : H) : Prop := nilDs g.ds (vSlice (g.v 3) fun s17b s17n s17c => K s17b s17n s17c h)
theorem D3_ok {K : T3} {g : Env} {h : H} (hq : D3 K g h) : ∃ (x3b : Option Addr) (x3n : Nat) (x3c : Nat), E3 g x3b x3n x3c ∧ K x3b x3n x3c h := by
  obtain ⟨hd, hq⟩ := nilDs_ok hq
  obtain ⟨y19b, y19n, y19c, e18, q20⟩ := vSlice_ok hq
  exact ⟨y19b, y19n, y19c, ⟨e18, hd⟩, q20⟩
abbrev n4 (x3b : Option Addr) (x3n : Nat) (x3c : Nat) (Kn : T0) (Kr : T0) (h : H) : Prop :=
  Kr x3b x3n x3c h
theorem n4_ok (x3b : Option Addr) (x3n : Nat) (x3c : Nat) (Kn : T0) (Kr : T0) (g : Env) (hg : E3 g x3b x3n x3c) (h : H) (hS : n4 x3b x3n x3c Kn Kr h) : wpC none Try.prog 29 n3_c2 (Q0 Kn Kr) g h := by
  obtain ⟨hg3, hds⟩ := hg
  refine wpC_of_wpx (by kernel_rfl) (by kernel_rfl) (g' := (⟨g.v, []⟩ : Env).upd (some 3) (.slice x3b x3n x3c)) (by rw [env_ds hds, upd_self hg3]) ?_
  have e : (n4 x3b x3n x3c Kn Kr h) = wpx none Try.prog 29 n3_c2 (Q0 Kn Kr) ((⟨g.v, []⟩ : Env).upd (some 3) (.slice x3b x3n x3c)) h := by kernel_rfl
  exact e ▸ hS
def Q1 (Kn : T3) (Kr : T0) : XPost
  | .normal, g, h => D3 Kn g h
  | .ret, g, h => D0 Kr g h
  | _, _, _ => False
noncomputable def n5_c1 : Code := cFst n3_c1
noncomputable def n5_c2 : Code := cSnd n3_c1
abbrev T4 := (Option Addr) → Nat → Nat → (Option Addr) → Nat → Nat → Int → H → Prop
def E4 (g : Env) (x0b : Option Addr) (x0n : Nat) (x0c : Nat) (x3b : Option Addr) (x3n : Nat) (x3c : Nat) (x4 : Int) : Prop := g.v 0 = (.slice x0b x0n x0c) ∧ g.v 3 = (.slice x3b x3n x3c) ∧ g.v 4 = (.int .i64 x4) ∧ g.ds = []
def D4 (K : T4) (g : Env) (h : H) : Prop := nilDs g.ds (vSlice (g.v 0) fun s21b s21n s21c => vSlice (g.v 3) fun s22b s22n s22c => vInt .i64 (g.v 4) fun i23 => K s21b s21n s21c s22b s22n s22c i23 h)
theorem D4_ok {K : T4} {g : Env} {h : H} (hq : D4 K g h) : ∃ (x0b : Option Addr) (x0n : Nat) (x0c : Nat) (x3b : Option Addr) (x3n : Nat) (x3c : Nat) (x4 : Int), E4 g x0b x0n x0c x3b x3n x3c x4 ∧ K x0b x0n x0c x3b x3n x3c x4 h := by
  obtain ⟨hd, hq⟩ := nilDs_ok hq
  obtain ⟨y25b, y25n, y25c, e24, q26⟩ := vSlice_ok hq
  obtain ⟨y28b, y28n, y28c, e27, q29⟩ := vSlice_ok q26
  obtain ⟨y31, e30, q32⟩ := vInt_ok q29
  exact ⟨y25b, y25n, y25c, y28b, y28n, y28c, y31, ⟨e24, e27, e30, hd⟩, q32⟩
noncomputable def n6_c1 : Code := cFst n5_c2
def Q2 (Kn : T3) (Ke0 : T3) (Kr : T0) : XPost
  | .normal, g, h => D3 Kn g h
  | .ret, g, h => D0 Kr g h
  | .exit id, g, h => cond (Nat.beq id 0) (D3 Ke0 g h) (False)
  | _, _, _ => False
noncomputable def n7_c1 : Code := cFst n6_c1
def Q3 (Kn : T4) (Ke0 : T3) (Kr : T0) : XPost
  | .normal, g, h => D4 Kn g h
  | .ret, g, h => D0 Kr g h
  | .exit id, g, h => cond (Nat.beq id 0) (D3 Ke0 g h) (False)
  | _, _, _ => False
def n7_L (Kn : T3) (Ke0 : T3) (Kr : T0) : Nat → (Option Addr) → Nat → Nat → (Option Addr) → Nat → Nat → Int → H → Prop
  | 0 => fun _ _ _ _ _ _ _ _ => False
  | N + 1 => fun x0b x0n x0c x3b x3n x3c x4 h => Spl (x4 < (x0n : Int)) ((0 ≤ x4 ∧ x4 < (x0n : Int)) ∧ (vSome x0b fun a33 => ∃ i34, cell h (((a33.add (Int.toNat x4 * 6))).add 0) = some (.int .u8 i34) ∧ (∃ i35, cell h (((a33.add (Int.toNat x4 * 6))).add 1) = some (.int .u8 i35) ∧ (∃ s36, cell h (((a33.add (Int.toNat x4 * 6))).add 2) = some (S s36) ∧ (∃ s37b s37n s37c, cell h (((a33.add (Int.toNat x4 * 6))).add 3) = some (.slice s37b s37n s37c) ∧ (∃ s38, cell h (((a33.add (Int.toNat x4 * 6))).add 4) = some (S s38) ∧ (∃ s39b s39n s39c, cell h (((a33.add (Int.toNat x4 * 6))).add 5) = some (.slice s39b s39n s39c) ∧ (newx h ⟨[(.int .u8 (0 : Int)), (.int .u8 (0 : Int)), (S ([] : List UInt8)), (.slice none 0 0), (S ([] : List UInt8)), (.slice none 0 0)]⟩ 31 fun a40 h41 => stL a40 [(.int .u8 i34), (.int .u8 i35), (S s36), (.slice s37b s37n s37c), (S s38), (.slice s39b s39n s39c)] 0 h41 fun h42 => ∃ s43b s43n s43c, cell h42 (a40.add 3) = some (.slice s43b s43n s43c) ∧ (HCalls Try.prog 40 ⟨[(.slice s43b s43n s43c)]⟩ h42 fun v44 h45 => vSlice v44 fun s46b s46n s46c => stL (a40.add 3) [(.slice s46b s46n s46c)] 0 h45 fun h47 => ∃ s48b s48n s48c, cell h47 (a40.add 5) = some (.slice s48b s48n s48c) ∧ (HCalls Try.prog 13 ⟨[(.slice s48b s48n s48c)]⟩ h47 fun v49 h50 => vSlice v49 fun s51b s51n s51c => stL (a40.add 5) [(.slice s51b s51n s51c)] 0 h50 fun h52 => ∃ i53, cell h52 ((a40).add 0) = some (.int .u8 i53) ∧ (∃ i54, cell h52 ((a40).add 1) = some (.int .u8 i54) ∧ (∃ s55, cell h52 ((a40).add 2) = some (S s55) ∧ (∃ s56b s56n s56c, cell h52 ((a40).add 3) = some (.slice s56b s56n s56c) ∧ (∃ s57, cell h52 ((a40).add 4) = some (S s57) ∧ (∃ s58b s58n s58c, cell h52 ((a40).add 5) = some (.slice s58b s58n s58c) ∧ (newx h52 #[(.int .u8 i53), (.int .u8 i54), (S s55), (.slice s56b s56n s56c), (S s57), (.slice s58b s58n s58c)] 31 fun a59 h60 => SemH Try.prog (Builtin.append_ #[29, 29] 29 ⟨[(.slice x3b x3n x3c), (.slice (some a59) 1 1)]⟩) h60 fun v61 h62 => vSlice v61 fun s63b s63n s63c => Rng .i64 (x4 + (1 : Int)) ∧ (n7_L Kn Ke0 Kr N x0b x0n x0c s63b s63n s63c (x4 + (1 : Int)) h62))))))))))))))))) (Ke0 x3b x3n x3c h)
abbrev n7 (x0b : Option Addr) (x0n : Nat) (x0c : Nat) (x3b : Option Addr) (x3n : Nat) (x3c : Nat) (x4 : Int) (Kn : T3) (Ke0 : T3) (Kr : T0) (h : H) : Prop := ∃ N, n7_L Kn Ke0 Kr N x0b x0n x0c x3b x3n x3c x4 h
theorem n7_ok (x0b : Option Addr) (x0n : Nat) (x0c : Nat) (x3b : Option Addr) (x3n : Nat) (x3c : Nat) (x4 : Int) (Kn : T3) (Ke0 : T3) (Kr : T0) (g : Env) (hg : E4 g x0b x0n x0c x3b x3n x3c x4) (h : H) (hS : n7 x0b x0n x0c x3b x3n x3c x4 Kn Ke0 Kr h) : wpC none Try.prog 29 n6_c1 (Q2 Kn Ke0 Kr) g h := by
  obtain ⟨N0, hS⟩ := hS
  refine wpC_loop' (x := n7_c1) (by kernel_rfl) (fun k g h => ∃ (x0b : Option Addr) (x0n : Nat) (x0c : Nat) (x3b : Option Addr) (x3n : Nat) (x3c : Nat) (x4 : Int), E4 g x0b x0n x0c x3b x3n x3c x4 ∧ n7_L Kn Ke0 Kr k x0b x0n x0c x3b x3n x3c x4 h) (fun g h hr => ?_) (fun N g h hr => ?_) N0 ⟨x0b, x0n, x0c, x3b, x3n, x3c, x4, hg, hS⟩
  · obtain ⟨x0b, x0n, x0c, x3b, x3n, x3c, x4, hg, hS⟩ := hr
    exact hS.elim
  · obtain ⟨x0b, x0n, x0c, x3b, x3n, x3c, x4, hg, hS⟩ := hr
    have hw : wpC none Try.prog 29 n7_c1 (Q3 (fun z0b z0n z0c z3b z3n z3c z4 h => n7_L Kn Ke0 Kr N z0b z0n z0c z3b z3n z3c z4 h) Ke0 Kr) g h := by
      obtain ⟨hg0, hg3, hg4, hds⟩ := hg
      refine wpC_of_wpx (by kernel_rfl) (by kernel_rfl) (g' := (((⟨g.v, []⟩ : Env).upd (some 0) (.slice x0b x0n x0c)).upd (some 3) (.slice x3b x3n x3c)).upd (some 4) (.int .i64 x4)) (by rw [env_ds hds, upd_self hg0, upd_self hg3, upd_self hg4]) ?_
      have e : (n7_L Kn Ke0 Kr (N + 1) x0b x0n x0c x3b x3n x3c x4 h) = wpx none Try.prog 29 n7_c1 (Q3 (fun z0b z0n z0c z3b z3n z3c z4 h => n7_L Kn Ke0 Kr N z0b z0n z0c z3b z3n z3c z4 h) Ke0 Kr) ((((⟨g.v, []⟩ : Env).upd (some 0) (.slice x0b x0n x0c)).upd (some 3) (.slice x3b x3n x3c)).upd (some 4) (.int .i64 x4)) h := by kernel_rfl
      exact e ▸ hS
    refine hw.mono ?_
    intro e g' h' hq
    cases e with
    | normal => exact D4_ok (K := (fun z0b z0n z0c z3b z3n z3c z4 h => n7_L Kn Ke0 Kr N z0b z0n z0c z3b z3n z3c z4 h)) hq
    | _ => exact hq
abbrev n6 (x0b : Option Addr) (x0n : Nat) (x0c : Nat) (x3b : Option Addr) (x3n : Nat) (x3c : Nat) (x4 : Int) (Kn : T3) (Kr : T0) (h : H) : Prop := n7 x0b x0n x0c x3b x3n x3c x4 Kn Kn Kr h
theorem n6_ok (x0b : Option Addr) (x0n : Nat) (x0c : Nat) (x3b : Option Addr) (x3n : Nat) (x3c : Nat) (x4 : Int) (Kn : T3) (Kr : T0) (g : Env) (hg : E4 g x0b x0n x0c x3b x3n x3c x4) (h : H) (hS : n6 x0b x0n x0c x3b x3n x3c x4 Kn Kr h) : wpC none Try.prog 29 n5_c2 (Q1 Kn Kr) g h := by
  refine wpC_block' (id := 0) (x := n6_c1) (by kernel_rfl) (n7_ok x0b x0n x0c x3b x3n x3c x4 Kn Kn Kr g hg h hS) ?_
  intro e g' h' hq
  cases e <;> exact hq
def Q4 (Kn : T4) (Kr : T0) : XPost
  | .normal, g, h => D4 Kn g h
  | .ret, g, h => D0 Kr g h
  | _, _, _ => False
abbrev n5 (x0b : Option Addr) (x0n : Nat) (x0c : Nat) (x3b : Option Addr) (x3n : Nat) (x3c : Nat) (Kn : T3) (Kr : T0) (h : H) : Prop :=
  n6 x0b x0n x0c x3b x3n x3c (0 : Int) Kn Kr h
theorem n5_ok (x0b : Option Addr) (x0n : Nat) (x0c : Nat) (x3b : Option Addr) (x3n : Nat) (x3c : Nat) (Kn : T3) (Kr : T0) (g : Env) (hg : E2 g x0b x0n x0c x3b x3n x3c) (h : H) (hS : n5 x0b x0n x0c x3b x3n x3c Kn Kr h) : wpC none Try.prog 29 n3_c1 (Q1 Kn Kr) g h := by
  obtain ⟨hg0, hg3, hds⟩ := hg
  refine wpC_seq' (x := n5_c1) (y := n5_c2) (Q' := (Q4 (fun z0b z0n z0c z3b z3n z3c z4 h => n6 z0b z0n z0c z3b z3n z3c z4 Kn Kr h) Kr)) (by kernel_rfl) ?_ ?_
  · refine wpC_of_wpx (by kernel_rfl) (by kernel_rfl) (g' := ((⟨g.v, []⟩ : Env).upd (some 0) (.slice x0b x0n x0c)).upd (some 3) (.slice x3b x3n x3c)) (by rw [env_ds hds, upd_self hg0, upd_self hg3]) ?_
    have e : (n5 x0b x0n x0c x3b x3n x3c Kn Kr h) = wpx none Try.prog 29 n5_c1 (Q4 (fun z0b z0n z0c z3b z3n z3c z4 h => n6 z0b z0n z0c z3b z3n z3c z4 Kn Kr h) Kr) (((⟨g.v, []⟩ : Env).upd (some 0) (.slice x0b x0n x0c)).upd (some 3) (.slice x3b x3n x3c)) h := by kernel_rfl
    exact e ▸ hS
  · intro e g' h' hq
    cases e with
    | normal =>
      have hq : D4 (fun z0b z0n z0c z3b z3n z3c z4 h => n6 z0b z0n z0c z3b z3n z3c z4 Kn Kr h) g' h' := hq
      obtain ⟨y0b, y0n, y0c, y3b, y3n, y3c, y4, hg', hq⟩ := D4_ok hq
      exact n6_ok y0b y0n y0c y3b y3n y3c y4 Kn Kr g' hg' h' hq
    | _ => exact hq
abbrev n3 (x0b : Option Addr) (x0n : Nat) (x0c : Nat) (x3b : Option Addr) (x3n : Nat) (x3c : Nat) (Kn : T0) (Kr : T0) (h : H) : Prop := n5 x0b x0n x0c x3b x3n x3c (fun z3b z3n z3c h => n4 z3b z3n z3c Kn Kr h) Kr h
theorem n3_ok (x0b : Option Addr) (x0n : Nat) (x0c : Nat) (x3b : Option Addr) (x3n : Nat) (x3c : Nat) (Kn : T0) (Kr : T0) (g : Env) (hg : E2 g x0b x0n x0c x3b x3n x3c) (h : H) (hS : n3 x0b x0n x0c x3b x3n x3c Kn Kr h) : wpC none Try.prog 29 n2_c2 (Q0 Kn Kr) g h := by
  refine wpC_seq' (x := n3_c1) (y := n3_c2) (by kernel_rfl) (n5_ok x0b x0n x0c x3b x3n x3c (fun z3b z3n z3c h => n4 z3b z3n z3c Kn Kr h) Kr g hg h hS) ?_
  intro e g' h' hq
  cases e with
  | normal =>
    have hq : D3 (fun z3b z3n z3c h => n4 z3b z3n z3c Kn Kr h) g' h' := hq
    obtain ⟨y3b, y3n, y3c, hg', hq⟩ := D3_ok hq
    exact n4_ok y3b y3n y3c Kn Kr g' hg' h' hq
  | _ => exact hq
def Q5 (Kn : T2) (Kr : T0) : XPost
  | .normal, g, h => D2 Kn g h
  | .ret, g, h => D0 Kr g h
  | _, _, _ => False
abbrev n2 (x0b : Option Addr) (x0n : Nat) (x0c : Nat) (Kn : T0) (Kr : T0) (h : H) : Prop :=
  n3 x0b x0n x0c none 0 0 Kn Kr h
theorem n2_ok (x0b : Option Addr) (x0n : Nat) (x0c : Nat) (Kn : T0) (Kr : T0) (g : Env) (hg : E1 g x0b x0n x0c) (h : H) (hS : n2 x0b x0n x0c Kn Kr h) : wpC none Try.prog 29 n1_c2 (Q0 Kn Kr) g h := by
  obtain ⟨hg0, hds⟩ := hg
  refine wpC_seq' (x := n2_c1) (y := n2_c2) (Q' := (Q5 (fun z0b z0n z0c z3b z3n z3c h => n3 z0b z0n z0c z3b z3n z3c Kn Kr h) Kr)) (by kernel_rfl) ?_ ?_
  · refine wpC_of_wpx (by kernel_rfl) (by kernel_rfl) (g' := (⟨g.v, []⟩ : Env).upd (some 0) (.slice x0b x0n x0c)) (by rw [env_ds hds, upd_self hg0]) ?_
    have e : (n2 x0b x0n x0c Kn Kr h) = wpx none Try.prog 29 n2_c1 (Q5 (fun z0b z0n z0c z3b z3n z3c h => n3 z0b z0n z0c z3b z3n z3c Kn Kr h) Kr) ((⟨g.v, []⟩ : Env).upd (some 0) (.slice x0b x0n x0c)) h := by kernel_rfl
    exact e ▸ hS
  · intro e g' h' hq
    cases e with
    | normal =>
      have hq : D2 (fun z0b z0n z0c z3b z3n z3c h => n3 z0b z0n z0c z3b z3n z3c Kn Kr h) g' h' := hq
      obtain ⟨y0b, y0n, y0c, y3b, y3n, y3c, hg', hq⟩ := D2_ok hq
      exact n3_ok y0b y0n y0c y3b y3n y3c Kn Kr g' hg' h' hq
    | _ => exact hq
def Q6 (Kn : T1) (Kr : T0) : XPost
  | .normal, g, h => D1 Kn g h
  | .ret, g, h => D0 Kr g h
  | _, _, _ => False
abbrev n1 (x0b : Option Addr) (x0n : Nat) (x0c : Nat) (Kn : T0) (Kr : T0) (h : H) : Prop :=
  n2 x0b x0n x0c Kn Kr h
theorem n1_ok (x0b : Option Addr) (x0n : Nat) (x0c : Nat) (Kn : T0) (Kr : T0) (g : Env) (hg : E1 g x0b x0n x0c) (h : H) (hS : n1 x0b x0n x0c Kn Kr h) : wpC none Try.prog 29 code (Q0 Kn Kr) g h := by
  obtain ⟨hg0, hds⟩ := hg
  refine wpC_seq' (x := n1_c1) (y := n1_c2) (Q' := (Q6 (fun z0b z0n z0c h => n2 z0b z0n z0c Kn Kr h) Kr)) (by kernel_rfl) ?_ ?_
  · refine wpC_of_wpx (by kernel_rfl) (by kernel_rfl) (g' := (⟨g.v, []⟩ : Env).upd (some 0) (.slice x0b x0n x0c)) (by rw [env_ds hds, upd_self hg0]) ?_
    have e : (n1 x0b x0n x0c Kn Kr h) = wpx none Try.prog 29 n1_c1 (Q6 (fun z0b z0n z0c h => n2 z0b z0n z0c Kn Kr h) Kr) ((⟨g.v, []⟩ : Env).upd (some 0) (.slice x0b x0n x0c)) h := by kernel_rfl
    exact e ▸ hS
  · intro e g' h' hq
    cases e with
    | normal =>
      have hq : D1 (fun z0b z0n z0c h => n2 z0b z0n z0c Kn Kr h) g' h' := hq
      obtain ⟨y0b, y0n, y0c, hg', hq⟩ := D1_ok hq
      exact n2_ok y0b y0n y0c Kn Kr g' hg' h' hq
    | _ => exact hq
/-- WHAT tympan/tympanref00.LentNodes ASKS -/
abbrev asks (x0b : Option Addr) (x0n : Nat) (x0c : Nat) (K : Value → H → Prop) (h : H) : Prop := n1 x0b x0n x0c (fun y2b y2n y2c h => K (.slice y2b y2n y2c) h) (fun y2b y2n y2c h => K (.slice y2b y2n y2c) h) h
theorem ok (x0b : Option Addr) (x0n : Nat) (x0c : Nat) (K : Value → H → Prop) (h : H) (hS : asks x0b x0n x0c K h) : HCalls Try.prog 13 ⟨[(.slice x0b x0n x0c)]⟩ h K := by
  refine calls_of_wpC (c := code) Try.func13 (by kernel_rfl) (Nat.le_of_ble_eq_true (by kernel_rfl)) ?_
  refine (n1_ok x0b x0n x0c (fun y2b y2n y2c h => K (.slice y2b y2n y2c) h) (fun y2b y2n y2c h => K (.slice y2b y2n y2c) h) (env0 [(.slice x0b x0n x0c)]) ⟨rfl, rfl⟩ h hS).mono ?_
  intro e g' h' hq
  cases e with
  | normal =>
    have hq : D0 (fun y2b y2n y2c h => K (.slice y2b y2n y2c) h) g' h' := hq
    obtain ⟨y2b, y2n, y2c, ⟨hg2, hd⟩, hq⟩ := D0_ok hq
    show leaveX g'.ds h' _
    rw [hd]
    show K (g'.v 2) h'
    rw [hg2]
    exact hq
  | ret =>
    have hq : D0 (fun y2b y2n y2c h => K (.slice y2b y2n y2c) h) g' h' := hq
    obtain ⟨y2b, y2n, y2c, ⟨hg2, hd⟩, hq⟩ := D0_ok hq
    show leaveX g'.ds h' _
    rw [hd]
    show K (g'.v 2) h'
    rw [hg2]
    exact hq
  | _ => exact hq
end Sx.r00_LentNodes

/-! ### tympan/tympanref00.SpoilNodes -/
namespace Sx.r00_SpoilNodes
noncomputable def code : Code := bodyOf Try.f14
abbrev T0 := H → Prop
def E0 (g : Env)  : Prop := g.ds = []
def D0 (K : T0) (g : Env) (h : H) : Prop := nilDs g.ds (K h)
theorem D0_ok {K : T0} {g : Env} {h : H} (hq : D0 K g h) : E0 g  ∧ K  h := by
  obtain ⟨hd, hq⟩ := nilDs_ok hq
  skip
  exact ⟨hd, hq⟩
def Q0 (Kn : T0) (Kr : T0) : XPost
  | .normal, g, h => D0 Kn g h
  | .ret, g, h => D0 Kr g h
  | _, _, _ => False
abbrev T1 := (Option Addr) → Nat → Nat → H → Prop
def E1 (g : Env) (x0b : Option Addr) (x0n : Nat) (x0c : Nat) : Prop := g.v 0 = (.slice x0b x0n x0c) ∧ g.ds = []
def D1 (K : T1) (g : Env) (h : H) : Prop := nilDs g.ds (vSlice (g.v 0) fun s1b s1n s1c => K s1b s1n s1c h)
theorem D1_ok {K : T1} {g : Env} {h : H} (hq : D1 K g h) : ∃ (x0b : Option Addr) (x0n : Nat) (x0c : Nat), E1 g x0b x0n x0c ∧ K x0b x0n x0c h := by
  obtain ⟨hd, hq⟩ := nilDs_ok hq
  obtain ⟨y3b, y3n, y3c, e2, q4⟩ := vSlice_ok hq
  exact ⟨y3b, y3n, y3c, ⟨e2, hd⟩, q4⟩
noncomputable def n1_c1 : Code := cFst code
noncomputable def n1_c2 : Code := cSnd code
abbrev T2 := (Option Addr) → Nat → Nat → Int → H → Prop
def E2 (g : Env) (x0b : Option Addr) (x0n : Nat) (x0c : Nat) (x2 : Int) : Prop := g.v 0 = (.slice x0b x0n x0c) ∧ g.v 2 = (.int .i64 x2) ∧ g.ds = []
def D2 (K : T2) (g : Env) (h : H) : Prop := nilDs g.ds (vSlice (g.v 0) fun s5b s5n s5c => vInt .i64 (g.v 2) fun i6 => K s5b s5n s5c i6 h)
theorem D2_ok {K : T2} {g : Env} {h : H} (hq : D2 K g h) : ∃ (x0b : Option Addr) (x0n : Nat) (x0c : Nat) (x2 : Int), E2 g x0b x0n x0c x2 ∧ K x0b x0n x0c x2 h := by
  obtain ⟨hd, hq⟩ := nilDs_ok hq
  obtain ⟨y8b, y8n, y8c, e7, q9⟩ := vSlice_ok hq
  obtain ⟨y11, e10, q12⟩ := vInt_ok q9
  exact ⟨y8b, y8n, y8c, y11, ⟨e7, e10, hd⟩, q12⟩
noncomputable def n2_c1 : Code := cFst n1_c2
def Q1 (Kn : T0) (Ke0 : T0) (Kr : T0) : XPost
  | .normal, g, h => D0 Kn g h
  | .ret, g, h => D0 Kr g h
  | .exit id, g, h => cond (Nat.beq id 0) (D0 Ke0 g h) (False)
  | _, _, _ => False
noncomputable def n3_c1 : Code := cFst n2_c1
def Q2 (Kn : T2) (Ke0 : T0) (Kr : T0) : XPost
  | .normal, g, h => D2 Kn g h
  | .ret, g, h => D0 Kr g h
  | .exit id, g, h => cond (Nat.beq id 0) (D0 Ke0 g h) (False)
  | _, _, _ => False
noncomputable def n4_c1 : Code := cFst n3_c1
noncomputable def n4_c2 : Code := cSnd n3_c1
noncomputable def n5_c1 : Code := cFst n4_c2
noncomputable def n5_c2 : Code := cSnd n4_c2
abbrev n6 (x0b : Option Addr) (x0n : Nat) (x0c : Nat) (x2 : Int) (Kn : T2) (Ke0 : T0) (Kr : T0) (h : H) : Prop :=
  Rng .i64 (x2 + (1 : Int)) ∧ (Kn x0b x0n x0c (x2 + (1 : Int)) h)
theorem n6_ok (x0b : Option Addr) (x0n : Nat) (x0c : Nat) (x2 : Int) (Kn : T2) (Ke0 : T0) (Kr : T0) (g : Env) (hg : E2 g x0b x0n x0c x2) (h : H) (hS : n6 x0b x0n x0c x2 Kn Ke0 Kr h) : wpC none Try.prog 38 n5_c2 (Q2 Kn Ke0 Kr) g h := by
  obtain ⟨hg0, hg2, hds⟩ := hg
  refine wpC_of_wpx (by kernel_rfl) (by kernel_rfl) (g' := ((⟨g.v, []⟩ : Env).upd (some 0) (.slice x0b x0n x0c)).upd (some 2) (.int .i64 x2)) (by rw [env_ds hds, upd_self hg0, upd_self hg2]) ?_
  have e : (n6 x0b x0n x0c x2 Kn Ke0 Kr h) = wpx none Try.prog 38 n5_c2 (Q2 Kn Ke0 Kr) (((⟨g.v, []⟩ : Env).upd (some 0) (.slice x0b x0n x0c)).upd (some 2) (.int .i64 x2)) h := by kernel_rfl
  exact e ▸ hS
noncomputable def n7_c1 : Code := cFst n5_c1
def Q3 (Kn : T2) (Ke1 : T2) (Ke0 : T0) (Kr : T0) : XPost
  | .normal, g, h => D2 Kn g h
  | .ret, g, h => D0 Kr g h
  | .exit id, g, h => cond (Nat.beq id 1) (D2 Ke1 g h) (cond (Nat.beq id 0) (D0 Ke0 g h) (False))
  | _, _, _ => False
noncomputable def n8_c1 : Code := cFst n7_c1
noncomputable def n8_c2 : Code := cSnd n7_c1
noncomputable def n9_c1 : Code := cFst n8_c2
noncomputable def n9_c2 : Code := cSnd n8_c2
abbrev n10 (x0b : Option Addr) (x0n : Nat) (x0c : Nat) (x2 : Int) (Kn : T2) (Ke1 : T2) (Ke0 : T0) (Kr : T0) (h : H) : Prop :=
  (0 ≤ x2 ∧ x2 < (x0n : Int)) ∧ (vSome x0b fun a13 => stL (a13.add (Int.toNat x2 * 6)) [(.int .u8 (2 : Int)), (.int .u8 (0 : Int)), (S ([] : List UInt8)), (.slice none 0 0), (S ([115, 112, 111, 105, 108, 116] : List UInt8)), (.slice none 0 0)] 0 h fun h14 => Kn x0b x0n x0c x2 h14)
theorem n10_ok (x0b : Option Addr) (x0n : Nat) (x0c : Nat) (x2 : Int) (Kn : T2) (Ke1 : T2) (Ke0 : T0) (Kr : T0) (g : Env) (hg : E2 g x0b x0n x0c x2) (h : H) (hS : n10 x0b x0n x0c x2 Kn Ke1 Ke0 Kr h) : wpC none Try.prog 38 n9_c2 (Q3 Kn Ke1 Ke0 Kr) g h := by
  obtain ⟨hg0, hg2, hds⟩ := hg
  refine wpC_of_wpx (by kernel_rfl) (by kernel_rfl) (g' := ((⟨g.v, []⟩ : Env).upd (some 0) (.slice x0b x0n x0c)).upd (some 2) (.int .i64 x2)) (by rw [env_ds hds, upd_self hg0, upd_self hg2]) ?_
  have e : (n10 x0b x0n x0c x2 Kn Ke1 Ke0 Kr h) = wpx none Try.prog 38 n9_c2 (Q3 Kn Ke1 Ke0 Kr) (((⟨g.v, []⟩ : Env).upd (some 0) (.slice x0b x0n x0c)).upd (some 2) (.int .i64 x2)) h := by kernel_rfl
  exact e ▸ hS
noncomputable def n11_c1 : Code := cFst n9_c1
noncomputable def n11_c2 : Code := cSnd n9_c1
abbrev T3 := (Option Addr) → Nat → Nat → Int → Int → H → Prop
def E3 (g : Env) (x0b : Option Addr) (x0n : Nat) (x0c : Nat) (x2 : Int) (x3 : Int) : Prop := g.v 0 = (.slice x0b x0n x0c) ∧ g.v 2 = (.int .i64 x2) ∧ g.v 3 = (.int .i64 x3) ∧ g.ds = []
def D3 (K : T3) (g : Env) (h : H) : Prop := nilDs g.ds (vSlice (g.v 0) fun s15b s15n s15c => vInt .i64 (g.v 2) fun i16 => vInt .i64 (g.v 3) fun i17 => K s15b s15n s15c i16 i17 h)
theorem D3_ok {K : T3} {g : Env} {h : H} (hq : D3 K g h) : ∃ (x0b : Option Addr) (x0n : Nat) (x0c : Nat) (x2 : Int) (x3 : Int), E3 g x0b x0n x0c x2 x3 ∧ K x0b x0n x0c x2 x3 h := by
  obtain ⟨hd, hq⟩ := nilDs_ok hq
  obtain ⟨y19b, y19n, y19c, e18, q20⟩ := vSlice_ok hq
  obtain ⟨y22, e21, q23⟩ := vInt_ok q20
  obtain ⟨y25, e24, q26⟩ := vInt_ok q23
  exact ⟨y19b, y19n, y19c, y22, y25, ⟨e18, e21, e24, hd⟩, q26⟩
noncomputable def n12_c1 : Code := cFst n11_c2
def Q4 (Kn : T2) (Ke2 : T2) (Ke1 : T2) (Ke0 : T0) (Kr : T0) : XPost
  | .normal, g, h => D2 Kn g h
  | .ret, g, h => D0 Kr g h
  | .exit id, g, h => cond (Nat.beq id 2) (D2 Ke2 g h) (cond (Nat.beq id 1) (D2 Ke1 g h) (cond (Nat.beq id 0) (D0 Ke0 g h) (False)))
  | _, _, _ => False
noncomputable def n13_c1 : Code := cFst n12_c1
def Q5 (Kn : T3) (Ke2 : T2) (Ke1 : T2) (Ke0 : T0) (Kr : T0) : XPost
  | .normal, g, h => D3 Kn g h
  | .ret, g, h => D0 Kr g h
  | .exit id, g, h => cond (Nat.beq id 2) (D2 Ke2 g h) (cond (Nat.beq id 1) (D2 Ke1 g h) (cond (Nat.beq id 0) (D0 Ke0 g h) (False)))
  | _, _, _ => False
def n13_L (Kn : T2) (Ke2 : T2) (Ke1 : T2) (Ke0 : T0) (Kr : T0) : Nat → (Option Addr) → Nat → Nat → Int → Int → H → Prop
  | 0 => fun _ _ _ _ _ _ => False
  | N + 1 => fun x0b x0n x0c x2 x3 h => (0 ≤ x2 ∧ x2 < (x0n : Int)) ∧ (vSome x0b fun a27 => ∃ s28b s28n s28c, cell h ((a27.add (Int.toNat x2 * 6)).add 3) = some (.slice s28b s28n s28c) ∧ (Spl (x3 < (s28n : Int)) ((0 ≤ x2 ∧ x2 < (x0n : Int)) ∧ (vSome x0b fun a29 => ∃ s30b s30n s30c, cell h ((a29.add (Int.toNat x2 * 6)).add 3) = some (.slice s30b s30n s30c) ∧ ((0 ≤ x3 ∧ x3 < (s30n : Int)) ∧ (vSome s30b fun a31 => stL (a31.add (Int.toNat x3 * 2)) [(S ([115, 112, 111, 105, 108, 116] : List UInt8)), (S ([115, 112, 111, 105, 108, 116] : List UInt8))] 0 h fun h32 => Rng .i64 (x3 + (1 : Int)) ∧ (n13_L Kn Ke2 Ke1 Ke0 Kr N x0b x0n x0c x2 (x3 + (1 : Int)) h32))))) (Ke2 x0b x0n x0c x2 h)))
abbrev n13 (x0b : Option Addr) (x0n : Nat) (x0c : Nat) (x2 : Int) (x3 : Int) (Kn : T2) (Ke2 : T2) (Ke1 : T2) (Ke0 : T0) (Kr : T0) (h : H) : Prop := ∃ N, n13_L Kn Ke2 Ke1 Ke0 Kr N x0b x0n x0c x2 x3 h
theorem n13_ok (x0b : Option Addr) (x0n : Nat) (x0c : Nat) (x2 : Int) (x3 : Int) (Kn : T2) (Ke2 : T2) (Ke1 : T2) (Ke0 : T0) (Kr : T0) (g : Env) (hg : E3 g x0b x0n x0c x2 x3) (h : H) (hS : n13 x0b x0n x0c x2 x3 Kn Ke2 Ke1 Ke0 Kr h) : wpC none Try.prog 38 n12_c1 (Q4 Kn Ke2 Ke1 Ke0 Kr) g h := by
  obtain ⟨N0, hS⟩ := hS
  refine wpC_loop' (x := n13_c1) (by kernel_rfl) (fun k g h => ∃ (x0b : Option Addr) (x0n : Nat) (x0c : Nat) (x2 : Int) (x3 : Int), E3 g x0b x0n x0c x2 x3 ∧ n13_L Kn Ke2 Ke1 Ke0 Kr k x0b x0n x0c x2 x3 h) (fun g h hr => ?_) (fun N g h hr => ?_) N0 ⟨x0b, x0n, x0c, x2, x3, hg, hS⟩
  · obtain ⟨x0b, x0n, x0c, x2, x3, hg, hS⟩ := hr
    exact hS.elim
  · obtain ⟨x0b, x0n, x0c, x2, x3, hg, hS⟩ := hr
    have hw : wpC none Try.prog 38 n13_c1 (Q5 (fun z0b z0n z0c z2 z3 h => n13_L Kn Ke2 Ke1 Ke0 Kr N z0b z0n z0c z2 z3 h) Ke2 Ke1 Ke0 Kr) g h := by
      obtain ⟨hg0, hg2, hg3, hds⟩ := hg
      refine wpC_of_wpx (by kernel_rfl) (by kernel_rfl) (g' := (((⟨g.v, []⟩ : Env).upd (some 0) (.slice x0b x0n x0c)).upd (some 2) (.int .i64 x2)).upd (some 3) (.int .i64 x3)) (by rw [env_ds hds, upd_self hg0, upd_self hg2, upd_self hg3]) ?_
      have e : (n13_L Kn Ke2 Ke1 Ke0 Kr (N + 1) x0b x0n x0c x2 x3 h) = wpx none Try.prog 38 n13_c1 (Q5 (fun z0b z0n z0c z2 z3 h => n13_L Kn Ke2 Ke1 Ke0 Kr N z0b z0n z0c z2 z3 h) Ke2 Ke1 Ke0 Kr) ((((⟨g.v, []⟩ : Env).upd (some 0) (.slice x0b x0n x0c)).upd (some 2) (.int .i64 x2)).upd (some 3) (.int .i64 x3)) h := by kernel_rfl
      exact e ▸ hS
    refine hw.mono ?_
    intro e g' h' hq
    cases e with
    | normal => exact D3_ok (K := (fun z0b z0n z0c z2 z3 h => n13_L Kn Ke2 Ke1 Ke0 Kr N z0b z0n z0c z2 z3 h)) hq
    | _ => exact hq
abbrev n12 (x0b : Option Addr) (x0n : Nat) (x0c : Nat) (x2 : Int) (x3 : Int) (Kn : T2) (Ke1 : T2) (Ke0 : T0) (Kr : T0) (h : H) : Prop := n13 x0b x0n x0c x2 x3 Kn Kn Ke1 Ke0 Kr h
theorem n12_ok (x0b : Option Addr) (x0n : Nat) (x0c : Nat) (x2 : Int) (x3 : Int) (Kn : T2) (Ke1 : T2) (Ke0 : T0) (Kr : T0) (g : Env) (hg : E3 g x0b x0n x0c x2 x3) (h : H) (hS : n12 x0b x0n x0c x2 x3 Kn Ke1 Ke0 Kr h) : wpC none Try.prog 38 n11_c2 (Q3 Kn Ke1 Ke0 Kr) g h := by
  refine wpC_block' (id := 2) (x := n12_c1) (by kernel_rfl) (n13_ok x0b x0n x0c x2 x3 Kn Kn Ke1 Ke0 Kr g hg h hS) ?_
  intro e g' h' hq
  cases e <;> exact hq
def Q6 (Kn : T3) (Ke1 : T2) (Ke0 : T0) (Kr : T0) : XPost
  | .normal, g, h => D3 Kn g h
  | .ret, g, h => D0 Kr g h
  | .exit id, g, h => cond (Nat.beq id 1) (D2 Ke1 g h) (cond (Nat.beq id 0) (D0 Ke0 g h) (False))
  | _, _, _ => False
abbrev n11 (x0b : Option Addr) (x0n : Nat) (x0c : Nat) (x2 : Int) (Kn : T2) (Ke1 : T2) (Ke0 : T0) (Kr : T0) (h : H) : Prop :=
  n12 x0b x0n x0c x2 (0 : Int) Kn Ke1 Ke0 Kr h
theorem n11_ok (x0b : Option Addr) (x0n : Nat) (x0c : Nat) (x2 : Int) (Kn : T2) (Ke1 : T2) (Ke0 : T0) (Kr : T0) (g : Env) (hg : E2 g x0b x0n x0c x2) (h : H) (hS : n11 x0b x0n x0c x2 Kn Ke1 Ke0 Kr h) : wpC none Try.prog 38 n9_c1 (Q3 Kn Ke1 Ke0 Kr) g h := by
  obtain ⟨hg0, hg2, hds⟩ := hg
  refine wpC_seq' (x := n11_c1) (y := n11_c2) (Q' := (Q6 (fun z0b z0n z0c z2 z3 h => n12 z0b z0n z0c z2 z3 Kn Ke1 Ke0 Kr h) Ke1 Ke0 Kr)) (by kernel_rfl) ?_ ?_
  · refine wpC_of_wpx (by kernel_rfl) (by kernel_rfl) (g' := ((⟨g.v, []⟩ : Env).upd (some 0) (.slice x0b x0n x0c)).upd (some 2) (.int .i64 x2)) (by rw [env_ds hds, upd_self hg0, upd_self hg2]) ?_
    have e : (n11 x0b x0n x0c x2 Kn Ke1 Ke0 Kr h) = wpx none Try.prog 38 n11_c1 (Q6 (fun z0b z0n z0c z2 z3 h => n12 z0b z0n z0c z2 z3 Kn Ke1 Ke0 Kr h) Ke1 Ke0 Kr) (((⟨g.v, []⟩ : Env).upd (some 0) (.slice x0b x0n x0c)).upd (some 2) (.int .i64 x2)) h := by kernel_rfl
    exact e ▸ hS
  · intro e g' h' hq
    cases e with
    | normal =>
      have hq : D3 (fun z0b z0n z0c z2 z3 h => n12 z0b z0n z0c z2 z3 Kn Ke1 Ke0 Kr h) g' h' := hq
      obtain ⟨y0b, y0n, y0c, y2, y3, hg', hq⟩ := D3_ok hq
      exact n12_ok y0b y0n y0c y2 y3 Kn Ke1 Ke0 Kr g' hg' h' hq
    | _ => exact hq
abbrev n9 (x0b : Option Addr) (x0n : Nat) (x0c : Nat) (x2 : Int) (Kn : T2) (Ke1 : T2) (Ke0 : T0) (Kr : T0) (h : H) : Prop := n11 x0b x0n x0c x2 (fun z0b z0n z0c z2 h => n10 z0b z0n z0c z2 Kn Ke1 Ke0 Kr h) Ke1 Ke0 Kr h
theorem n9_ok (x0b : Option Addr) (x0n : Nat) (x0c : Nat) (x2 : Int) (Kn : T2) (Ke1 : T2) (Ke0 : T0) (Kr : T0) (g : Env) (hg : E2 g x0b x0n x0c x2) (h : H) (hS : n9 x0b x0n x0c x2 Kn Ke1 Ke0 Kr h) : wpC none Try.prog 38 n8_c2 (Q3 Kn Ke1 Ke0 Kr) g h := by
  refine wpC_seq' (x := n9_c1) (y := n9_c2) (by kernel_rfl) (n11_ok x0b x0n x0c x2 (fun z0b z0n z0c z2 h => n10 z0b z0n z0c z2 Kn Ke1 Ke0 Kr h) Ke1 Ke0 Kr g hg h hS) ?_
  intro e g' h' hq
  cases e with
  | normal =>
    have hq : D2 (fun z0b z0n z0c z2 h => n10 z0b z0n z0c z2 Kn Ke1 Ke0 Kr h) g' h' := hq
    obtain ⟨y0b, y0n, y0c, y2, hg', hq⟩ := D2_ok hq
    exact n10_ok y0b y0n y0c y2 Kn Ke1 Ke0 Kr g' hg' h' hq
  | _ => exact hq
abbrev n8 (x0b : Option Addr) (x0n : Nat) (x0c : Nat) (x2 : Int) (Kn : T2) (Ke1 : T2) (Ke0 : T0) (Kr : T0) (h : H) : Prop :=
  (0 ≤ x2 ∧ x2 < (x0n : Int)) ∧ (vSome x0b fun a33 => ∃ s34b s34n s34c, cell h ((a33.add (Int.toNat x2 * 6)).add 5) = some (.slice s34b s34n s34c) ∧ (HCalls Try.prog 14 ⟨[(.slice s34b s34n s34c)]⟩ h fun v35 h36 => n9 x0b x0n x0c x2 Kn Ke1 Ke0 Kr h36))
theorem n8_ok (x0b : Option Addr) (x0n : Nat) (x0c : Nat) (x2 : Int) (Kn : T2) (Ke1 : T2) (Ke0 : T0) (Kr : T0) (g : Env) (hg : E2 g x0b x0n x0c x2) (h : H) (hS : n8 x0b x0n x0c x2 Kn Ke1 Ke0 Kr h) : wpC none Try.prog 38 n7_c1 (Q3 Kn Ke1 Ke0 Kr) g h := by
  obtain ⟨hg0, hg2, hds⟩ := hg
  refine wpC_seq' (x := n8_c1) (y := n8_c2) (Q' := (Q3 (fun z0b z0n z0c z2 h => n9 z0b z0n z0c z2 Kn Ke1 Ke0 Kr h) Ke1 Ke0 Kr)) (by kernel_rfl) ?_ ?_
  · refine wpC_of_wpx (by kernel_rfl) (by kernel_rfl) (g' := ((⟨g.v, []⟩ : Env).upd (some 0) (.slice x0b x0n x0c)).upd (some 2) (.int .i64 x2)) (by rw [env_ds hds, upd_self hg0, upd_self hg2]) ?_
    have e : (n8 x0b x0n x0c x2 Kn Ke1 Ke0 Kr h) = wpx none Try.prog 38 n8_c1 (Q3 (fun z0b z0n z0c z2 h => n9 z0b z0n z0c z2 Kn Ke1 Ke0 Kr h) Ke1 Ke0 Kr) (((⟨g.v, []⟩ : Env).upd (some 0) (.slice x0b x0n x0c)).upd (some 2) (.int .i64 x2)) h := by kernel_rfl
    exact e ▸ hS
  · intro e g' h' hq
    cases e with
    | normal =>
      have hq : D2 (fun z0b z0n z0c z2 h => n9 z0b z0n z0c z2 Kn Ke1 Ke0 Kr h) g' h' := hq
      obtain ⟨y0b, y0n, y0c, y2, hg', hq⟩ := D2_ok hq
      exact n9_ok y0b y0n y0c y2 Kn Ke1 Ke0 Kr g' hg' h' hq
    | _ => exact hq
abbrev n7 (x0b : Option Addr) (x0n : Nat) (x0c : Nat) (x2 : Int) (Kn : T2) (Ke0 : T0) (Kr : T0) (h : H) : Prop := n8 x0b x0n x0c x2 Kn Kn Ke0 Kr h
theorem n7_ok (x0b : Option Addr) (x0n : Nat) (x0c : Nat) (x2 : Int) (Kn : T2) (Ke0 : T0) (Kr : T0) (g : Env) (hg : E2 g x0b x0n x0c x2) (h : H) (hS : n7 x0b x0n x0c x2 Kn Ke0 Kr h) : wpC none Try.prog 38 n5_c1 (Q2 Kn Ke0 Kr) g h := by
  refine wpC_block' (id := 1) (x := n7_c1) (by kernel_rfl) (n8_ok x0b x0n x0c x2 Kn Kn Ke0 Kr g hg h hS) ?_
  intro e g' h' hq
  cases e <;> exact hq
abbrev n5 (x0b : Option Addr) (x0n : Nat) (x0c : Nat) (x2 : Int) (Kn : T2) (Ke0 : T0) (Kr : T0) (h : H) : Prop := n7 x0b x0n x0c x2 (fun z0b z0n z0c z2 h => n6 z0b z0n z0c z2 Kn Ke0 Kr h) Ke0 Kr h
theorem n5_ok (x0b : Option Addr) (x0n : Nat) (x0c : Nat) (x2 : Int) (Kn : T2) (Ke0 : T0) (Kr : T0) (g : Env) (hg : E2 g x0b x0n x0c x2) (h : H) (hS : n5 x0b x0n x0c x2 Kn Ke0 Kr h) : wpC none Try.prog 38 n4_c2 (Q2 Kn Ke0 Kr) g h := by
  refine wpC_seq' (x := n5_c1) (y := n5_c2) (by kernel_rfl) (n7_ok x0b x0n x0c x2 (fun z0b z0n z0c z2 h => n6 z0b z0n z0c z2 Kn Ke0 Kr h) Ke0 Kr g hg h hS) ?_
  intro e g' h' hq
  cases e with
  | normal =>
    have hq : D2 (fun z0b z0n z0c z2 h => n6 z0b z0n z0c z2 Kn Ke0 Kr h) g' h' := hq
    obtain ⟨y0b, y0n, y0c, y2, hg', hq⟩ := D2_ok hq
    exact n6_ok y0b y0n y0c y2 Kn Ke0 Kr g' hg' h' hq
  | _ => exact hq
abbrev n4 (x0b : Option Addr) (x0n : Nat) (x0c : Nat) (x2 : Int) (Kn : T2) (Ke0 : T0) (Kr : T0) (h : H) : Prop :=
  Spl (x2 < (x0n : Int)) (n5 x0b x0n x0c x2 Kn Ke0 Kr h) (Ke0 h)
theorem n4_ok (x0b : Option Addr) (x0n : Nat) (x0c : Nat) (x2 : Int) (Kn : T2) (Ke0 : T0) (Kr : T0) (g : Env) (hg : E2 g x0b x0n x0c x2) (h : H) (hS : n4 x0b x0n x0c x2 Kn Ke0 Kr h) : wpC none Try.prog 38 n3_c1 (Q2 Kn Ke0 Kr) g h := by
  obtain ⟨hg0, hg2, hds⟩ := hg
  refine wpC_seq' (x := n4_c1) (y := n4_c2) (Q' := (Q2 (fun z0b z0n z0c z2 h => n5 z0b z0n z0c z2 Kn Ke0 Kr h) Ke0 Kr)) (by kernel_rfl) ?_ ?_
  · refine wpC_of_wpx (by kernel_rfl) (by kernel_rfl) (g' := ((⟨g.v, []⟩ : Env).upd (some 0) (.slice x0b x0n x0c)).upd (some 2) (.int .i64 x2)) (by rw [env_ds hds, upd_self hg0, upd_self hg2]) ?_
    have e : (n4 x0b x0n x0c x2 Kn Ke0 Kr h) = wpx none Try.prog 38 n4_c1 (Q2 (fun z0b z0n z0c z2 h => n5 z0b z0n z0c z2 Kn Ke0 Kr h) Ke0 Kr) (((⟨g.v, []⟩ : Env).upd (some 0) (.slice x0b x0n x0c)).upd (some 2) (.int .i64 x2)) h := by kernel_rfl
    exact e ▸ hS
  · intro e g' h' hq
    cases e with
    | normal =>
      have hq : D2 (fun z0b z0n z0c z2 h => n5 z0b z0n z0c z2 Kn Ke0 Kr h) g' h' := hq
      obtain ⟨y0b, y0n, y0c, y2, hg', hq⟩ := D2_ok hq
      exact n5_ok y0b y0n y0c y2 Kn Ke0 Kr g' hg' h' hq
    | _ => exact hq
def n3_L (Kn : T0) (Ke0 : T0) (Kr : T0) : Nat → (Option Addr) → Nat → Nat → Int → H → Prop
  | 0 => fun _ _ _ _ _ => False
  | N + 1 => fun x0b x0n x0c x2 h => n4 x0b x0n x0c x2 (fun z0b z0n z0c z2 h => n3_L Kn Ke0 Kr N z0b z0n z0c z2 h) Ke0 Kr h
abbrev n3 (x0b : Option Addr) (x0n : Nat) (x0c : Nat) (x2 : Int) (Kn : T0) (Ke0 : T0) (Kr : T0) (h : H) : Prop := ∃ N, n3_L Kn Ke0 Kr N x0b x0n x0c x2 h
theorem n3_ok (x0b : Option Addr) (x0n : Nat) (x0c : Nat) (x2 : Int) (Kn : T0) (Ke0 : T0) (Kr : T0) (g : Env) (hg : E2 g x0b x0n x0c x2) (h : H) (hS : n3 x0b x0n x0c x2 Kn Ke0 Kr h) : wpC none Try.prog 38 n2_c1 (Q1 Kn Ke0 Kr) g h := by
  obtain ⟨N0, hS⟩ := hS
  refine wpC_loop' (x := n3_c1) (by kernel_rfl) (fun k g h => ∃ (x0b : Option Addr) (x0n : Nat) (x0c : Nat) (x2 : Int), E2 g x0b x0n x0c x2 ∧ n3_L Kn Ke0 Kr k x0b x0n x0c x2 h) (fun g h hr => ?_) (fun N g h hr => ?_) N0 ⟨x0b, x0n, x0c, x2, hg, hS⟩
  · obtain ⟨x0b, x0n, x0c, x2, hg, hS⟩ := hr
    exact hS.elim
  · obtain ⟨x0b, x0n, x0c, x2, hg, hS⟩ := hr
    refine (n4_ok x0b x0n x0c x2 (fun z0b z0n z0c z2 h => n3_L Kn Ke0 Kr N z0b z0n z0c z2 h) Ke0 Kr g hg h hS).mono ?_
    intro e g' h' hq
    cases e with
    | normal => exact D2_ok (K := (fun z0b z0n z0c z2 h => n3_L Kn Ke0 Kr N z0b z0n z0c z2 h)) hq
    | _ => exact hq
abbrev n2 (x0b : Option Addr) (x0n : Nat) (x0c : Nat) (x2 : Int) (Kn : T0) (Kr : T0) (h : H) : Prop := n3 x0b x0n x0c x2 Kn Kn Kr h
theorem n2_ok (x0b : Option Addr) (x0n : Nat) (x0c : Nat) (x2 : Int) (Kn : T0) (Kr : T0) (g : Env) (hg : E2 g x0b x0n x0c x2) (h : H) (hS : n2 x0b x0n x0c x2 Kn Kr h) : wpC none Try.prog 38 n1_c2 (Q0 Kn Kr) g h := by
  refine wpC_block' (id := 0) (x := n2_c1) (by kernel_rfl) (n3_ok x0b x0n x0c x2 Kn Kn Kr g hg h hS) ?_
  intro e g' h' hq
  cases e <;> exact hq
def Q7 (Kn : T2) (Kr : T0) : XPost
  | .normal, g, h => D2 Kn g h
  | .ret, g, h => D0 Kr g h
  | _, _, _ => False
abbrev n1 (x0b : Option Addr) (x0n : Nat) (x0c : Nat) (Kn : T0) (Kr : T0) (h : H) : Prop :=
  n2 x0b x0n x0c (0 : Int) Kn Kr h
theorem n1_ok (x0b : Option Addr) (x0n : Nat) (x0c : Nat) (Kn : T0) (Kr : T0) (g : Env) (hg : E1 g x0b x0n x0c) (h : H) (hS : n1 x0b x0n x0c Kn Kr h) : wpC none Try.prog 38 code (Q0 Kn Kr) g h := by
  obtain ⟨hg0, hds⟩ := hg
  refine wpC_seq' (x := n1_c1) (y := n1_c2) (Q' := (Q7 (fun z0b z0n z0c z2 h => n2 z0b z0n z0c z2 Kn Kr h) Kr)) (by kernel_rfl) ?_ ?_
  · refine wpC_of_wpx (by kernel_rfl) (by kernel_rfl) (g' := (⟨g.v, []⟩ : Env).upd (some 0) (.slice x0b x0n x0c)) (by rw [env_ds hds, upd_self hg0]) ?_
    have e : (n1 x0b x0n x0c Kn Kr h) = wpx none Try.prog 38 n1_c1 (Q7 (fun z0b z0n z0c z2 h => n2 z0b z0n z0c z2 Kn Kr h) Kr) ((⟨g.v, []⟩ : Env).upd (some 0) (.slice x0b x0n x0c)) h := by kernel_rfl
    exact e ▸ hS
  · intro e g' h' hq
    cases e with
    | normal =>
      have hq : D2 (fun z0b z0n z0c z2 h => n2 z0b z0n z0c z2 Kn Kr h) g' h' := hq
      obtain ⟨y0b, y0n, y0c, y2, hg', hq⟩ := D2_ok hq
      exact n2_ok y0b y0n y0c y2 Kn Kr g' hg' h' hq
    | _ => exact hq
/-- WHAT tympan/tympanref00.SpoilNodes ASKS -/
abbrev asks (x0b : Option Addr) (x0n : Nat) (x0c : Nat) (K : Value → H → Prop) (h : H) : Prop := n1 x0b x0n x0c (fun h => K (.tuple ⟨[]⟩) h) (fun h => K (.tuple ⟨[]⟩) h) h
theorem ok (x0b : Option Addr) (x0n : Nat) (x0c : Nat) (K : Value → H → Prop) (h : H) (hS : asks x0b x0n x0c K h) : HCalls Try.prog 14 ⟨[(.slice x0b x0n x0c)]⟩ h K := by
  refine calls_of_wpC (c := code) Try.func14 (by kernel_rfl) (Nat.le_of_ble_eq_true (by kernel_rfl)) ?_
  refine (n1_ok x0b x0n x0c (fun h => K (.tuple ⟨[]⟩) h) (fun h => K (.tuple ⟨[]⟩) h) (env0 [(.slice x0b x0n x0c)]) ⟨rfl, rfl⟩ h hS).mono ?_
  intro e g' h' hq
  cases e with
  | normal =>
    have hq : D0 (fun h => K (.tuple ⟨[]⟩) h) g' h' := hq
    obtain ⟨hd, hq⟩ := D0_ok hq
    show leaveX g'.ds h' _
    rw [hd]
    show K (.tuple ⟨[]⟩) h'
    exact hq
  | ret =>
    have hq : D0 (fun h => K (.tuple ⟨[]⟩) h) g' h' := hq
    obtain ⟨hd, hq⟩ := D0_ok hq
    show leaveX g'.ds h' _
    rw [hd]
    show K (.tuple ⟨[]⟩) h'
    exact hq
  | _ => exact hq
end Sx.r00_SpoilNodes

/-! ### tympan/tympanref00.SameNodes -/
namespace Sx.r00_SameNodes
noncomputable def code : Code := bodyOf Try.f16
abbrev T0 := Bool → H → Prop
def E0 (g : Env) (x4 : Bool) : Prop := g.v 4 = (.bool x4) ∧ g.ds = []
def D0 (K : T0) (g : Env) (h : H) : Prop := nilDs g.ds (vBool (g.v 4) fun b1 => K b1 h)
theorem D0_ok {K : T0} {g : Env} {h : H} (hq : D0 K g h) : ∃ (x4 : Bool), E0 g x4 ∧ K x4 h := by
  obtain ⟨hd, hq⟩ := nilDs_ok hq
  obtain ⟨y3, e2, q4⟩ := vBool_ok hq
  exact ⟨y3, ⟨e2, hd⟩, q4⟩
def Q0 (Kn : T0) (Kr : T0) : XPost
  | .normal, g, h => D0 Kn g h
  | .ret, g, h => D0 Kr g h
  | _, _, _ => False
abbrev T1 := (Option Addr) → Nat → Nat → (Option Addr) → Nat → Nat → H → Prop
def E1 (g : Env) (x0b : Option Addr) (x0n : Nat) (x0c : Nat) (x1b : Option Addr) (x1n : Nat) (x1c : Nat) : Prop := g.v 0 = (.slice x0b x0n x0c) ∧ g.v 1 = (.slice x1b x1n x1c) ∧ g.ds = []
def D1 (K : T1) (g : Env) (h : H) : Prop := nilDs g.ds (vSlice (g.v 0) fun s5b s5n s5c => vSlice (g.v 1) fun s6b s6n s6c => K s5b s5n s5c s6b s6n s6c h)
theorem D1_ok {K : T1} {g : Env} {h : H} (hq : D1 K g h) : ∃ (x0b : Option Addr) (x0n : Nat) (x0c : Nat) (x1b : Option Addr) (x1n : Nat) (x1c : Nat), E1 g x0b x0n x0c x1b x1n x1c ∧ K x0b x0n x0c x1b x1n x1c h := by
  obtain ⟨hd, hq⟩ := nilDs_ok hq
  obtain ⟨y8b, y8n, y8c, e7, q9⟩ := vSlice_ok hq
  obtain ⟨y11b, y11n, y11c, e10, q12⟩ := vSlice_ok q9
  exact ⟨y8b, y8n, y8c, y11b, y11n, y11c, ⟨e7, e10, hd⟩, q12⟩
noncomputable def n1_c1 : Code := cFst code
noncomputable def n1_c2 : Code := cSnd code
noncomputable def n2_c1 : Code := cFst n1_c2
noncomputable def n2_c2 : Code := cSnd n1_c2
noncomputable def n3_c1 : Code := cFst n2_c2
noncomputable def n3_c2 : Code := cSnd n2_c2
abbrev T2 := H → Prop
def E2 (g : Env)  : Prop := g.ds = []
def D2 (K : T2) (g : Env) (h : H) : Prop := nilDs g.ds (K h)
theorem D2_ok {K : T2} {g : Env} {h : H} (hq : D2 K g h) : E2 g  ∧ K  h := by
  obtain ⟨hd, hq⟩ := nilDs_ok hq
  skip
  exact ⟨hd, hq⟩
abbrev n4  (Kn : T0) (Kr : T0) (h : H) : Prop :=
  Kr true h
theorem n4_ok  (Kn : T0) (Kr : T0) (g : Env) (hg : E2 g ) (h : H) (hS : n4  Kn Kr h) : wpC none Try.prog 69 n3_c2 (Q0 Kn Kr) g h := by
  have hds : g.ds = [] := hg
  refine wpC_of_wpx (by kernel_rfl) (by kernel_rfl) (g' := ⟨g.v, []⟩) (by rw [env_ds hds]) ?_
  have e : (n4  Kn Kr h) = wpx none Try.prog 69 n3_c2 (Q0 Kn Kr) (⟨g.v, []⟩) h := by kernel_rfl
  exact e ▸ hS
def Q1 (Kn : T2) (Kr : T0) : XPost
  | .normal, g, h => D2 Kn g h
  | .ret, g, h => D0 Kr g h
  | _, _, _ => False
noncomputable def n5_c1 : Code := cFst n3_c1
noncomputable def n5_c2 : Code := cSnd n3_c1
abbrev T3 := (Option Addr) → Nat → Nat → (Option Addr) → Nat → Nat → Int → H → Prop
def E3 (g : Env) (x0b : Option Addr) (x0n : Nat) (x0c : Nat) (x1b : Option Addr) (x1n : Nat) (x1c : Nat) (x5 : Int) : Prop := g.v 0 = (.slice x0b x0n x0c) ∧ g.v 1 = (.slice x1b x1n x1c) ∧ g.v 5 = (.int .i64 x5) ∧ g.ds = []
def D3 (K : T3) (g : Env) (h : H) : Prop := nilDs g.ds (vSlice (g.v 0) fun s13b s13n s13c => vSlice (g.v 1) fun s14b s14n s14c => vInt .i64 (g.v 5) fun i15 => K s13b s13n s13c s14b s14n s14c i15 h)
theorem D3_ok {K : T3} {g : Env} {h : H} (hq : D3 K g h) : ∃ (x0b : Option Addr) (x0n : Nat) (x0c : Nat) (x1b : Option Addr) (x1n : Nat) (x1c : Nat) (x5 : Int), E3 g x0b x0n x0c x1b x1n x1c x5 ∧ K x0b x0n x0c x1b x1n x1c x5 h := by
  obtain ⟨hd, hq⟩ := nilDs_ok hq
  obtain ⟨y17b, y17n, y17c, e16, q18⟩ := vSlice_ok hq
  obtain ⟨y20b, y20n, y20c, e19, q21⟩ := vSlice_ok q18
  obtain ⟨y23, e22, q24⟩ := vInt_ok q21
  exact ⟨y17b, y17n, y17c, y20b, y20n, y20c, y23, ⟨e16, e19, e22, hd⟩, q24⟩
noncomputable def n6_c1 : Code := cFst n5_c2
def Q2 (Kn : T2) (Ke0 : T2) (Kr : T0) : XPost
  | .normal, g, h => D2 Kn g h
  | .ret, g, h => D0 Kr g h
  | .exit id, g, h => cond (Nat.beq id 0) (D2 Ke0 g h) (False)
  | _, _, _ => False
noncomputable def n7_c1 : Code := cFst n6_c1
def Q3 (Kn : T3) (Ke0 : T2) (Kr : T0) : XPost
  | .normal, g, h => D3 Kn g h
  | .ret, g, h => D0 Kr g h
  | .exit id, g, h => cond (Nat.beq id 0) (D2 Ke0 g h) (False)
  | _, _, _ => False
def n7_L (Kn : T2) (Ke0 : T2) (Kr : T0) : Nat → (Option Addr) → Nat → Nat → (Option Addr) → Nat → Nat → Int → H → Prop
  | 0 => fun _ _ _ _ _ _ _ _ => False
  | N + 1 => fun x0b x0n x0c x1b x1n x1c x5 h => Spl (x5 < (x0n : Int)) ((0 ≤ x5 ∧ x5 < (x0n : Int)) ∧ (vSome x0b fun a25 => ∃ i26, cell h (((a25.add (Int.toNat x5 * 6))).add 0) = some (.int .u8 i26) ∧ (∃ i27, cell h (((a25.add (Int.toNat x5 * 6))).add 1) = some (.int .u8 i27) ∧ (∃ s28, cell h (((a25.add (Int.toNat x5 * 6))).add 2) = some (S s28) ∧ (∃ s29b s29n s29c, cell h (((a25.add (Int.toNat x5 * 6))).add 3) = some (.slice s29b s29n s29c) ∧ (∃ s30, cell h (((a25.add (Int.toNat x5 * 6))).add 4) = some (S s30) ∧ (∃ s31b s31n s31c, cell h (((a25.add (Int.toNat x5 * 6))).add 5) = some (.slice s31b s31n s31c) ∧ (newx h ⟨[(.int .u8 (0 : Int)), (.int .u8 (0 : Int)), (S ([] : List UInt8)), (.slice none 0 0), (S ([] : List UInt8)), (.slice none 0 0)]⟩ 31 fun a32 h33 => stL a32 [(.int .u8 i26), (.int .u8 i27), (S s28), (.slice s29b s29n s29c), (S s30), (.slice s31b s31n s31c)] 0 h33 fun h34 => (0 ≤ x5 ∧ x5 < (x1n : Int)) ∧ (vSome x1b fun a35 => ∃ i36, cell h34 (((a35.add (Int.toNat x5 * 6))).add 0) = some (.int .u8 i36) ∧ (∃ i37, cell h34 (((a35.add (Int.toNat x5 * 6))).add 1) = some (.int .u8 i37) ∧ (∃ s38, cell h34 (((a35.add (Int.toNat x5 * 6))).add 2) = some (S s38) ∧ (∃ s39b s39n s39c, cell h34 (((a35.add (Int.toNat x5 * 6))).add 3) = some (.slice s39b s39n s39c) ∧ (∃ s40, cell h34 (((a35.add (Int.toNat x5 * 6))).add 4) = some (S s40) ∧ (∃ s41b s41n s41c, cell h34 (((a35.add (Int.toNat x5 * 6))).add 5) = some (.slice s41b s41n s41c) ∧ (newx h34 ⟨[(.int .u8 (0 : Int)), (.int .u8 (0 : Int)), (S ([] : List UInt8)), (.slice none 0 0), (S ([] : List UInt8)), (.slice none 0 0)]⟩ 31 fun a42 h43 => stL a42 [(.int .u8 i36), (.int .u8 i37), (S s38), (.slice s39b s39n s39c), (S s40), (.slice s41b s41n s41c)] 0 h43 fun h44 => ∃ i45, cell h44 (a32.add 0) = some (.int .u8 i45) ∧ (∃ i46, cell h44 (a42.add 0) = some (.int .u8 i46) ∧ (Spl (i45 = i46) (∃ i47, cell h44 (a32.add 1) = some (.int .u8 i47) ∧ (∃ i48, cell h44 (a42.add 1) = some (.int .u8 i48) ∧ (Spl (i47 = i48) (∃ s49, cell h44 (a32.add 2) = some (S s49) ∧ (∃ s50, cell h44 (a42.add 2) = some (S s50) ∧ (Spl (s49 = s50) (∃ s51, cell h44 (a32.add 4) = some (S s51) ∧ (∃ s52, cell h44 (a42.add 4) = some (S s52) ∧ (Spl (s51 = s52) (∃ s53b s53n s53c, cell h44 (a32.add 3) = some (.slice s53b s53n s53c) ∧ (∃ s54b s54n s54c, cell h44 (a42.add 3) = some (.slice s54b s54n s54c) ∧ (HCalls Try.prog 42 ⟨[(.slice s53b s53n s53c), (.slice s54b s54n s54c)]⟩ h44 fun v55 h56 => vBool v55 fun b57 => cond b57 (∃ s58b s58n s58c, cell h56 (a32.add 5) = some (.slice s58b s58n s58c) ∧ (∃ s59b s59n s59c, cell h56 (a42.add 5) = some (.slice s59b s59n s59c) ∧ (HCalls Try.prog 16 ⟨[(.slice s58b s58n s58c), (.slice s59b s59n s59c)]⟩ h56 fun v60 h61 => vBool v60 fun b62 => cond b62 (Rng .i64 (x5 + (1 : Int)) ∧ (n7_L Kn Ke0 Kr N x0b x0n x0c x1b x1n x1c (x5 + (1 : Int)) h61)) (Kr false h61)))) (Kr false h56)))) (Kr false h44)))) (Kr false h44)))) (Kr false h44)))) (Kr false h44)))))))))))))))))) (Ke0 h)
abbrev n7 (x0b : Option Addr) (x0n : Nat) (x0c : Nat) (x1b : Option Addr) (x1n : Nat) (x1c : Nat) (x5 : Int) (Kn : T2) (Ke0 : T2) (Kr : T0) (h : H) : Prop := ∃ N, n7_L Kn Ke0 Kr N x0b x0n x0c x1b x1n x1c x5 h
theorem n7_ok (x0b : Option Addr) (x0n : Nat) (x0c : Nat) (x1b : Option Addr) (x1n : Nat) (x1c : Nat) (x5 : Int) (Kn : T2) (Ke0 : T2) (Kr : T0) (g : Env) (hg : E3 g x0b x0n x0c x1b x1n x1c x5) (h : H) (hS : n7 x0b x0n x0c x1b x1n x1c x5 Kn Ke0 Kr h) : wpC none Try.prog 69 n6_c1 (Q2 Kn Ke0 Kr) g h := by
  obtain ⟨N0, hS⟩ := hS
  refine wpC_loop' (x := n7_c1) (by kernel_rfl) (fun k g h => ∃ (x0b : Option Addr) (x0n : Nat) (x0c : Nat) (x1b : Option Addr) (x1n : Nat) (x1c : Nat) (x5 : Int), E3 g x0b x0n x0c x1b x1n x1c x5 ∧ n7_L Kn Ke0 Kr k x0b x0n x0c x1b x1n x1c x5 h) (fun g h hr => ?_) (fun N g h hr => ?_) N0 ⟨x0b, x0n, x0c, x1b, x1n, x1c, x5, hg, hS⟩
  · obtain ⟨x0b, x0n, x0c, x1b, x1n, x1c, x5, hg, hS⟩ := hr
    exact hS.elim
  · obtain ⟨x0b, x0n, x0c, x1b, x1n, x1c, x5, hg, hS⟩ := hr
    have hw : wpC none Try.prog 69 n7_c1 (Q3 (fun z0b z0n z0c z1b z1n z1c z5 h => n7_L Kn Ke0 Kr N z0b z0n z0c z1b z1n z1c z5 h) Ke0 Kr) g h := by
      obtain ⟨hg0, hg1, hg5, hds⟩ := hg
      refine wpC_of_wpx (by kernel_rfl) (by kernel_rfl) (g' := (((⟨g.v, []⟩ : Env).upd (some 0) (.slice x0b x0n x0c)).upd (some 1) (.slice x1b x1n x1c)).upd (some 5) (.int .i64 x5)) (by rw [env_ds hds, upd_self hg0, upd_self hg1, upd_self hg5]) ?_
      have e : (n7_L Kn Ke0 Kr (N + 1) x0b x0n x0c x1b x1n x1c x5 h) = wpx none Try.prog 69 n7_c1 (Q3 (fun z0b z0n z0c z1b z1n z1c z5 h => n7_L Kn Ke0 Kr N z0b z0n z0c z1b z1n z1c z5 h) Ke0 Kr) ((((⟨g.v, []⟩ : Env).upd (some 0) (.slice x0b x0n x0c)).upd (some 1) (.slice x1b x1n x1c)).upd (some 5) (.int .i64 x5)) h := by kernel_rfl
      exact e ▸ hS
    refine hw.mono ?_
    intro e g' h' hq
    cases e with
    | normal => exact D3_ok (K := (fun z0b z0n z0c z1b z1n z1c z5 h => n7_L Kn Ke0 Kr N z0b z0n z0c z1b z1n z1c z5 h)) hq
    | _ => exact hq
abbrev n6 (x0b : Option Addr) (x0n : Nat) (x0c : Nat) (x1b : Option Addr) (x1n : Nat) (x1c : Nat) (x5 : Int) (Kn : T2) (Kr : T0) (h : H) : Prop := n7 x0b x0n x0c x1b x1n x1c x5 Kn Kn Kr h
theorem n6_ok (x0b : Option Addr) (x0n : Nat) (x0c : Nat) (x1b : Option Addr) (x1n : Nat) (x1c : Nat) (x5 : Int) (Kn : T2) (Kr : T0) (g : Env) (hg : E3 g x0b x0n x0c x1b x1n x1c x5) (h : H) (hS : n6 x0b x0n x0c x1b x1n x1c x5 Kn Kr h) : wpC none Try.prog 69 n5_c2 (Q1 Kn Kr) g h := by
  refine wpC_block' (id := 0) (x := n6_c1) (by kernel_rfl) (n7_ok x0b x0n x0c x1b x1n x1c x5 Kn Kn Kr g hg h hS) ?_
  intro e g' h' hq
  cases e <;> exact hq
def Q4 (Kn : T3) (Kr : T0) : XPost
  | .normal, g, h => D3 Kn g h
  | .ret, g, h => D0 Kr g h
  | _, _, _ => False
abbrev n5 (x0b : Option Addr) (x0n : Nat) (x0c : Nat) (x1b : Option Addr) (x1n : Nat) (x1c : Nat) (Kn : T2) (Kr : T0) (h : H) : Prop :=
  n6 x0b x0n x0c x1b x1n x1c (0 : Int) Kn Kr h
theorem n5_ok (x0b : Option Addr) (x0n : Nat) (x0c : Nat) (x1b : Option Addr) (x1n : Nat) (x1c : Nat) (Kn : T2) (Kr : T0) (g : Env) (hg : E1 g x0b x0n x0c x1b x1n x1c) (h : H) (hS : n5 x0b x0n x0c x1b x1n x1c Kn Kr h) : wpC none Try.prog 69 n3_c1 (Q1 Kn Kr) g h := by
  obtain ⟨hg0, hg1, hds⟩ := hg
  refine wpC_seq' (x := n5_c1) (y := n5_c2) (Q' := (Q4 (fun z0b z0n z0c z1b z1n z1c z5 h => n6 z0b z0n z0c z1b z1n z1c z5 Kn Kr h) Kr)) (by kernel_rfl) ?_ ?_
  · refine wpC_of_wpx (by kernel_rfl) (by kernel_rfl) (g' := ((⟨g.v, []⟩ : Env).upd (some 0) (.slice x0b x0n x0c)).upd (some 1) (.slice x1b x1n x1c)) (by rw [env_ds hds, upd_self hg0, upd_self hg1]) ?_
    have e : (n5 x0b x0n x0c x1b x1n x1c Kn Kr h) = wpx none Try.prog 69 n5_c1 (Q4 (fun z0b z0n z0c z1b z1n z1c z5 h => n6 z0b z0n z0c z1b z1n z1c z5 Kn Kr h) Kr) (((⟨g.v, []⟩ : Env).upd (some 0) (.slice x0b x0n x0c)).upd (some 1) (.slice x1b x1n x1c)) h := by kernel_rfl
    exact e ▸ hS
  · intro e g' h' hq
    cases e with
    | normal =>
      have hq : D3 (fun z0b z0n z0c z1b z1n z1c z5 h => n6 z0b z0n z0c z1b z1n z1c z5 Kn Kr h) g' h' := hq
      obtain ⟨y0b, y0n, y0c, y1b, y1n, y1c, y5, hg', hq⟩ := D3_ok hq
      exact n6_ok y0b y0n y0c y1b y1n y1c y5 Kn Kr g' hg' h' hq
    | _ => exact hq
abbrev n3 (x0b : Option Addr) (x0n : Nat) (x0c : Nat) (x1b : Option Addr) (x1n : Nat) (x1c : Nat) (Kn : T0) (Kr : T0) (h : H) : Prop := n5 x0b x0n x0c x1b x1n x1c (fun  h => n4 Kn Kr h) Kr h
theorem n3_ok (x0b : Option Addr) (x0n : Nat) (x0c : Nat) (x1b : Option Addr) (x1n : Nat) (x1c : Nat) (Kn : T0) (Kr : T0) (g : Env) (hg : E1 g x0b x0n x0c x1b x1n x1c) (h : H) (hS : n3 x0b x0n x0c x1b x1n x1c Kn Kr h) : wpC none Try.prog 69 n2_c2 (Q0 Kn Kr) g h := by
  refine wpC_seq' (x := n3_c1) (y := n3_c2) (by kernel_rfl) (n5_ok x0b x0n x0c x1b x1n x1c (fun  h => n4 Kn Kr h) Kr g hg h hS) ?_
  intro e g' h' hq
  cases e with
  | normal =>
    have hq : D2 (fun  h => n4 Kn Kr h) g' h' := hq
    obtain ⟨hg', hq⟩ := D2_ok hq
    exact n4_ok  Kn Kr g' hg' h' hq
  | _ => exact hq
def Q5 (Kn : T1) (Kr : T0) : XPost
  | .normal, g, h => D1 Kn g h
  | .ret, g, h => D0 Kr g h
  | _, _, _ => False
abbrev n2 (x0b : Option Addr) (x0n : Nat) (x0c : Nat) (x1b : Option Addr) (x1n : Nat) (x1c : Nat) (Kn : T0) (Kr : T0) (h : H) : Prop :=
  Spl ((x0n : Int) = (x1n : Int)) (n3 x0b x0n x0c x1b x1n x1c Kn Kr h) (Kr false h)
theorem n2_ok (x0b : Option Addr) (x0n : Nat) (x0c : Nat) (x1b : Option Addr) (x1n : Nat) (x1c : Nat) (Kn : T0) (Kr : T0) (g : Env) (hg : E1 g x0b x0n x0c x1b x1n x1c) (h : H) (hS : n2 x0b x0n x0c x1b x1n x1c Kn Kr h) : wpC none Try.prog 69 n1_c2 (Q0 Kn Kr) g h := by
  obtain ⟨hg0, hg1, hds⟩ := hg
  refine wpC_seq' (x := n2_c1) (y := n2_c2) (Q' := (Q5 (fun z0b z0n z0c z1b z1n z1c h => n3 z0b z0n z0c z1b z1n z1c Kn Kr h) Kr)) (by kernel_rfl) ?_ ?_
  · refine wpC_of_wpx (by kernel_rfl) (by kernel_rfl) (g' := ((⟨g.v, []⟩ : Env).upd (some 0) (.slice x0b x0n x0c)).upd (some 1) (.slice x1b x1n x1c)) (by rw [env_ds hds, upd_self hg0, upd_self hg1]) ?_
    have e : (n2 x0b x0n x0c x1b x1n x1c Kn Kr h) = wpx none Try.prog 69 n2_c1 (Q5 (fun z0b z0n z0c z1b z1n z1c h => n3 z0b z0n z0c z1b z1n z1c Kn Kr h) Kr) (((⟨g.v, []⟩ : Env).upd (some 0) (.slice x0b x0n x0c)).upd (some 1) (.slice x1b x1n x1c)) h := by kernel_rfl
    exact e ▸ hS
  · intro e g' h' hq
    cases e with
    | normal =>
      have hq : D1 (fun z0b z0n z0c z1b z1n z1c h => n3 z0b z0n z0c z1b z1n z1c Kn Kr h) g' h' := hq
      obtain ⟨y0b, y0n, y0c, y1b, y1n, y1c, hg', hq⟩ := D1_ok hq
      exact n3_ok y0b y0n y0c y1b y1n y1c Kn Kr g' hg' h' hq
    | _ => exact hq
abbrev n1 (x0b : Option Addr) (x0n : Nat) (x0c : Nat) (x1b : Option Addr) (x1n : Nat) (x1c : Nat) (Kn : T0) (Kr : T0) (h : H) : Prop :=
  n2 x0b x0n x0c x1b x1n x1c Kn Kr h
theorem n1_ok (x0b : Option Addr) (x0n : Nat) (x0c : Nat) (x1b : Option Addr) (x1n : Nat) (x1c : Nat) (Kn : T0) (Kr : T0) (g : Env) (hg : E1 g x0b x0n x0c x1b x1n x1c) (h : H) (hS : n1 x0b x0n x0c x1b x1n x1c Kn Kr h) : wpC none Try.prog 69 code (Q0 Kn Kr) g h := by
  obtain ⟨hg0, hg1, hds⟩ := hg
  refine wpC_seq' (x := n1_c1) (y := n1_c2) (Q' := (Q5 (fun z0b z0n z0c z1b z1n z1c h => n2 z0b z0n z0c z1b z1n z1c Kn Kr h) Kr)) (by kernel_rfl) ?_ ?_
  · refine wpC_of_wpx (by kernel_rfl) (by kernel_rfl) (g' := ((⟨g.v, []⟩ : Env).upd (some 0) (.slice x0b x0n x0c)).upd (some 1) (.slice x1b x1n x1c)) (by rw [env_ds hds, upd_self hg0, upd_self hg1]) ?_
    have e : (n1 x0b x0n x0c x1b x1n x1c Kn Kr h) = wpx none Try.prog 69 n1_c1 (Q5 (fun z0b z0n z0c z1b z1n z1c h => n2 z0b z0n z0c z1b z1n z1c Kn Kr h) Kr) (((⟨g.v, []⟩ : Env).upd (some 0) (.slice x0b x0n x0c)).upd (some 1) (.slice x1b x1n x1c)) h := by kernel_rfl
    exact e ▸ hS
  · intro e g' h' hq
    cases e with
    | normal =>
      have hq : D1 (fun z0b z0n z0c z1b z1n z1c h => n2 z0b z0n z0c z1b z1n z1c Kn Kr h) g' h' := hq
      obtain ⟨y0b, y0n, y0c, y1b, y1n, y1c, hg', hq⟩ := D1_ok hq
      exact n2_ok y0b y0n y0c y1b y1n y1c Kn Kr g' hg' h' hq
    | _ => exact hq
/-- WHAT tympan/tympanref00.SameNodes ASKS -/
abbrev asks (x0b : Option Addr) (x0n : Nat) (x0c : Nat) (x1b : Option Addr) (x1n : Nat) (x1c : Nat) (K : Value → H → Prop) (h : H) : Prop := n1 x0b x0n x0c x1b x1n x1c (fun y4 h => K (.bool y4) h) (fun y4 h => K (.bool y4) h) h
theorem ok (x0b : Option Addr) (x0n : Nat) (x0c : Nat) (x1b : Option Addr) (x1n : Nat) (x1c : Nat) (K : Value → H → Prop) (h : H) (hS : asks x0b x0n x0c x1b x1n x1c K h) : HCalls Try.prog 16 ⟨[(.slice x0b x0n x0c), (.slice x1b x1n x1c)]⟩ h K := by
  refine calls_of_wpC (c := code) Try.func16 (by kernel_rfl) (Nat.le_of_ble_eq_true (by kernel_rfl)) ?_
  refine (n1_ok x0b x0n x0c x1b x1n x1c (fun y4 h => K (.bool y4) h) (fun y4 h => K (.bool y4) h) (env0 [(.slice x0b x0n x0c), (.slice x1b x1n x1c)]) ⟨rfl, rfl, rfl⟩ h hS).mono ?_
  intro e g' h' hq
  cases e with
  | normal =>
    have hq : D0 (fun y4 h => K (.bool y4) h) g' h' := hq
    obtain ⟨y4, ⟨hg4, hd⟩, hq⟩ := D0_ok hq
    show leaveX g'.ds h' _
    rw [hd]
    show K (g'.v 4) h'
    rw [hg4]
    exact hq
  | ret =>
    have hq : D0 (fun y4 h => K (.bool y4) h) g' h' := hq
    obtain ⟨y4, ⟨hg4, hd⟩, hq⟩ := D0_ok hq
    show leaveX g'.ds h' _
    rw [hd]
    show K (g'.v 4) h'
    rw [hg4]
    exact hq
  | _ => exact hq
end Sx.r00_SameNodes

/-! ### tympan/tympanref00.Nodes -/
namespace Sx.r00_Nodes
noncomputable def code : Code := bodyOf Try.f29
abbrev T0 := Int → H → Prop
def E0 (g : Env) (x6 : Int) : Prop := g.v 6 = (.int .i64 x6) ∧ g.ds = []
def D0 (K : T0) (g : Env) (h : H) : Prop := nilDs g.ds (vInt .i64 (g.v 6) fun i1 => K i1 h)
theorem D0_ok {K : T0} {g : Env} {h : H} (hq : D0 K g h) : ∃ (x6 : Int), E0 g x6 ∧ K x6 h := by
  obtain ⟨hd, hq⟩ := nilDs_ok hq
  obtain ⟨y3, e2, q4⟩ := vInt_ok hq
  exact ⟨y3, ⟨e2, hd⟩, q4⟩
def Q0 (Kn : T0) (Kr : T0) : XPost
  | .normal, g, h => D0 Kn g h
  | .ret, g, h => D0 Kr g h
  | _, _, _ => False
abbrev T1 := (Option Addr) → Nat → Nat → Int → Int → H → Prop
def E1 (g : Env) (x0b : Option Addr) (x0n : Nat) (x0c : Nat) (x1 : Int) (x2 : Int) : Prop := g.v 0 = (.slice x0b x0n x0c) ∧ g.v 1 = (.int .i64 x1) ∧ g.v 2 = (.int .i64 x2) ∧ g.ds = []
def D1 (K : T1) (g : Env) (h : H) : Prop := nilDs g.ds (vSlice (g.v 0) fun s5b s5n s5c => vInt .i64 (g.v 1) fun i6 => vInt .i64 (g.v 2) fun i7 => K s5b s5n s5c i6 i7 h)
theorem D1_ok {K : T1} {g : Env} {h : H} (hq : D1 K g h) : ∃ (x0b : Option Addr) (x0n : Nat) (x0c : Nat) (x1 : Int) (x2 : Int), E1 g x0b x0n x0c x1 x2 ∧ K x0b x0n x0c x1 x2 h := by
  obtain ⟨hd, hq⟩ := nilDs_ok hq
  obtain ⟨y9b, y9n, y9c, e8, q10⟩ := vSlice_ok hq
  obtain ⟨y12, e11, q13⟩ := vInt_ok q10
  obtain ⟨y15, e14, q16⟩ := vInt_ok q13
  exact ⟨y9b, y9n, y9c, y12, y15, ⟨e8, e11, e14, hd⟩, q16⟩
noncomputable def n1_c1 : Code := cFst code
noncomputable def n1_c2 : Code := cSnd code
noncomputable def n2_c1 : Code := cFst n1_c2
noncomputable def n2_c2 : Code := cSnd n1_c2
abbrev T2 := Int → H → Prop
def E2 (g : Env) (x1 : Int) : Prop := g.v 1 = (.int .i64 x1) ∧ g.ds = []
def D2 (K : T2) (g : Env) (h : H) : Prop := nilDs g.ds (vInt .i64 (g.v 1) fun i17 => K i17 h)
theorem D2_ok {K : T2} {g : Env} {h : H} (hq : D2 K g h) : ∃ (x1 : Int), E2 g x1 ∧ K x1 h := by
  obtain ⟨hd, hq⟩ := nilDs_ok hq
  obtain ⟨y19, e18, q20⟩ := vInt_ok hq
  exact ⟨y19, ⟨e18, hd⟩, q20⟩
abbrev n3 (x1 : Int) (Kn : T0) (Kr : T0) (h : H) : Prop :=
  Kr x1 h
theorem n3_ok (x1 : Int) (Kn : T0) (Kr : T0) (g : Env) (hg : E2 g x1) (h : H) (hS : n3 x1 Kn Kr h) : wpC none Try.prog 88 n2_c2 (Q0 Kn Kr) g h := by
  obtain ⟨hg1, hds⟩ := hg
  refine wpC_of_wpx (by kernel_rfl) (by kernel_rfl) (g' := (⟨g.v, []⟩ : Env).upd (some 1) (.int .i64 x1)) (by rw [env_ds hds, upd_self hg1]) ?_
  have e : (n3 x1 Kn Kr h) = wpx none Try.prog 88 n2_c2 (Q0 Kn Kr) ((⟨g.v, []⟩ : Env).upd (some 1) (.int .i64 x1)) h := by kernel_rfl
  exact e ▸ hS
def Q1 (Kn : T2) (Kr : T0) : XPost
  | .normal, g, h => D2 Kn g h
  | .ret, g, h => D0 Kr g h
  | _, _, _ => False
noncomputable def n4_c1 : Code := cFst n2_c1
noncomputable def n4_c2 : Code := cSnd n2_c1
abbrev T3 := (Option Addr) → Nat → Nat → Int → Int → Int → H → Prop
def E3 (g : Env) (x0b : Option Addr) (x0n : Nat) (x0c : Nat) (x1 : Int) (x2 : Int) (x7 : Int) : Prop := g.v 0 = (.slice x0b x0n x0c) ∧ g.v 1 = (.int .i64 x1) ∧ g.v 2 = (.int .i64 x2) ∧ g.v 7 = (.int .i64 x7) ∧ g.ds = []
def D3 (K : T3) (g : Env) (h : H) : Prop := nilDs g.ds (vSlice (g.v 0) fun s21b s21n s21c => vInt .i64 (g.v 1) fun i22 => vInt .i64 (g.v 2) fun i23 => vInt .i64 (g.v 7) fun i24 => K s21b s21n s21c i22 i23 i24 h)
theorem D3_ok {K : T3} {g : Env} {h : H} (hq : D3 K g h) : ∃ (x0b : Option Addr) (x0n : Nat) (x0c : Nat) (x1 : Int) (x2 : Int) (x7 : Int), E3 g x0b x0n x0c x1 x2 x7 ∧ K x0b x0n x0c x1 x2 x7 h := by
  obtain ⟨hd, hq⟩ := nilDs_ok hq
  obtain ⟨y26b, y26n, y26c, e25, q27⟩ := vSlice_ok hq
  obtain ⟨y29, e28, q30⟩ := vInt_ok q27
  obtain ⟨y32, e31, q33⟩ := vInt_ok q30
  obtain ⟨y35, e34, q36⟩ := vInt_ok q33
  exact ⟨y26b, y26n, y26c, y29, y32, y35, ⟨e25, e28, e31, e34, hd⟩, q36⟩
noncomputable def n5_c1 : Code := cFst n4_c2
def Q2 (Kn : T2) (Ke0 : T2) (Kr : T0) : XPost
  | .normal, g, h => D2 Kn g h
  | .ret, g, h => D0 Kr g h
  | .exit id, g, h => cond (Nat.beq id 0) (D2 Ke0 g h) (False)
  | _, _, _ => False
noncomputable def n6_c1 : Code := cFst n5_c1
def Q3 (Kn : T3) (Ke0 : T2) (Kr : T0) : XPost
  | .normal, g, h => D3 Kn g h
  | .ret, g, h => D0 Kr g h
  | .exit id, g, h => cond (Nat.beq id 0) (D2 Ke0 g h) (False)
  | _, _, _ => False
noncomputable def n7_c1 : Code := cFst n6_c1
noncomputable def n7_c2 : Code := cSnd n6_c1
noncomputable def n8_c1 : Code := cFst n7_c2
noncomputable def n8_c2 : Code := cSnd n7_c2
abbrev n9 (x0b : Option Addr) (x0n : Nat) (x0c : Nat) (x1 : Int) (x2 : Int) (x7 : Int) (Kn : T3) (Ke0 : T2) (Kr : T0) (h : H) : Prop :=
  Rng .i64 (x7 + (1 : Int)) ∧ (Kn x0b x0n x0c x1 x2 (x7 + (1 : Int)) h)
theorem n9_ok (x0b : Option Addr) (x0n : Nat) (x0c : Nat) (x1 : Int) (x2 : Int) (x7 : Int) (Kn : T3) (Ke0 : T2) (Kr : T0) (g : Env) (hg : E3 g x0b x0n x0c x1 x2 x7) (h : H) (hS : n9 x0b x0n x0c x1 x2 x7 Kn Ke0 Kr h) : wpC none Try.prog 88 n8_c2 (Q3 Kn Ke0 Kr) g h := by
  obtain ⟨hg0, hg1, hg2, hg7, hds⟩ := hg
  refine wpC_of_wpx (by kernel_rfl) (by kernel_rfl) (g' := ((((⟨g.v, []⟩ : Env).upd (some 0) (.slice x0b x0n x0c)).upd (some 1) (.int .i64 x1)).upd (some 2) (.int .i64 x2)).upd (some 7) (.int .i64 x7)) (by rw [env_ds hds, upd_self hg0, upd_self hg1, upd_self hg2, upd_self hg7]) ?_
  have e : (n9 x0b x0n x0c x1 x2 x7 Kn Ke0 Kr h) = wpx none Try.prog 88 n8_c2 (Q3 Kn Ke0 Kr) (((((⟨g.v, []⟩ : Env).upd (some 0) (.slice x0b x0n x0c)).upd (some 1) (.int .i64 x1)).upd (some 2) (.int .i64 x2)).upd (some 7) (.int .i64 x7)) h := by kernel_rfl
  exact e ▸ hS
noncomputable def n10_c1 : Code := cFst n8_c1
def Q4 (Kn : T3) (Ke1 : T3) (Ke0 : T2) (Kr : T0) : XPost
  | .normal, g, h => D3 Kn g h
  | .ret, g, h => D0 Kr g h
  | .exit id, g, h => cond (Nat.beq id 1) (D3 Ke1 g h) (cond (Nat.beq id 0) (D2 Ke0 g h) (False))
  | _, _, _ => False
noncomputable def n11_c1 : Code := cFst n10_c1
noncomputable def n11_c2 : Code := cSnd n10_c1
noncomputable def n12_c1 : Code := cFst n11_c2
noncomputable def n12_c2 : Code := cSnd n11_c2
abbrev n13 (x0b : Option Addr) (x0n : Nat) (x0c : Nat) (x1 : Int) (x2 : Int) (x7 : Int) (Kn : T3) (Ke1 : T3) (Ke0 : T2) (Kr : T0) (h : H) : Prop :=
  (0 ≤ x7 ∧ x7 < (x0n : Int)) ∧ (vSome x0b fun a37 => ∃ s38b s38n s38c, cell h ((a37.add (Int.toNat x7 * 6)).add 5) = some (.slice s38b s38n s38c) ∧ (HCalls Try.prog 29 ⟨[(.slice s38b s38n s38c), (.int .i64 x1), (.int .i64 x2)]⟩ h fun v39 h40 => vInt .i64 v39 fun i41 => Kn x0b x0n x0c i41 x2 x7 h40))
theorem n13_ok (x0b : Option Addr) (x0n : Nat) (x0c : Nat) (x1 : Int) (x2 : Int) (x7 : Int) (Kn : T3) (Ke1 : T3) (Ke0 : T2) (Kr : T0) (g : Env) (hg : E3 g x0b x0n x0c x1 x2 x7) (h : H) (hS : n13 x0b x0n x0c x1 x2 x7 Kn Ke1 Ke0 Kr h) : wpC none Try.prog 88 n12_c2 (Q4 Kn Ke1 Ke0 Kr) g h := by
  obtain ⟨hg0, hg1, hg2, hg7, hds⟩ := hg
  refine wpC_of_wpx (by kernel_rfl) (by kernel_rfl) (g' := ((((⟨g.v, []⟩ : Env).upd (some 0) (.slice x0b x0n x0c)).upd (some 1) (.int .i64 x1)).upd (some 2) (.int .i64 x2)).upd (some 7) (.int .i64 x7)) (by rw [env_ds hds, upd_self hg0, upd_self hg1, upd_self hg2, upd_self hg7]) ?_
  have e : (n13 x0b x0n x0c x1 x2 x7 Kn Ke1 Ke0 Kr h) = wpx none Try.prog 88 n12_c2 (Q4 Kn Ke1 Ke0 Kr) (((((⟨g.v, []⟩ : Env).upd (some 0) (.slice x0b x0n x0c)).upd (some 1) (.int .i64 x1)).upd (some 2) (.int .i64 x2)).upd (some 7) (.int .i64 x7)) h := by kernel_rfl
  exact e ▸ hS
noncomputable def n14_c1 : Code := cFst n12_c1
noncomputable def n14_c2 : Code := cSnd n12_c1
abbrev T4 := (Option Addr) → Nat → Nat → Int → Int → Int → Int → H → Prop
def E4 (g : Env) (x0b : Option Addr) (x0n : Nat) (x0c : Nat) (x1 : Int) (x2 : Int) (x7 : Int) (x8 : Int) : Prop := g.v 0 = (.slice x0b x0n x0c) ∧ g.v 1 = (.int .i64 x1) ∧ g.v 2 = (.int .i64 x2) ∧ g.v 7 = (.int .i64 x7) ∧ g.v 8 = (.int .i64 x8) ∧ g.ds = []
def D4 (K : T4) (g : Env) (h : H) : Prop := nilDs g.ds (vSlice (g.v 0) fun s42b s42n s42c => vInt .i64 (g.v 1) fun i43 => vInt .i64 (g.v 2) fun i44 => vInt .i64 (g.v 7) fun i45 => vInt .i64 (g.v 8) fun i46 => K s42b s42n s42c i43 i44 i45 i46 h)
theorem D4_ok {K : T4} {g : Env} {h : H} (hq : D4 K g h) : ∃ (x0b : Option Addr) (x0n : Nat) (x0c : Nat) (x1 : Int) (x2 : Int) (x7 : Int) (x8 : Int), E4 g x0b x0n x0c x1 x2 x7 x8 ∧ K x0b x0n x0c x1 x2 x7 x8 h := by
  obtain ⟨hd, hq⟩ := nilDs_ok hq
  obtain ⟨y48b, y48n, y48c, e47, q49⟩ := vSlice_ok hq
  obtain ⟨y51, e50, q52⟩ := vInt_ok q49
  obtain ⟨y54, e53, q55⟩ := vInt_ok q52
  obtain ⟨y57, e56, q58⟩ := vInt_ok q55
  obtain ⟨y60, e59, q61⟩ := vInt_ok q58
  exact ⟨y48b, y48n, y48c, y51, y54, y57, y60, ⟨e47, e50, e53, e56, e59, hd⟩, q61⟩
noncomputable def n15_c1 : Code := cFst n14_c2
def Q5 (Kn : T3) (Ke2 : T3) (Ke1 : T3) (Ke0 : T2) (Kr : T0) : XPost
  | .normal, g, h => D3 Kn g h
  | .ret, g, h => D0 Kr g h
  | .exit id, g, h => cond (Nat.beq id 2) (D3 Ke2 g h) (cond (Nat.beq id 1) (D3 Ke1 g h) (cond (Nat.beq id 0) (D2 Ke0 g h) (False)))
  | _, _, _ => False
noncomputable def n16_c1 : Code := cFst n15_c1
def Q6 (Kn : T4) (Ke2 : T3) (Ke1 : T3) (Ke0 : T2) (Kr : T0) : XPost
  | .normal, g, h => D4 Kn g h
  | .ret, g, h => D0 Kr g h
  | .exit id, g, h => cond (Nat.beq id 2) (D3 Ke2 g h) (cond (Nat.beq id 1) (D3 Ke1 g h) (cond (Nat.beq id 0) (D2 Ke0 g h) (False)))
  | _, _, _ => False
def n16_L (Kn : T3) (Ke2 : T3) (Ke1 : T3) (Ke0 : T2) (Kr : T0) : Nat → (Option Addr) → Nat → Nat → Int → Int → Int → Int → H → Prop
  | 0 => fun _ _ _ _ _ _ _ _ => False
  | N + 1 => fun x0b x0n x0c x1 x2 x7 x8 h => (0 ≤ x7 ∧ x7 < (x0n : Int)) ∧ (vSome x0b fun a62 => ∃ s63b s63n s63c, cell h ((a62.add (Int.toNat x7 * 6)).add 3) = some (.slice s63b s63n s63c) ∧ (Spl (x8 < (s63n : Int)) (Spl (x1 ≤ x2) ((0 ≤ x7 ∧ x7 < (x0n : Int)) ∧ (vSome x0b fun a64 => ∃ s65b s65n s65c, cell h ((a64.add (Int.toNat x7 * 6)).add 3) = some (.slice s65b s65n s65c) ∧ ((0 ≤ x8 ∧ x8 < (s65n : Int)) ∧ (vSome s65b fun a66 => ∃ s67, cell h ((a66.add (Int.toNat x8 * 2)).add 0) = some (S s67) ∧ ((8 : Int) ≠ 0 ∧ (Rng .i64 (Int.tdiv (s67.length : Int) (8 : Int)) ∧ (Rng .i64 ((1 : Int) + (Int.tdiv (s67.length : Int) (8 : Int))) ∧ ((0 ≤ x7 ∧ x7 < (x0n : Int)) ∧ (vSome x0b fun a68 => ∃ s69b s69n s69c, cell h ((a68.add (Int.toNat x7 * 6)).add 3) = some (.slice s69b s69n s69c) ∧ ((0 ≤ x8 ∧ x8 < (s69n : Int)) ∧ (vSome s69b fun a70 => ∃ s71, cell h ((a70.add (Int.toNat x8 * 2)).add 1) = some (S s71) ∧ ((8 : Int) ≠ 0 ∧ (Rng .i64 (Int.tdiv (s71.length : Int) (8 : Int)) ∧ (Rng .i64 (((1 : Int) + (Int.tdiv (s67.length : Int) (8 : Int))) + (Int.tdiv (s71.length : Int) (8 : Int))) ∧ (Rng .i64 (x1 + (((1 : Int) + (Int.tdiv (s67.length : Int) (8 : Int))) + (Int.tdiv (s71.length : Int) (8 : Int)))) ∧ (Rng .i64 (x8 + (1 : Int)) ∧ (n16_L Kn Ke2 Ke1 Ke0 Kr N x0b x0n x0c (x1 + (((1 : Int) + (Int.tdiv (s67.length : Int) (8 : Int))) + (Int.tdiv (s71.length : Int) (8 : Int)))) x2 x7 (x8 + (1 : Int)) h))))))))))))))))) (Ke2 x0b x0n x0c x1 x2 x7 h)) (Ke2 x0b x0n x0c x1 x2 x7 h)))
abbrev n16 (x0b : Option Addr) (x0n : Nat) (x0c : Nat) (x1 : Int) (x2 : Int) (x7 : Int) (x8 : Int) (Kn : T3) (Ke2 : T3) (Ke1 : T3) (Ke0 : T2) (Kr : T0) (h : H) : Prop := ∃ N, n16_L Kn Ke2 Ke1 Ke0 Kr N x0b x0n x0c x1 x2 x7 x8 h
theorem n16_ok (x0b : Option Addr) (x0n : Nat) (x0c : Nat) (x1 : Int) (x2 : Int) (x7 : Int) (x8 : Int) (Kn : T3) (Ke2 : T3) (Ke1 : T3) (Ke0 : T2) (Kr : T0) (g : Env) (hg : E4 g x0b x0n x0c x1 x2 x7 x8) (h : H) (hS : n16 x0b x0n x0c x1 x2 x7 x8 Kn Ke2 Ke1 Ke0 Kr h) : wpC none Try.prog 88 n15_c1 (Q5 Kn Ke2 Ke1 Ke0 Kr) g h := by
  obtain ⟨N0, hS⟩ := hS
  refine wpC_loop' (x := n16_c1) (by kernel_rfl) (fun k g h => ∃ (x0b : Option Addr) (x0n : Nat) (x0c : Nat) (x1 : Int) (x2 : Int) (x7 : Int) (x8 : Int), E4 g x0b x0n x0c x1 x2 x7 x8 ∧ n16_L Kn Ke2 Ke1 Ke0 Kr k x0b x0n x0c x1 x2 x7 x8 h) (fun g h hr => ?_) (fun N g h hr => ?_) N0 ⟨x0b, x0n, x0c, x1, x2, x7, x8, hg, hS⟩
  · obtain ⟨x0b, x0n, x0c, x1, x2, x7, x8, hg, hS⟩ := hr
    exact hS.elim
  · obtain ⟨x0b, x0n, x0c, x1, x2, x7, x8, hg, hS⟩ := hr
    have hw : wpC none Try.prog 88 n16_c1 (Q6 (fun z0b z0n z0c z1 z2 z7 z8 h => n16_L Kn Ke2 Ke1 Ke0 Kr N z0b z0n z0c z1 z2 z7 z8 h) Ke2 Ke1 Ke0 Kr) g h := by
      obtain ⟨hg0, hg1, hg2, hg7, hg8, hds⟩ := hg
      refine wpC_of_wpx (by kernel_rfl) (by kernel_rfl) (g' := (((((⟨g.v, []⟩ : Env).upd (some 0) (.slice x0b x0n x0c)).upd (some 1) (.int .i64 x1)).upd (some 2) (.int .i64 x2)).upd (some 7) (.int .i64 x7)).upd (some 8) (.int .i64 x8)) (by rw [env_ds hds, upd_self hg0, upd_self hg1, upd_self hg2, upd_self hg7, upd_self hg8]) ?_
      have e : (n16_L Kn Ke2 Ke1 Ke0 Kr (N + 1) x0b x0n x0c x1 x2 x7 x8 h) = wpx none Try.prog 88 n16_c1 (Q6 (fun z0b z0n z0c z1 z2 z7 z8 h => n16_L Kn Ke2 Ke1 Ke0 Kr N z0b z0n z0c z1 z2 z7 z8 h) Ke2 Ke1 Ke0 Kr) ((((((⟨g.v, []⟩ : Env).upd (some 0) (.slice x0b x0n x0c)).upd (some 1) (.int .i64 x1)).upd (some 2) (.int .i64 x2)).upd (some 7) (.int .i64 x7)).upd (some 8) (.int .i64 x8)) h := by kernel_rfl
      exact e ▸ hS
    refine hw.mono ?_
    intro e g' h' hq
    cases e with
    | normal => exact D4_ok (K := (fun z0b z0n z0c z1 z2 z7 z8 h => n16_L Kn Ke2 Ke1 Ke0 Kr N z0b z0n z0c z1 z2 z7 z8 h)) hq
    | _ => exact hq
abbrev n15 (x0b : Option Addr) (x0n : Nat) (x0c : Nat) (x1 : Int) (x2 : Int) (x7 : Int) (x8 : Int) (Kn : T3) (Ke1 : T3) (Ke0 : T2) (Kr : T0) (h : H) : Prop := n16 x0b x0n x0c x1 x2 x7 x8 Kn Kn Ke1 Ke0 Kr h
theorem n15_ok (x0b : Option Addr) (x0n : Nat) (x0c : Nat) (x1 : Int) (x2 : Int) (x7 : Int) (x8 : Int) (Kn : T3) (Ke1 : T3) (Ke0 : T2) (Kr : T0) (g : Env) (hg : E4 g x0b x0n x0c x1 x2 x7 x8) (h : H) (hS : n15 x0b x0n x0c x1 x2 x7 x8 Kn Ke1 Ke0 Kr h) : wpC none Try.prog 88 n14_c2 (Q4 Kn Ke1 Ke0 Kr) g h := by
  refine wpC_block' (id := 2) (x := n15_c1) (by kernel_rfl) (n16_ok x0b x0n x0c x1 x2 x7 x8 Kn Kn Ke1 Ke0 Kr g hg h hS) ?_
  intro e g' h' hq
  cases e <;> exact hq
def Q7 (Kn : T4) (Ke1 : T3) (Ke0 : T2) (Kr : T0) : XPost
  | .normal, g, h => D4 Kn g h
  | .ret, g, h => D0 Kr g h
  | .exit id, g, h => cond (Nat.beq id 1) (D3 Ke1 g h) (cond (Nat.beq id 0) (D2 Ke0 g h) (False))
  | _, _, _ => False
abbrev n14 (x0b : Option Addr) (x0n : Nat) (x0c : Nat) (x1 : Int) (x2 : Int) (x7 : Int) (Kn : T3) (Ke1 : T3) (Ke0 : T2) (Kr : T0) (h : H) : Prop :=
  n15 x0b x0n x0c x1 x2 x7 (0 : Int) Kn Ke1 Ke0 Kr h
theorem n14_ok (x0b : Option Addr) (x0n : Nat) (x0c : Nat) (x1 : Int) (x2 : Int) (x7 : Int) (Kn : T3) (Ke1 : T3) (Ke0 : T2) (Kr : T0) (g : Env) (hg : E3 g x0b x0n x0c x1 x2 x7) (h : H) (hS : n14 x0b x0n x0c x1 x2 x7 Kn Ke1 Ke0 Kr h) : wpC none Try.prog 88 n12_c1 (Q4 Kn Ke1 Ke0 Kr) g h := by
  obtain ⟨hg0, hg1, hg2, hg7, hds⟩ := hg
  refine wpC_seq' (x := n14_c1) (y := n14_c2) (Q' := (Q7 (fun z0b z0n z0c z1 z2 z7 z8 h => n15 z0b z0n z0c z1 z2 z7 z8 Kn Ke1 Ke0 Kr h) Ke1 Ke0 Kr)) (by kernel_rfl) ?_ ?_
  · refine wpC_of_wpx (by kernel_rfl) (by kernel_rfl) (g' := ((((⟨g.v, []⟩ : Env).upd (some 0) (.slice x0b x0n x0c)).upd (some 1) (.int .i64 x1)).upd (some 2) (.int .i64 x2)).upd (some 7) (.int .i64 x7)) (by rw [env_ds hds, upd_self hg0, upd_self hg1, upd_self hg2, upd_self hg7]) ?_
    have e : (n14 x0b x0n x0c x1 x2 x7 Kn Ke1 Ke0 Kr h) = wpx none Try.prog 88 n14_c1 (Q7 (fun z0b z0n z0c z1 z2 z7 z8 h => n15 z0b z0n z0c z1 z2 z7 z8 Kn Ke1 Ke0 Kr h) Ke1 Ke0 Kr) (((((⟨g.v, []⟩ : Env).upd (some 0) (.slice x0b x0n x0c)).upd (some 1) (.int .i64 x1)).upd (some 2) (.int .i64 x2)).upd (some 7) (.int .i64 x7)) h := by kernel_rfl
    exact e ▸ hS
  · intro e g' h' hq
    cases e with
    | normal =>
      have hq : D4 (fun z0b z0n z0c z1 z2 z7 z8 h => n15 z0b z0n z0c z1 z2 z7 z8 Kn Ke1 Ke0 Kr h) g' h' := hq
      obtain ⟨y0b, y0n, y0c, y1, y2, y7, y8, hg', hq⟩ := D4_ok hq
      exact n15_ok y0b y0n y0c y1 y2 y7 y8 Kn Ke1 Ke0 Kr g' hg' h' hq
    | _ => exact hq
abbrev n12 (x0b : Option Addr) (x0n : Nat) (x0c : Nat) (x1 : Int) (x2 : Int) (x7 : Int) (Kn : T3) (Ke1 : T3) (Ke0 : T2) (Kr : T0) (h : H) : Prop := n14 x0b x0n x0c x1 x2 x7 (fun z0b z0n z0c z1 z2 z7 h => n13 z0b z0n z0c z1 z2 z7 Kn Ke1 Ke0 Kr h) Ke1 Ke0 Kr h
theorem n12_ok (x0b : Option Addr) (x0n : Nat) (x0c : Nat) (x1 : Int) (x2 : Int) (x7 : Int) (Kn : T3) (Ke1 : T3) (Ke0 : T2) (Kr : T0) (g : Env) (hg : E3 g x0b x0n x0c x1 x2 x7) (h : H) (hS : n12 x0b x0n x0c x1 x2 x7 Kn Ke1 Ke0 Kr h) : wpC none Try.prog 88 n11_c2 (Q4 Kn Ke1 Ke0 Kr) g h := by
  refine wpC_seq' (x := n12_c1) (y := n12_c2) (by kernel_rfl) (n14_ok x0b x0n x0c x1 x2 x7 (fun z0b z0n z0c z1 z2 z7 h => n13 z0b z0n z0c z1 z2 z7 Kn Ke1 Ke0 Kr h) Ke1 Ke0 Kr g hg h hS) ?_
  intro e g' h' hq
  cases e with
  | normal =>
    have hq : D3 (fun z0b z0n z0c z1 z2 z7 h => n13 z0b z0n z0c z1 z2 z7 Kn Ke1 Ke0 Kr h) g' h' := hq
    obtain ⟨y0b, y0n, y0c, y1, y2, y7, hg', hq⟩ := D3_ok hq
    exact n13_ok y0b y0n y0c y1 y2 y7 Kn Ke1 Ke0 Kr g' hg' h' hq
  | _ => exact hq
abbrev n11 (x0b : Option Addr) (x0n : Nat) (x0c : Nat) (x1 : Int) (x2 : Int) (x7 : Int) (Kn : T3) (Ke1 : T3) (Ke0 : T2) (Kr : T0) (h : H) : Prop :=
  (0 ≤ x7 ∧ x7 < (x0n : Int)) ∧ (vSome x0b fun a72 => ∃ s73, cell h ((a72.add (Int.toNat x7 * 6)).add 4) = some (S s73) ∧ ((8 : Int) ≠ 0 ∧ (Rng .i64 (Int.tdiv (s73.length : Int) (8 : Int)) ∧ (Rng .i64 ((1 : Int) + (Int.tdiv (s73.length : Int) (8 : Int))) ∧ ((0 ≤ x7 ∧ x7 < (x0n : Int)) ∧ (vSome x0b fun a74 => ∃ s75, cell h ((a74.add (Int.toNat x7 * 6)).add 2) = some (S s75) ∧ ((8 : Int) ≠ 0 ∧ (Rng .i64 (Int.tdiv (s75.length : Int) (8 : Int)) ∧ (Rng .i64 (((1 : Int) + (Int.tdiv (s73.length : Int) (8 : Int))) + (Int.tdiv (s75.length : Int) (8 : Int))) ∧ (Rng .i64 (x1 + (((1 : Int) + (Int.tdiv (s73.length : Int) (8 : Int))) + (Int.tdiv (s75.length : Int) (8 : Int)))) ∧ (n12 x0b x0n x0c (x1 + (((1 : Int) + (Int.tdiv (s73.length : Int) (8 : Int))) + (Int.tdiv (s75.length : Int) (8 : Int)))) x2 x7 Kn Ke1 Ke0 Kr h)))))))))))
theorem n11_ok (x0b : Option Addr) (x0n : Nat) (x0c : Nat) (x1 : Int) (x2 : Int) (x7 : Int) (Kn : T3) (Ke1 : T3) (Ke0 : T2) (Kr : T0) (g : Env) (hg : E3 g x0b x0n x0c x1 x2 x7) (h : H) (hS : n11 x0b x0n x0c x1 x2 x7 Kn Ke1 Ke0 Kr h) : wpC none Try.prog 88 n10_c1 (Q4 Kn Ke1 Ke0 Kr) g h := by
  obtain ⟨hg0, hg1, hg2, hg7, hds⟩ := hg
  refine wpC_seq' (x := n11_c1) (y := n11_c2) (Q' := (Q4 (fun z0b z0n z0c z1 z2 z7 h => n12 z0b z0n z0c z1 z2 z7 Kn Ke1 Ke0 Kr h) Ke1 Ke0 Kr)) (by kernel_rfl) ?_ ?_
  · refine wpC_of_wpx (by kernel_rfl) (by kernel_rfl) (g' := ((((⟨g.v, []⟩ : Env).upd (some 0) (.slice x0b x0n x0c)).upd (some 1) (.int .i64 x1)).upd (some 2) (.int .i64 x2)).upd (some 7) (.int .i64 x7)) (by rw [env_ds hds, upd_self hg0, upd_self hg1, upd_self hg2, upd_self hg7]) ?_
    have e : (n11 x0b x0n x0c x1 x2 x7 Kn Ke1 Ke0 Kr h) = wpx none Try.prog 88 n11_c1 (Q4 (fun z0b z0n z0c z1 z2 z7 h => n12 z0b z0n z0c z1 z2 z7 Kn Ke1 Ke0 Kr h) Ke1 Ke0 Kr) (((((⟨g.v, []⟩ : Env).upd (some 0) (.slice x0b x0n x0c)).upd (some 1) (.int .i64 x1)).upd (some 2) (.int .i64 x2)).upd (some 7) (.int .i64 x7)) h := by kernel_rfl
    exact e ▸ hS
  · intro e g' h' hq
    cases e with
    | normal =>
      have hq : D3 (fun z0b z0n z0c z1 z2 z7 h => n12 z0b z0n z0c z1 z2 z7 Kn Ke1 Ke0 Kr h) g' h' := hq
      obtain ⟨y0b, y0n, y0c, y1, y2, y7, hg', hq⟩ := D3_ok hq
      exact n12_ok y0b y0n y0c y1 y2 y7 Kn Ke1 Ke0 Kr g' hg' h' hq
    | _ => exact hq
abbrev n10 (x0b : Option Addr) (x0n : Nat) (x0c : Nat) (x1 : Int) (x2 : Int) (x7 : Int) (Kn : T3) (Ke0 : T2) (Kr : T0) (h : H) : Prop := n11 x0b x0n x0c x1 x2 x7 Kn Kn Ke0 Kr h
theorem n10_ok (x0b : Option Addr) (x0n : Nat) (x0c : Nat) (x1 : Int) (x2 : Int) (x7 : Int) (Kn : T3) (Ke0 : T2) (Kr : T0) (g : Env) (hg : E3 g x0b x0n x0c x1 x2 x7) (h : H) (hS : n10 x0b x0n x0c x1 x2 x7 Kn Ke0 Kr h) : wpC none Try.prog 88 n8_c1 (Q3 Kn Ke0 Kr) g h := by
  refine wpC_block' (id := 1) (x := n10_c1) (by kernel_rfl) (n11_ok x0b x0n x0c x1 x2 x7 Kn Kn Ke0 Kr g hg h hS) ?_
  intro e g' h' hq
  cases e <;> exact hq
abbrev n8 (x0b : Option Addr) (x0n : Nat) (x0c : Nat) (x1 : Int) (x2 : Int) (x7 : Int) (Kn : T3) (Ke0 : T2) (Kr : T0) (h : H) : Prop := n10 x0b x0n x0c x1 x2 x7 (fun z0b z0n z0c z1 z2 z7 h => n9 z0b z0n z0c z1 z2 z7 Kn Ke0 Kr h) Ke0 Kr h
theorem n8_ok (x0b : Option Addr) (x0n : Nat) (x0c : Nat) (x1 : Int) (x2 : Int) (x7 : Int) (Kn : T3) (Ke0 : T2) (Kr : T0) (g : Env) (hg : E3 g x0b x0n x0c x1 x2 x7) (h : H) (hS : n8 x0b x0n x0c x1 x2 x7 Kn Ke0 Kr h) : wpC none Try.prog 88 n7_c2 (Q3 Kn Ke0 Kr) g h := by
  refine wpC_seq' (x := n8_c1) (y := n8_c2) (by kernel_rfl) (n10_ok x0b x0n x0c x1 x2 x7 (fun z0b z0n z0c z1 z2 z7 h => n9 z0b z0n z0c z1 z2 z7 Kn Ke0 Kr h) Ke0 Kr g hg h hS) ?_
  intro e g' h' hq
  cases e with
  | normal =>
    have hq : D3 (fun z0b z0n z0c z1 z2 z7 h => n9 z0b z0n z0c z1 z2 z7 Kn Ke0 Kr h) g' h' := hq
    obtain ⟨y0b, y0n, y0c, y1, y2, y7, hg', hq⟩ := D3_ok hq
    exact n9_ok y0b y0n y0c y1 y2 y7 Kn Ke0 Kr g' hg' h' hq
  | _ => exact hq
abbrev n7 (x0b : Option Addr) (x0n : Nat) (x0c : Nat) (x1 : Int) (x2 : Int) (x7 : Int) (Kn : T3) (Ke0 : T2) (Kr : T0) (h : H) : Prop :=
  Spl (x7 < (x0n : Int)) (Spl (x1 ≤ x2) (n8 x0b x0n x0c x1 x2 x7 Kn Ke0 Kr h) (Ke0 x1 h)) (Ke0 x1 h)
theorem n7_ok (x0b : Option Addr) (x0n : Nat) (x0c : Nat) (x1 : Int) (x2 : Int) (x7 : Int) (Kn : T3) (Ke0 : T2) (Kr : T0) (g : Env) (hg : E3 g x0b x0n x0c x1 x2 x7) (h : H) (hS : n7 x0b x0n x0c x1 x2 x7 Kn Ke0 Kr h) : wpC none Try.prog 88 n6_c1 (Q3 Kn Ke0 Kr) g h := by
  obtain ⟨hg0, hg1, hg2, hg7, hds⟩ := hg
  refine wpC_seq' (x := n7_c1) (y := n7_c2) (Q' := (Q3 (fun z0b z0n z0c z1 z2 z7 h => n8 z0b z0n z0c z1 z2 z7 Kn Ke0 Kr h) Ke0 Kr)) (by kernel_rfl) ?_ ?_
  · refine wpC_of_wpx (by kernel_rfl) (by kernel_rfl) (g' := ((((⟨g.v, []⟩ : Env).upd (some 0) (.slice x0b x0n x0c)).upd (some 1) (.int .i64 x1)).upd (some 2) (.int .i64 x2)).upd (some 7) (.int .i64 x7)) (by rw [env_ds hds, upd_self hg0, upd_self hg1, upd_self hg2, upd_self hg7]) ?_
    have e : (n7 x0b x0n x0c x1 x2 x7 Kn Ke0 Kr h) = wpx none Try.prog 88 n7_c1 (Q3 (fun z0b z0n z0c z1 z2 z7 h => n8 z0b z0n z0c z1 z2 z7 Kn Ke0 Kr h) Ke0 Kr) (((((⟨g.v, []⟩ : Env).upd (some 0) (.slice x0b x0n x0c)).upd (some 1) (.int .i64 x1)).upd (some 2) (.int .i64 x2)).upd (some 7) (.int .i64 x7)) h := by kernel_rfl
    exact e ▸ hS
  · intro e g' h' hq
    cases e with
    | normal =>
      have hq : D3 (fun z0b z0n z0c z1 z2 z7 h => n8 z0b z0n z0c z1 z2 z7 Kn Ke0 Kr h) g' h' := hq
      obtain ⟨y0b, y0n, y0c, y1, y2, y7, hg', hq⟩ := D3_ok hq
      exact n8_ok y0b y0n y0c y1 y2 y7 Kn Ke0 Kr g' hg' h' hq
    | _ => exact hq
def n6_L (Kn : T2) (Ke0 : T2) (Kr : T0) : Nat → (Option Addr) → Nat → Nat → Int → Int → Int → H → Prop
  | 0 => fun _ _ _ _ _ _ _ => False
  | N + 1 => fun x0b x0n x0c x1 x2 x7 h => n7 x0b x0n x0c x1 x2 x7 (fun z0b z0n z0c z1 z2 z7 h => n6_L Kn Ke0 Kr N z0b z0n z0c z1 z2 z7 h) Ke0 Kr h
abbrev n6 (x0b : Option Addr) (x0n : Nat) (x0c : Nat) (x1 : Int) (x2 : Int) (x7 : Int) (Kn : T2) (Ke0 : T2) (Kr : T0) (h : H) : Prop := ∃ N, n6_L Kn Ke0 Kr N x0b x0n x0c x1 x2 x7 h
theorem n6_ok (x0b : Option Addr) (x0n : Nat) (x0c : Nat) (x1 : Int) (x2 : Int) (x7 : Int) (Kn : T2) (Ke0 : T2) (Kr : T0) (g : Env) (hg : E3 g x0b x0n x0c x1 x2 x7) (h : H) (hS : n6 x0b x0n x0c x1 x2 x7 Kn Ke0 Kr h) : wpC none Try.prog 88 n5_c1 (Q2 Kn Ke0 Kr) g h := by
  obtain ⟨N0, hS⟩ := hS
  refine wpC_loop' (x := n6_c1) (by kernel_rfl) (fun k g h => ∃ (x0b : Option Addr) (x0n : Nat) (x0c : Nat) (x1 : Int) (x2 : Int) (x7 : Int), E3 g x0b x0n x0c x1 x2 x7 ∧ n6_L Kn Ke0 Kr k x0b x0n x0c x1 x2 x7 h) (fun g h hr => ?_) (fun N g h hr => ?_) N0 ⟨x0b, x0n, x0c, x1, x2, x7, hg, hS⟩
  · obtain ⟨x0b, x0n, x0c, x1, x2, x7, hg, hS⟩ := hr
    exact hS.elim
  · obtain ⟨x0b, x0n, x0c, x1, x2, x7, hg, hS⟩ := hr
    refine (n7_ok x0b x0n x0c x1 x2 x7 (fun z0b z0n z0c z1 z2 z7 h => n6_L Kn Ke0 Kr N z0b z0n z0c z1 z2 z7 h) Ke0 Kr g hg h hS).mono ?_
    intro e g' h' hq
    cases e with
    | normal => exact D3_ok (K := (fun z0b z0n z0c z1 z2 z7 h => n6_L Kn Ke0 Kr N z0b z0n z0c z1 z2 z7 h)) hq
    | _ => exact hq
abbrev n5 (x0b : Option Addr) (x0n : Nat) (x0c : Nat) (x1 : Int) (x2 : Int) (x7 : Int) (Kn : T2) (Kr : T0) (h : H) : Prop := n6 x0b x0n x0c x1 x2 x7 Kn Kn Kr h
theorem n5_ok (x0b : Option Addr) (x0n : Nat) (x0c : Nat) (x1 : Int) (x2 : Int) (x7 : Int) (Kn : T2) (Kr : T0) (g : Env) (hg : E3 g x0b x0n x0c x1 x2 x7) (h : H) (hS : n5 x0b x0n x0c x1 x2 x7 Kn Kr h) : wpC none Try.prog 88 n4_c2 (Q1 Kn Kr) g h := by
  refine wpC_block' (id := 0) (x := n5_c1) (by kernel_rfl) (n6_ok x0b x0n x0c x1 x2 x7 Kn Kn Kr g hg h hS) ?_
  intro e g' h' hq
  cases e <;> exact hq
def Q8 (Kn : T3) (Kr : T0) : XPost
  | .normal, g, h => D3 Kn g h
  | .ret, g, h => D0 Kr g h
  | _, _, _ => False
abbrev n4 (x0b : Option Addr) (x0n : Nat) (x0c : Nat) (x1 : Int) (x2 : Int) (Kn : T2) (Kr : T0) (h : H) : Prop :=
  n5 x0b x0n x0c x1 x2 (0 : Int) Kn Kr h
theorem n4_ok (x0b : Option Addr) (x0n : Nat) (x0c : Nat) (x1 : Int) (x2 : Int) (Kn : T2) (Kr : T0) (g : Env) (hg : E1 g x0b x0n x0c x1 x2) (h : H) (hS : n4 x0b x0n x0c x1 x2 Kn Kr h) : wpC none Try.prog 88 n2_c1 (Q1 Kn Kr) g h := by
  obtain ⟨hg0, hg1, hg2, hds⟩ := hg
  refine wpC_seq' (x := n4_c1) (y := n4_c2) (Q' := (Q8 (fun z0b z0n z0c z1 z2 z7 h => n5 z0b z0n z0c z1 z2 z7 Kn Kr h) Kr)) (by kernel_rfl) ?_ ?_
  · refine wpC_of_wpx (by kernel_rfl) (by kernel_rfl) (g' := (((⟨g.v, []⟩ : Env).upd (some 0) (.slice x0b x0n x0c)).upd (some 1) (.int .i64 x1)).upd (some 2) (.int .i64 x2)) (by rw [env_ds hds, upd_self hg0, upd_self hg1, upd_self hg2]) ?_
    have e : (n4 x0b x0n x0c x1 x2 Kn Kr h) = wpx none Try.prog 88 n4_c1 (Q8 (fun z0b z0n z0c z1 z2 z7 h => n5 z0b z0n z0c z1 z2 z7 Kn Kr h) Kr) ((((⟨g.v, []⟩ : Env).upd (some 0) (.slice x0b x0n x0c)).upd (some 1) (.int .i64 x1)).upd (some 2) (.int .i64 x2)) h := by kernel_rfl
    exact e ▸ hS
  · intro e g' h' hq
    cases e with
    | normal =>
      have hq : D3 (fun z0b z0n z0c z1 z2 z7 h => n5 z0b z0n z0c z1 z2 z7 Kn Kr h) g' h' := hq
      obtain ⟨y0b, y0n, y0c, y1, y2, y7, hg', hq⟩ := D3_ok hq
      exact n5_ok y0b y0n y0c y1 y2 y7 Kn Kr g' hg' h' hq
    | _ => exact hq
abbrev n2 (x0b : Option Addr) (x0n : Nat) (x0c : Nat) (x1 : Int) (x2 : Int) (Kn : T0) (Kr : T0) (h : H) : Prop := n4 x0b x0n x0c x1 x2 (fun z1 h => n3 z1 Kn Kr h) Kr h
theorem n2_ok (x0b : Option Addr) (x0n : Nat) (x0c : Nat) (x1 : Int) (x2 : Int) (Kn : T0) (Kr : T0) (g : Env) (hg : E1 g x0b x0n x0c x1 x2) (h : H) (hS : n2 x0b x0n x0c x1 x2 Kn Kr h) : wpC none Try.prog 88 n1_c2 (Q0 Kn Kr) g h := by
  refine wpC_seq' (x := n2_c1) (y := n2_c2) (by kernel_rfl) (n4_ok x0b x0n x0c x1 x2 (fun z1 h => n3 z1 Kn Kr h) Kr g hg h hS) ?_
  intro e g' h' hq
  cases e with
  | normal =>
    have hq : D2 (fun z1 h => n3 z1 Kn Kr h) g' h' := hq
    obtain ⟨y1, hg', hq⟩ := D2_ok hq
    exact n3_ok y1 Kn Kr g' hg' h' hq
  | _ => exact hq
def Q9 (Kn : T1) (Kr : T0) : XPost
  | .normal, g, h => D1 Kn g h
  | .ret, g, h => D0 Kr g h
  | _, _, _ => False
abbrev n1 (x0b : Option Addr) (x0n : Nat) (x0c : Nat) (x1 : Int) (x2 : Int) (Kn : T0) (Kr : T0) (h : H) : Prop :=
  n2 x0b x0n x0c x1 x2 Kn Kr h
theorem n1_ok (x0b : Option Addr) (x0n : Nat) (x0c : Nat) (x1 : Int) (x2 : Int) (Kn : T0) (Kr : T0) (g : Env) (hg : E1 g x0b x0n x0c x1 x2) (h : H) (hS : n1 x0b x0n x0c x1 x2 Kn Kr h) : wpC none Try.prog 88 code (Q0 Kn Kr) g h := by
  obtain ⟨hg0, hg1, hg2, hds⟩ := hg
  refine wpC_seq' (x := n1_c1) (y := n1_c2) (Q' := (Q9 (fun z0b z0n z0c z1 z2 h => n2 z0b z0n z0c z1 z2 Kn Kr h) Kr)) (by kernel_rfl) ?_ ?_
  · refine wpC_of_wpx (by kernel_rfl) (by kernel_rfl) (g' := (((⟨g.v, []⟩ : Env).upd (some 0) (.slice x0b x0n x0c)).upd (some 1) (.int .i64 x1)).upd (some 2) (.int .i64 x2)) (by rw [env_ds hds, upd_self hg0, upd_self hg1, upd_self hg2]) ?_
    have e : (n1 x0b x0n x0c x1 x2 Kn Kr h) = wpx none Try.prog 88 n1_c1 (Q9 (fun z0b z0n z0c z1 z2 h => n2 z0b z0n z0c z1 z2 Kn Kr h) Kr) ((((⟨g.v, []⟩ : Env).upd (some 0) (.slice x0b x0n x0c)).upd (some 1) (.int .i64 x1)).upd (some 2) (.int .i64 x2)) h := by kernel_rfl
    exact e ▸ hS
  · intro e g' h' hq
    cases e with
    | normal =>
      have hq : D1 (fun z0b z0n z0c z1 z2 h => n2 z0b z0n z0c z1 z2 Kn Kr h) g' h' := hq
      obtain ⟨y0b, y0n, y0c, y1, y2, hg', hq⟩ := D1_ok hq
      exact n2_ok y0b y0n y0c y1 y2 Kn Kr g' hg' h' hq
    | _ => exact hq
/-- WHAT tympan/tympanref00.Nodes ASKS -/
abbrev asks (x0b : Option Addr) (x0n : Nat) (x0c : Nat) (x1 : Int) (x2 : Int) (K : Value → H → Prop) (h : H) : Prop := n1 x0b x0n x0c x1 x2 (fun y6 h => K (.int .i64 y6) h) (fun y6 h => K (.int .i64 y6) h) h
theorem ok (x0b : Option Addr) (x0n : Nat) (x0c : Nat) (x1 : Int) (x2 : Int) (K : Value → H → Prop) (h : H) (hS : asks x0b x0n x0c x1 x2 K h) : HCalls Try.prog 29 ⟨[(.slice x0b x0n x0c), (.int .i64 x1), (.int .i64 x2)]⟩ h K := by
  refine calls_of_wpC (c := code) Try.func29 (by kernel_rfl) (Nat.le_of_ble_eq_true (by kernel_rfl)) ?_
  refine (n1_ok x0b x0n x0c x1 x2 (fun y6 h => K (.int .i64 y6) h) (fun y6 h => K (.int .i64 y6) h) (env0 [(.slice x0b x0n x0c), (.int .i64 x1), (.int .i64 x2)]) ⟨rfl, rfl, rfl, rfl⟩ h hS).mono ?_
  intro e g' h' hq
  cases e with
  | normal =>
    have hq : D0 (fun y6 h => K (.int .i64 y6) h) g' h' := hq
    obtain ⟨y6, ⟨hg6, hd⟩, hq⟩ := D0_ok hq
    show leaveX g'.ds h' _
    rw [hd]
    show K (g'.v 6) h'
    rw [hg6]
    exact hq
  | ret =>
    have hq : D0 (fun y6 h => K (.int .i64 y6) h) g' h' := hq
    obtain ⟨y6, ⟨hg6, hd⟩, hq⟩ := D0_ok hq
    show leaveX g'.ds h' _
    rw [hd]
    show K (g'.v 6) h'
    rw [hg6]
    exact hq
  | _ => exact hq
end Sx.r00_Nodes

/-! ### tympan/tympanref00.LentAttrs -/
namespace Sx.r00_LentAttrs
noncomputable def code : Code := bodyOf Try.f40
abbrev T0 := (Option Addr) → Nat → Nat → H → Prop
def E0 (g : Env) (x2b : Option Addr) (x2n : Nat) (x2c : Nat) : Prop := g.v 2 = (.slice x2b x2n x2c) ∧ g.ds = []
def D0 (K : T0) (g : Env) (h : H) : Prop := nilDs g.ds (vSlice (g.v 2) fun s1b s1n s1c => K s1b s1n s1c h)
theorem D0_ok {K : T0} {g : Env} {h : H} (hq : D0 K g h) : ∃ (x2b : Option Addr) (x2n : Nat) (x2c : Nat), E0 g x2b x2n x2c ∧ K x2b x2n x2c h := by
  obtain ⟨hd, hq⟩ := nilDs_ok hq
  obtain ⟨y3b, y3n, y3c, e2, q4⟩ := vSlice_ok hq
  exact ⟨y3b, y3n, y3c, ⟨e2, hd⟩, q4⟩
def Q0 (Kn : T0) (Kr : T0) : XPost
  | .normal, g, h => D0 Kn g h
  | .ret, g, h => D0 Kr g h
  | _, _, _ => False
abbrev T1 := (Option Addr) → Nat → Nat → H → Prop
def E1 (g : Env) (x0b : Option Addr) (x0n : Nat) (x0c : Nat) : Prop := g.v 0 = (.slice x0b x0n x0c) ∧ g.ds = []
def D1 (K : T1) (g : Env) (h : H) : Prop := nilDs g.ds (vSlice (g.v 0) fun s5b s5n s5c => K s5b s5n s5c h)
theorem D1_ok {K : T1} {g : Env} {h : H} (hq : D1 K g h) : ∃ (x0b : Option Addr) (x0n : Nat) (x0c : Nat), E1 g x0b x0n x0c ∧ K x0b x0n x0c h := by
  obtain ⟨hd, hq⟩ := nilDs_ok hq
  obtain ⟨y7b, y7n, y7c, e6, q8⟩ := vSlice_ok hq
  exact ⟨y7b, y7n, y7c, ⟨e6, hd⟩, q8⟩
abbrev n1 (x0b : Option Addr) (x0n : Nat) (x0c : Nat) (Kn : T0) (Kr : T0) (h : H) : Prop :=
  SemH Try.prog (Builtin.append_ #[28, 28] 28 ⟨[(.slice none 0 0), (.slice x0b x0n x0c)]⟩) h fun v9 h10 => vSlice v9 fun s11b s11n s11c => Kr s11b s11n s11c h10
theorem n1_ok (x0b : Option Addr) (x0n : Nat) (x0c : Nat) (Kn : T0) (Kr : T0) (g : Env) (hg : E1 g x0b x0n x0c) (h : H) (hS : n1 x0b x0n x0c Kn Kr h) : wpC none Try.prog 7 code (Q0 Kn Kr) g h := by
  obtain ⟨hg0, hds⟩ := hg
  refine wpC_of_wpx (by kernel_rfl) (by kernel_rfl) (g' := (⟨g.v, []⟩ : Env).upd (some 0) (.slice x0b x0n x0c)) (by rw [env_ds hds, upd_self hg0]) ?_
  have e : (n1 x0b x0n x0c Kn Kr h) = wpx none Try.prog 7 code (Q0 Kn Kr) ((⟨g.v, []⟩ : Env).upd (some 0) (.slice x0b x0n x0c)) h := by kernel_rfl
  exact e ▸ hS
/-- WHAT tympan/tympanref00.LentAttrs ASKS -/
abbrev asks (x0b : Option Addr) (x0n : Nat) (x0c : Nat) (K : Value → H → Prop) (h : H) : Prop := n1 x0b x0n x0c (fun y2b y2n y2c h => K (.slice y2b y2n y2c) h) (fun y2b y2n y2c h => K (.slice y2b y2n y2c) h) h
theorem ok (x0b : Option Addr) (x0n : Nat) (x0c : Nat) (K : Value → H → Prop) (h : H) (hS : asks x0b x0n x0c K h) : HCalls Try.prog 40 ⟨[(.slice x0b x0n x0c)]⟩ h K := by
  refine calls_of_wpC (c := code) Try.func40 (by kernel_rfl) (Nat.le_of_ble_eq_true (by kernel_rfl)) ?_
  refine (n1_ok x0b x0n x0c (fun y2b y2n y2c h => K (.slice y2b y2n y2c) h) (fun y2b y2n y2c h => K (.slice y2b y2n y2c) h) (env0 [(.slice x0b x0n x0c)]) ⟨rfl, rfl⟩ h hS).mono ?_
  intro e g' h' hq
  cases e with
  | normal =>
    have hq : D0 (fun y2b y2n y2c h => K (.slice y2b y2n y2c) h) g' h' := hq
    obtain ⟨y2b, y2n, y2c, ⟨hg2, hd⟩, hq⟩ := D0_ok hq
    show leaveX g'.ds h' _
    rw [hd]
    show K (g'.v 2) h'
    rw [hg2]
    exact hq
  | ret =>
    have hq : D0 (fun y2b y2n y2c h => K (.slice y2b y2n y2c) h) g' h' := hq
    obtain ⟨y2b, y2n, y2c, ⟨hg2, hd⟩, hq⟩ := D0_ok hq
    show leaveX g'.ds h' _
    rw [hd]
    show K (g'.v 2) h'
    rw [hg2]
    exact hq
  | _ => exact hq
end Sx.r00_LentAttrs

/-! ### tympan/tympanref00.SameAttrs -/
namespace Sx.r00_SameAttrs
noncomputable def code : Code := bodyOf Try.f42
abbrev T0 := Bool → H → Prop
def E0 (g : Env) (x4 : Bool) : Prop := g.v 4 = (.bool x4) ∧ g.ds = []
def D0 (K : T0) (g : Env) (h : H) : Prop := nilDs g.ds (vBool (g.v 4) fun b1 => K b1 h)
theorem D0_ok {K : T0} {g : Env} {h : H} (hq : D0 K g h) : ∃ (x4 : Bool), E0 g x4 ∧ K x4 h := by
  obtain ⟨hd, hq⟩ := nilDs_ok hq
  obtain ⟨y3, e2, q4⟩ := vBool_ok hq
  exact ⟨y3, ⟨e2, hd⟩, q4⟩
def Q0 (Kn : T0) (Kr : T0) : XPost
  | .normal, g, h => D0 Kn g h
  | .ret, g, h => D0 Kr g h
  | _, _, _ => False
abbrev T1 := (Option Addr) → Nat → Nat → (Option Addr) → Nat → Nat → H → Prop
def E1 (g : Env) (x0b : Option Addr) (x0n : Nat) (x0c : Nat) (x1b : Option Addr) (x1n : Nat) (x1c : Nat) : Prop := g.v 0 = (.slice x0b x0n x0c) ∧ g.v 1 = (.slice x1b x1n x1c) ∧ g.ds = []
def D1 (K : T1) (g : Env) (h : H) : Prop := nilDs g.ds (vSlice (g.v 0) fun s5b s5n s5c => vSlice (g.v 1) fun s6b s6n s6c => K s5b s5n s5c s6b s6n s6c h)
theorem D1_ok {K : T1} {g : Env} {h : H} (hq : D1 K g h) : ∃ (x0b : Option Addr) (x0n : Nat) (x0c : Nat) (x1b : Option Addr) (x1n : Nat) (x1c : Nat), E1 g x0b x0n x0c x1b x1n x1c ∧ K x0b x0n x0c x1b x1n x1c h := by
  obtain ⟨hd, hq⟩ := nilDs_ok hq
  obtain ⟨y8b, y8n, y8c, e7, q9⟩ := vSlice_ok hq
  obtain ⟨y11b, y11n, y11c, e10, q12⟩ := vSlice_ok q9
  exact ⟨y8b, y8n, y8c, y11b, y11n, y11c, ⟨e7, e10, hd⟩, q12⟩
noncomputable def n1_c1 : Code := cFst code
noncomputable def n1_c2 : Code := cSnd code
noncomputable def n2_c1 : Code := cFst n1_c2
noncomputable def n2_c2 : Code := cSnd n1_c2
noncomputable def n3_c1 : Code := cFst n2_c2
noncomputable def n3_c2 : Code := cSnd n2_c2
abbrev T2 := H → Prop
def E2 (g : Env)  : Prop := g.ds = []
def D2 (K : T2) (g : Env) (h : H) : Prop := nilDs g.ds (K h)
theorem D2_ok {K : T2} {g : Env} {h : H} (hq : D2 K g h) : E2 g  ∧ K  h := by
  obtain ⟨hd, hq⟩ := nilDs_ok hq
  skip
  exact ⟨hd, hq⟩
abbrev n4  (Kn : T0) (Kr : T0) (h : H) : Prop :=
  Kr true h
theorem n4_ok  (Kn : T0) (Kr : T0) (g : Env) (hg : E2 g ) (h : H) (hS : n4  Kn Kr h) : wpC none Try.prog 26 n3_c2 (Q0 Kn Kr) g h := by
  have hds : g.ds = [] := hg
  refine wpC_of_wpx (by kernel_rfl) (by kernel_rfl) (g' := ⟨g.v, []⟩) (by rw [env_ds hds]) ?_
  have e : (n4  Kn Kr h) = wpx none Try.prog 26 n3_c2 (Q0 Kn Kr) (⟨g.v, []⟩) h := by kernel_rfl
  exact e ▸ hS
def Q1 (Kn : T2) (Kr : T0) : XPost
  | .normal, g, h => D2 Kn g h
  | .ret, g, h => D0 Kr g h
  | _, _, _ => False
noncomputable def n5_c1 : Code := cFst n3_c1
noncomputable def n5_c2 : Code := cSnd n3_c1
abbrev T3 := (Option Addr) → Nat → Nat → (Option Addr) → Nat → Nat → Int → H → Prop
def E3 (g : Env) (x0b : Option Addr) (x0n : Nat) (x0c : Nat) (x1b : Option Addr) (x1n : Nat) (x1c : Nat) (x5 : Int) : Prop := g.v 0 = (.slice x0b x0n x0c) ∧ g.v 1 = (.slice x1b x1n x1c) ∧ g.v 5 = (.int .i64 x5) ∧ g.ds = []
def D3 (K : T3) (g : Env) (h : H) : Prop := nilDs g.ds (vSlice (g.v 0) fun s13b s13n s13c => vSlice (g.v 1) fun s14b s14n s14c => vInt .i64 (g.v 5) fun i15 => K s13b s13n s13c s14b s14n s14c i15 h)
theorem D3_ok {K : T3} {g : Env} {h : H} (hq : D3 K g h) : ∃ (x0b : Option Addr) (x0n : Nat) (x0c : Nat) (x1b : Option Addr) (x1n : Nat) (x1c : Nat) (x5 : Int), E3 g x0b x0n x0c x1b x1n x1c x5 ∧ K x0b x0n x0c x1b x1n x1c x5 h := by
  obtain ⟨hd, hq⟩ := nilDs_ok hq
  obtain ⟨y17b, y17n, y17c, e16, q18⟩ := vSlice_ok hq
  obtain ⟨y20b, y20n, y20c, e19, q21⟩ := vSlice_ok q18
  obtain ⟨y23, e22, q24⟩ := vInt_ok q21
  exact ⟨y17b, y17n, y17c, y20b, y20n, y20c, y23, ⟨e16, e19, e22, hd⟩, q24⟩
noncomputable def n6_c1 : Code := cFst n5_c2
def Q2 (Kn : T2) (Ke0 : T2) (Kr : T0) : XPost
  | .normal, g, h => D2 Kn g h
  | .ret, g, h => D0 Kr g h
  | .exit id, g, h => cond (Nat.beq id 0) (D2 Ke0 g h) (False)
  | _, _, _ => False
noncomputable def n7_c1 : Code := cFst n6_c1
def Q3 (Kn : T3) (Ke0 : T2) (Kr : T0) : XPost
  | .normal, g, h => D3 Kn g h
  | .ret, g, h => D0 Kr g h
  | .exit id, g, h => cond (Nat.beq id 0) (D2 Ke0 g h) (False)
  | _, _, _ => False
def n7_L (Kn : T2) (Ke0 : T2) (Kr : T0) : Nat → (Option Addr) → Nat → Nat → (Option Addr) → Nat → Nat → Int → H → Prop
  | 0 => fun _ _ _ _ _ _ _ _ => False
  | N + 1 => fun x0b x0n x0c x1b x1n x1c x5 h => Spl (x5 < (x0n : Int)) ((0 ≤ x5 ∧ x5 < (x0n : Int)) ∧ (vSome x0b fun a25 => ∃ s26, cell h (((a25.add (Int.toNat x5 * 2))).add 0) = some (S s26) ∧ (∃ s27, cell h (((a25.add (Int.toNat x5 * 2))).add 1) = some (S s27) ∧ ((0 ≤ x5 ∧ x5 < (x1n : Int)) ∧ (vSome x1b fun a28 => ∃ s29, cell h (((a28.add (Int.toNat x5 * 2))).add 0) = some (S s29) ∧ (∃ s30, cell h (((a28.add (Int.toNat x5 * 2))).add 1) = some (S s30) ∧ (SemR Try.prog (binS .neq 59 (.tmp 20) (.tmp 24) (.agg ⟨[(S s26), (S s27)]⟩) (.agg ⟨[(S s29), (S s30)]⟩)) h fun v31 => vBool v31 fun b32 => cond b32 (Kr false h) (Rng .i64 (x5 + (1 : Int)) ∧ (n7_L Kn Ke0 Kr N x0b x0n x0c x1b x1n x1c (x5 + (1 : Int)) h))))))))) (Ke0 h)
abbrev n7 (x0b : Option Addr) (x0n : Nat) (x0c : Nat) (x1b : Option Addr) (x1n : Nat) (x1c : Nat) (x5 : Int) (Kn : T2) (Ke0 : T2) (Kr : T0) (h : H) : Prop := ∃ N, n7_L Kn Ke0 Kr N x0b x0n x0c x1b x1n x1c x5 h
theorem n7_ok (x0b : Option Addr) (x0n : Nat) (x0c : Nat) (x1b : Option Addr) (x1n : Nat) (x1c : Nat) (x5 : Int) (Kn : T2) (Ke0 : T2) (Kr : T0) (g : Env) (hg : E3 g x0b x0n x0c x1b x1n x1c x5) (h : H) (hS : n7 x0b x0n x0c x1b x1n x1c x5 Kn Ke0 Kr h) : wpC none Try.prog 26 n6_c1 (Q2 Kn Ke0 Kr) g h := by
  obtain ⟨N0, hS⟩ := hS
  refine wpC_loop' (x := n7_c1) (by kernel_rfl) (fun k g h => ∃ (x0b : Option Addr) (x0n : Nat) (x0c : Nat) (x1b : Option Addr) (x1n : Nat) (x1c : Nat) (x5 : Int), E3 g x0b x0n x0c x1b x1n x1c x5 ∧ n7_L Kn Ke0 Kr k x0b x0n x0c x1b x1n x1c x5 h) (fun g h hr => ?_) (fun N g h hr => ?_) N0 ⟨x0b, x0n, x0c, x1b, x1n, x1c, x5, hg, hS⟩
  · obtain ⟨x0b, x0n, x0c, x1b, x1n, x1c, x5, hg, hS⟩ := hr
    exact hS.elim
  · obtain ⟨x0b, x0n, x0c, x1b, x1n, x1c, x5, hg, hS⟩ := hr
    have hw : wpC none Try.prog 26 n7_c1 (Q3 (fun z0b z0n z0c z1b z1n z1c z5 h => n7_L Kn Ke0 Kr N z0b z0n z0c z1b z1n z1c z5 h) Ke0 Kr) g h := by
      obtain ⟨hg0, hg1, hg5, hds⟩ := hg
      refine wpC_of_wpx (by kernel_rfl) (by kernel_rfl) (g' := (((⟨g.v, []⟩ : Env).upd (some 0) (.slice x0b x0n x0c)).upd (some 1) (.slice x1b x1n x1c)).upd (some 5) (.int .i64 x5)) (by rw [env_ds hds, upd_self hg0, upd_self hg1, upd_self hg5]) ?_
      have e : (n7_L Kn Ke0 Kr (N + 1) x0b x0n x0c x1b x1n x1c x5 h) = wpx none Try.prog 26 n7_c1 (Q3 (fun z0b z0n z0c z1b z1n z1c z5 h => n7_L Kn Ke0 Kr N z0b z0n z0c z1b z1n z1c z5 h) Ke0 Kr) ((((⟨g.v, []⟩ : Env).upd (some 0) (.slice x0b x0n x0c)).upd (some 1) (.slice x1b x1n x1c)).upd (some 5) (.int .i64 x5)) h := by kernel_rfl
      exact e ▸ hS
    refine hw.mono ?_
    intro e g' h' hq
    cases e with
    | normal => exact D3_ok (K := (fun z0b z0n z0c z1b z1n z1c z5 h => n7_L Kn Ke0 Kr N z0b z0n z0c z1b z1n z1c z5 h)) hq
    | _ => exact hq
abbrev n6 (x0b : Option Addr) (x0n : Nat) (x0c : Nat) (x1b : Option Addr) (x1n : Nat) (x1c : Nat) (x5 : Int) (Kn : T2) (Kr : T0) (h : H) : Prop := n7 x0b x0n x0c x1b x1n x1c x5 Kn Kn Kr h
theorem n6_ok (x0b : Option Addr) (x0n : Nat) (x0c : Nat) (x1b : Option Addr) (x1n : Nat) (x1c : Nat) (x5 : Int) (Kn : T2) (Kr : T0) (g : Env) (hg : E3 g x0b x0n x0c x1b x1n x1c x5) (h : H) (hS : n6 x0b x0n x0c x1b x1n x1c x5 Kn Kr h) : wpC none Try.prog 26 n5_c2 (Q1 Kn Kr) g h := by
  refine wpC_block' (id := 0) (x := n6_c1) (by kernel_rfl) (n7_ok x0b x0n x0c x1b x1n x1c x5 Kn Kn Kr g hg h hS) ?_
  intro e g' h' hq
  cases e <;> exact hq
def Q4 (Kn : T3) (Kr : T0) : XPost
  | .normal, g, h => D3 Kn g h
  | .ret, g, h => D0 Kr g h
  | _, _, _ => False
abbrev n5 (x0b : Option Addr) (x0n : Nat) (x0c : Nat) (x1b : Option Addr) (x1n : Nat) (x1c : Nat) (Kn : T2) (Kr : T0) (h : H) : Prop :=
  n6 x0b x0n x0c x1b x1n x1c (0 : Int) Kn Kr h
theorem n5_ok (x0b : Option Addr) (x0n : Nat) (x0c : Nat) (x1b : Option Addr) (x1n : Nat) (x1c : Nat) (Kn : T2) (Kr : T0) (g : Env) (hg : E1 g x0b x0n x0c x1b x1n x1c) (h : H) (hS : n5 x0b x0n x0c x1b x1n x1c Kn Kr h) : wpC none Try.prog 26 n3_c1 (Q1 Kn Kr) g h := by
  obtain ⟨hg0, hg1, hds⟩ := hg
  refine wpC_seq' (x := n5_c1) (y := n5_c2) (Q' := (Q4 (fun z0b z0n z0c z1b z1n z1c z5 h => n6 z0b z0n z0c z1b z1n z1c z5 Kn Kr h) Kr)) (by kernel_rfl) ?_ ?_
  · refine wpC_of_wpx (by kernel_rfl) (by kernel_rfl) (g' := ((⟨g.v, []⟩ : Env).upd (some 0) (.slice x0b x0n x0c)).upd (some 1) (.slice x1b x1n x1c)) (by rw [env_ds hds, upd_self hg0, upd_self hg1]) ?_
    have e : (n5 x0b x0n x0c x1b x1n x1c Kn Kr h) = wpx none Try.prog 26 n5_c1 (Q4 (fun z0b z0n z0c z1b z1n z1c z5 h => n6 z0b z0n z0c z1b z1n z1c z5 Kn Kr h) Kr) (((⟨g.v, []⟩ : Env).upd (some 0) (.slice x0b x0n x0c)).upd (some 1) (.slice x1b x1n x1c)) h := by kernel_rfl
    exact e ▸ hS
  · intro e g' h' hq
    cases e with
    | normal =>
      have hq : D3 (fun z0b z0n z0c z1b z1n z1c z5 h => n6 z0b z0n z0c z1b z1n z1c z5 Kn Kr h) g' h' := hq
      obtain ⟨y0b, y0n, y0c, y1b, y1n, y1c, y5, hg', hq⟩ := D3_ok hq
      exact n6_ok y0b y0n y0c y1b y1n y1c y5 Kn Kr g' hg' h' hq
    | _ => exact hq
abbrev n3 (x0b : Option Addr) (x0n : Nat) (x0c : Nat) (x1b : Option Addr) (x1n : Nat) (x1c : Nat) (Kn : T0) (Kr : T0) (h : H) : Prop := n5 x0b x0n x0c x1b x1n x1c (fun  h => n4 Kn Kr h) Kr h
theorem n3_ok (x0b : Option Addr) (x0n : Nat) (x0c : Nat) (x1b : Option Addr) (x1n : Nat) (x1c : Nat) (Kn : T0) (Kr : T0) (g : Env) (hg : E1 g x0b x0n x0c x1b x1n x1c) (h : H) (hS : n3 x0b x0n x0c x1b x1n x1c Kn Kr h) : wpC none Try.prog 26 n2_c2 (Q0 Kn Kr) g h := by
  refine wpC_seq' (x := n3_c1) (y := n3_c2) (by kernel_rfl) (n5_ok x0b x0n x0c x1b x1n x1c (fun  h => n4 Kn Kr h) Kr g hg h hS) ?_
  intro e g' h' hq
  cases e with
  | normal =>
    have hq : D2 (fun  h => n4 Kn Kr h) g' h' := hq
    obtain ⟨hg', hq⟩ := D2_ok hq
    exact n4_ok  Kn Kr g' hg' h' hq
  | _ => exact hq
def Q5 (Kn : T1) (Kr : T0) : XPost
  | .normal, g, h => D1 Kn g h
  | .ret, g, h => D0 Kr g h
  | _, _, _ => False
abbrev n2 (x0b : Option Addr) (x0n : Nat) (x0c : Nat) (x1b : Option Addr) (x1n : Nat) (x1c : Nat) (Kn : T0) (Kr : T0) (h : H) : Prop :=
  Spl ((x0n : Int) = (x1n : Int)) (n3 x0b x0n x0c x1b x1n x1c Kn Kr h) (Kr false h)
theorem n2_ok (x0b : Option Addr) (x0n : Nat) (x0c : Nat) (x1b : Option Addr) (x1n : Nat) (x1c : Nat) (Kn : T0) (Kr : T0) (g : Env) (hg : E1 g x0b x0n x0c x1b x1n x1c) (h : H) (hS : n2 x0b x0n x0c x1b x1n x1c Kn Kr h) : wpC none Try.prog 26 n1_c2 (Q0 Kn Kr) g h := by
  obtain ⟨hg0, hg1, hds⟩ := hg
  refine wpC_seq' (x := n2_c1) (y := n2_c2) (Q' := (Q5 (fun z0b z0n z0c z1b z1n z1c h => n3 z0b z0n z0c z1b z1n z1c Kn Kr h) Kr)) (by kernel_rfl) ?_ ?_
  · refine wpC_of_wpx (by kernel_rfl) (by kernel_rfl) (g' := ((⟨g.v, []⟩ : Env).upd (some 0) (.slice x0b x0n x0c)).upd (some 1) (.slice x1b x1n x1c)) (by rw [env_ds hds, upd_self hg0, upd_self hg1]) ?_
    have e : (n2 x0b x0n x0c x1b x1n x1c Kn Kr h) = wpx none Try.prog 26 n2_c1 (Q5 (fun z0b z0n z0c z1b z1n z1c h => n3 z0b z0n z0c z1b z1n z1c Kn Kr h) Kr) (((⟨g.v, []⟩ : Env).upd (some 0) (.slice x0b x0n x0c)).upd (some 1) (.slice x1b x1n x1c)) h := by kernel_rfl
    exact e ▸ hS
  · intro e g' h' hq
    cases e with
    | normal =>
      have hq : D1 (fun z0b z0n z0c z1b z1n z1c h => n3 z0b z0n z0c z1b z1n z1c Kn Kr h) g' h' := hq
      obtain ⟨y0b, y0n, y0c, y1b, y1n, y1c, hg', hq⟩ := D1_ok hq
      exact n3_ok y0b y0n y0c y1b y1n y1c Kn Kr g' hg' h' hq
    | _ => exact hq
abbrev n1 (x0b : Option Addr) (x0n : Nat) (x0c : Nat) (x1b : Option Addr) (x1n : Nat) (x1c : Nat) (Kn : T0) (Kr : T0) (h : H) : Prop :=
  n2 x0b x0n x0c x1b x1n x1c Kn Kr h
theorem n1_ok (x0b : Option Addr) (x0n : Nat) (x0c : Nat) (x1b : Option Addr) (x1n : Nat) (x1c : Nat) (Kn : T0) (Kr : T0) (g : Env) (hg : E1 g x0b x0n x0c x1b x1n x1c) (h : H) (hS : n1 x0b x0n x0c x1b x1n x1c Kn Kr h) : wpC none Try.prog 26 code (Q0 Kn Kr) g h := by
  obtain ⟨hg0, hg1, hds⟩ := hg
  refine wpC_seq' (x := n1_c1) (y := n1_c2) (Q' := (Q5 (fun z0b z0n z0c z1b z1n z1c h => n2 z0b z0n z0c z1b z1n z1c Kn Kr h) Kr)) (by kernel_rfl) ?_ ?_
  · refine wpC_of_wpx (by kernel_rfl) (by kernel_rfl) (g' := ((⟨g.v, []⟩ : Env).upd (some 0) (.slice x0b x0n x0c)).upd (some 1) (.slice x1b x1n x1c)) (by rw [env_ds hds, upd_self hg0, upd_self hg1]) ?_
    have e : (n1 x0b x0n x0c x1b x1n x1c Kn Kr h) = wpx none Try.prog 26 n1_c1 (Q5 (fun z0b z0n z0c z1b z1n z1c h => n2 z0b z0n z0c z1b z1n z1c Kn Kr h) Kr) (((⟨g.v, []⟩ : Env).upd (some 0) (.slice x0b x0n x0c)).upd (some 1) (.slice x1b x1n x1c)) h := by kernel_rfl
    exact e ▸ hS
  · intro e g' h' hq
    cases e with
    | normal =>
      have hq : D1 (fun z0b z0n z0c z1b z1n z1c h => n2 z0b z0n z0c z1b z1n z1c Kn Kr h) g' h' := hq
      obtain ⟨y0b, y0n, y0c, y1b, y1n, y1c, hg', hq⟩ := D1_ok hq
      exact n2_ok y0b y0n y0c y1b y1n y1c Kn Kr g' hg' h' hq
    | _ => exact hq
/-- WHAT tympan/tympanref00.SameAttrs ASKS -/
abbrev asks (x0b : Option Addr) (x0n : Nat) (x0c : Nat) (x1b : Option Addr) (x1n : Nat) (x1c : Nat) (K : Value → H → Prop) (h : H) : Prop := n1 x0b x0n x0c x1b x1n x1c (fun y4 h => K (.bool y4) h) (fun y4 h => K (.bool y4) h) h
theorem ok (x0b : Option Addr) (x0n : Nat) (x0c : Nat) (x1b : Option Addr) (x1n : Nat) (x1c : Nat) (K : Value → H → Prop) (h : H) (hS : asks x0b x0n x0c x1b x1n x1c K h) : HCalls Try.prog 42 ⟨[(.slice x0b x0n x0c), (.slice x1b x1n x1c)]⟩ h K := by
  refine calls_of_wpC (c := code) Try.func42 (by kernel_rfl) (Nat.le_of_ble_eq_true (by kernel_rfl)) ?_
  refine (n1_ok x0b x0n x0c x1b x1n x1c (fun y4 h => K (.bool y4) h) (fun y4 h => K (.bool y4) h) (env0 [(.slice x0b x0n x0c), (.slice x1b x1n x1c)]) ⟨rfl, rfl, rfl⟩ h hS).mono ?_
  intro e g' h' hq
  cases e with
  | normal =>
    have hq : D0 (fun y4 h => K (.bool y4) h) g' h' := hq
    obtain ⟨y4, ⟨hg4, hd⟩, hq⟩ := D0_ok hq
    show leaveX g'.ds h' _
    rw [hd]
    show K (g'.v 4) h'
    rw [hg4]
    exact hq
  | ret =>
    have hq : D0 (fun y4 h => K (.bool y4) h) g' h' := hq
    obtain ⟨y4, ⟨hg4, hd⟩, hq⟩ := D0_ok hq
    show leaveX g'.ds h' _
    rw [hd]
    show K (g'.v 4) h'
    rw [hg4]
    exact hq
  | _ => exact hq
end Sx.r00_SameAttrs

/-! ### tympan/tympanref00.SameInts -/
namespace Sx.r00_SameInts
noncomputable def code : Code := bodyOf Try.f51
abbrev T0 := Bool → H → Prop
def E0 (g : Env) (x4 : Bool) : Prop := g.v 4 = (.bool x4) ∧ g.ds = []
def D0 (K : T0) (g : Env) (h : H) : Prop := nilDs g.ds (vBool (g.v 4) fun b1 => K b1 h)
theorem D0_ok {K : T0} {g : Env} {h : H} (hq : D0 K g h) : ∃ (x4 : Bool), E0 g x4 ∧ K x4 h := by
  obtain ⟨hd, hq⟩ := nilDs_ok hq
  obtain ⟨y3, e2, q4⟩ := vBool_ok hq
  exact ⟨y3, ⟨e2, hd⟩, q4⟩
def Q0 (Kn : T0) (Kr : T0) : XPost
  | .normal, g, h => D0 Kn g h
  | .ret, g, h => D0 Kr g h
  | _, _, _ => False
abbrev T1 := (Option Addr) → Nat → Nat → (Option Addr) → Nat → Nat → H → Prop
def E1 (g : Env) (x0b : Option Addr) (x0n : Nat) (x0c : Nat) (x1b : Option Addr) (x1n : Nat) (x1c : Nat) : Prop := g.v 0 = (.slice x0b x0n x0c) ∧ g.v 1 = (.slice x1b x1n x1c) ∧ g.ds = []
def D1 (K : T1) (g : Env) (h : H) : Prop := nilDs g.ds (vSlice (g.v 0) fun s5b s5n s5c => vSlice (g.v 1) fun s6b s6n s6c => K s5b s5n s5c s6b s6n s6c h)
theorem D1_ok {K : T1} {g : Env} {h : H} (hq : D1 K g h) : ∃ (x0b : Option Addr) (x0n : Nat) (x0c : Nat) (x1b : Option Addr) (x1n : Nat) (x1c : Nat), E1 g x0b x0n x0c x1b x1n x1c ∧ K x0b x0n x0c x1b x1n x1c h := by
  obtain ⟨hd, hq⟩ := nilDs_ok hq
  obtain ⟨y8b, y8n, y8c, e7, q9⟩ := vSlice_ok hq
  obtain ⟨y11b, y11n, y11c, e10, q12⟩ := vSlice_ok q9
  exact ⟨y8b, y8n, y8c, y11b, y11n, y11c, ⟨e7, e10, hd⟩, q12⟩
noncomputable def n1_c1 : Code := cFst code
noncomputable def n1_c2 : Code := cSnd code
noncomputable def n2_c1 : Code := cFst n1_c2
noncomputable def n2_c2 : Code := cSnd n1_c2
noncomputable def n3_c1 : Code := cFst n2_c2
noncomputable def n3_c2 : Code := cSnd n2_c2
abbrev T2 := H → Prop
def E2 (g : Env)  : Prop := g.ds = []
def D2 (K : T2) (g : Env) (h : H) : Prop := nilDs g.ds (K h)
theorem D2_ok {K : T2} {g : Env} {h : H} (hq : D2 K g h) : E2 g  ∧ K  h := by
  obtain ⟨hd, hq⟩ := nilDs_ok hq
  skip
  exact ⟨hd, hq⟩
abbrev n4  (Kn : T0) (Kr : T0) (h : H) : Prop :=
  Kr true h
theorem n4_ok  (Kn : T0) (Kr : T0) (g : Env) (hg : E2 g ) (h : H) (hS : n4  Kn Kr h) : wpC none Try.prog 26 n3_c2 (Q0 Kn Kr) g h := by
  have hds : g.ds = [] := hg
  refine wpC_of_wpx (by kernel_rfl) (by kernel_rfl) (g' := ⟨g.v, []⟩) (by rw [env_ds hds]) ?_
  have e : (n4  Kn Kr h) = wpx none Try.prog 26 n3_c2 (Q0 Kn Kr) (⟨g.v, []⟩) h := by kernel_rfl
  exact e ▸ hS
def Q1 (Kn : T2) (Kr : T0) : XPost
  | .normal, g, h => D2 Kn g h
  | .ret, g, h => D0 Kr g h
  | _, _, _ => False
noncomputable def n5_c1 : Code := cFst n3_c1
noncomputable def n5_c2 : Code := cSnd n3_c1
abbrev T3 := (Option Addr) → Nat → Nat → (Option Addr) → Nat → Nat → Int → H → Prop
def E3 (g : Env) (x0b : Option Addr) (x0n : Nat) (x0c : Nat) (x1b : Option Addr) (x1n : Nat) (x1c : Nat) (x5 : Int) : Prop := g.v 0 = (.slice x0b x0n x0c) ∧ g.v 1 = (.slice x1b x1n x1c) ∧ g.v 5 = (.int .i64 x5) ∧ g.ds = []
def D3 (K : T3) (g : Env) (h : H) : Prop := nilDs g.ds (vSlice (g.v 0) fun s13b s13n s13c => vSlice (g.v 1) fun s14b s14n s14c => vInt .i64 (g.v 5) fun i15 => K s13b s13n s13c s14b s14n s14c i15 h)
theorem D3_ok {K : T3} {g : Env} {h : H} (hq : D3 K g h) : ∃ (x0b : Option Addr) (x0n : Nat) (x0c : Nat) (x1b : Option Addr) (x1n : Nat) (x1c : Nat) (x5 : Int), E3 g x0b x0n x0c x1b x1n x1c x5 ∧ K x0b x0n x0c x1b x1n x1c x5 h := by
  obtain ⟨hd, hq⟩ := nilDs_ok hq
  obtain ⟨y17b, y17n, y17c, e16, q18⟩ := vSlice_ok hq
  obtain ⟨y20b, y20n, y20c, e19, q21⟩ := vSlice_ok q18
  obtain ⟨y23, e22, q24⟩ := vInt_ok q21
  exact ⟨y17b, y17n, y17c, y20b, y20n, y20c, y23, ⟨e16, e19, e22, hd⟩, q24⟩
noncomputable def n6_c1 : Code := cFst n5_c2
def Q2 (Kn : T2) (Ke0 : T2) (Kr : T0) : XPost
  | .normal, g, h => D2 Kn g h
  | .ret, g, h => D0 Kr g h
  | .exit id, g, h => cond (Nat.beq id 0) (D2 Ke0 g h) (False)
  | _, _, _ => False
noncomputable def n7_c1 : Code := cFst n6_c1
def Q3 (Kn : T3) (Ke0 : T2) (Kr : T0) : XPost
  | .normal, g, h => D3 Kn g h
  | .ret, g, h => D0 Kr g h
  | .exit id, g, h => cond (Nat.beq id 0) (D2 Ke0 g h) (False)
  | _, _, _ => False
def n7_L (Kn : T2) (Ke0 : T2) (Kr : T0) : Nat → (Option Addr) → Nat → Nat → (Option Addr) → Nat → Nat → Int → H → Prop
  | 0 => fun _ _ _ _ _ _ _ _ => False
  | N + 1 => fun x0b x0n x0c x1b x1n x1c x5 h => Spl (x5 < (x0n : Int)) ((0 ≤ x5 ∧ x5 < (x0n : Int)) ∧ (vSome x0b fun a25 => ∃ i26, cell h (a25.add (Int.toNat x5 * 1)) = some (.int .i64 i26) ∧ ((0 ≤ x5 ∧ x5 < (x1n : Int)) ∧ (vSome x1b fun a27 => ∃ i28, cell h (a27.add (Int.toNat x5 * 1)) = some (.int .i64 i28) ∧ (Spl (i26 = i28) (Rng .i64 (x5 + (1 : Int)) ∧ (n7_L Kn Ke0 Kr N x0b x0n x0c x1b x1n x1c (x5 + (1 : Int)) h)) (Kr false h)))))) (Ke0 h)
abbrev n7 (x0b : Option Addr) (x0n : Nat) (x0c : Nat) (x1b : Option Addr) (x1n : Nat) (x1c : Nat) (x5 : Int) (Kn : T2) (Ke0 : T2) (Kr : T0) (h : H) : Prop := ∃ N, n7_L Kn Ke0 Kr N x0b x0n x0c x1b x1n x1c x5 h
theorem n7_ok (x0b : Option Addr) (x0n : Nat) (x0c : Nat) (x1b : Option Addr) (x1n : Nat) (x1c : Nat) (x5 : Int) (Kn : T2) (Ke0 : T2) (Kr : T0) (g : Env) (hg : E3 g x0b x0n x0c x1b x1n x1c x5) (h : H) (hS : n7 x0b x0n x0c x1b x1n x1c x5 Kn Ke0 Kr h) : wpC none Try.prog 26 n6_c1 (Q2 Kn Ke0 Kr) g h := by
  obtain ⟨N0, hS⟩ := hS
  refine wpC_loop' (x := n7_c1) (by kernel_rfl) (fun k g h => ∃ (x0b : Option Addr) (x0n : Nat) (x0c : Nat) (x1b : Option Addr) (x1n : Nat) (x1c : Nat) (x5 : Int), E3 g x0b x0n x0c x1b x1n x1c x5 ∧ n7_L Kn Ke0 Kr k x0b x0n x0c x1b x1n x1c x5 h) (fun g h hr => ?_) (fun N g h hr => ?_) N0 ⟨x0b, x0n, x0c, x1b, x1n, x1c, x5, hg, hS⟩
  · obtain ⟨x0b, x0n, x0c, x1b, x1n, x1c, x5, hg, hS⟩ := hr
    exact hS.elim
  · obtain ⟨x0b, x0n, x0c, x1b, x1n, x1c, x5, hg, hS⟩ := hr
    have hw : wpC none Try.prog 26 n7_c1 (Q3 (fun z0b z0n z0c z1b z1n z1c z5 h => n7_L Kn Ke0 Kr N z0b z0n z0c z1b z1n z1c z5 h) Ke0 Kr) g h := by
      obtain ⟨hg0, hg1, hg5, hds⟩ := hg
      refine wpC_of_wpx (by kernel_rfl) (by kernel_rfl) (g' := (((⟨g.v, []⟩ : Env).upd (some 0) (.slice x0b x0n x0c)).upd (some 1) (.slice x1b x1n x1c)).upd (some 5) (.int .i64 x5)) (by rw [env_ds hds, upd_self hg0, upd_self hg1, upd_self hg5]) ?_
      have e : (n7_L Kn Ke0 Kr (N + 1) x0b x0n x0c x1b x1n x1c x5 h) = wpx none Try.prog 26 n7_c1 (Q3 (fun z0b z0n z0c z1b z1n z1c z5 h => n7_L Kn Ke0 Kr N z0b z0n z0c z1b z1n z1c z5 h) Ke0 Kr) ((((⟨g.v, []⟩ : Env).upd (some 0) (.slice x0b x0n x0c)).upd (some 1) (.slice x1b x1n x1c)).upd (some 5) (.int .i64 x5)) h := by kernel_rfl
      exact e ▸ hS
    refine hw.mono ?_
    intro e g' h' hq
    cases e with
    | normal => exact D3_ok (K := (fun z0b z0n z0c z1b z1n z1c z5 h => n7_L Kn Ke0 Kr N z0b z0n z0c z1b z1n z1c z5 h)) hq
    | _ => exact hq
abbrev n6 (x0b : Option Addr) (x0n : Nat) (x0c : Nat) (x1b : Option Addr) (x1n : Nat) (x1c : Nat) (x5 : Int) (Kn : T2) (Kr : T0) (h : H) : Prop := n7 x0b x0n x0c x1b x1n x1c x5 Kn Kn Kr h
theorem n6_ok (x0b : Option Addr) (x0n : Nat) (x0c : Nat) (x1b : Option Addr) (x1n : Nat) (x1c : Nat) (x5 : Int) (Kn : T2) (Kr : T0) (g : Env) (hg : E3 g x0b x0n x0c x1b x1n x1c x5) (h : H) (hS : n6 x0b x0n x0c x1b x1n x1c x5 Kn Kr h) : wpC none Try.prog 26 n5_c2 (Q1 Kn Kr) g h := by
  refine wpC_block' (id := 0) (x := n6_c1) (by kernel_rfl) (n7_ok x0b x0n x0c x1b x1n x1c x5 Kn Kn Kr g hg h hS) ?_
  intro e g' h' hq
  cases e <;> exact hq
def Q4 (Kn : T3) (Kr : T0) : XPost
  | .normal, g, h => D3 Kn g h
  | .ret, g, h => D0 Kr g h
  | _, _, _ => False
abbrev n5 (x0b : Option Addr) (x0n : Nat) (x0c : Nat) (x1b : Option Addr) (x1n : Nat) (x1c : Nat) (Kn : T2) (Kr : T0) (h : H) : Prop :=
  n6 x0b x0n x0c x1b x1n x1c (0 : Int) Kn Kr h
theorem n5_ok (x0b : Option Addr) (x0n : Nat) (x0c : Nat) (x1b : Option Addr) (x1n : Nat) (x1c : Nat) (Kn : T2) (Kr : T0) (g : Env) (hg : E1 g x0b x0n x0c x1b x1n x1c) (h : H) (hS : n5 x0b x0n x0c x1b x1n x1c Kn Kr h) : wpC none Try.prog 26 n3_c1 (Q1 Kn Kr) g h := by
  obtain ⟨hg0, hg1, hds⟩ := hg
  refine wpC_seq' (x := n5_c1) (y := n5_c2) (Q' := (Q4 (fun z0b z0n z0c z1b z1n z1c z5 h => n6 z0b z0n z0c z1b z1n z1c z5 Kn Kr h) Kr)) (by kernel_rfl) ?_ ?_
  · refine wpC_of_wpx (by kernel_rfl) (by kernel_rfl) (g' := ((⟨g.v, []⟩ : Env).upd (some 0) (.slice x0b x0n x0c)).upd (some 1) (.slice x1b x1n x1c)) (by rw [env_ds hds, upd_self hg0, upd_self hg1]) ?_
    have e : (n5 x0b x0n x0c x1b x1n x1c Kn Kr h) = wpx none Try.prog 26 n5_c1 (Q4 (fun z0b z0n z0c z1b z1n z1c z5 h => n6 z0b z0n z0c z1b z1n z1c z5 Kn Kr h) Kr) (((⟨g.v, []⟩ : Env).upd (some 0) (.slice x0b x0n x0c)).upd (some 1) (.slice x1b x1n x1c)) h := by kernel_rfl
    exact e ▸ hS
  · intro e g' h' hq
    cases e with
    | normal =>
      have hq : D3 (fun z0b z0n z0c z1b z1n z1c z5 h => n6 z0b z0n z0c z1b z1n z1c z5 Kn Kr h) g' h' := hq
      obtain ⟨y0b, y0n, y0c, y1b, y1n, y1c, y5, hg', hq⟩ := D3_ok hq
      exact n6_ok y0b y0n y0c y1b y1n y1c y5 Kn Kr g' hg' h' hq
    | _ => exact hq
abbrev n3 (x0b : Option Addr) (x0n : Nat) (x0c : Nat) (x1b : Option Addr) (x1n : Nat) (x1c : Nat) (Kn : T0) (Kr : T0) (h : H) : Prop := n5 x0b x0n x0c x1b x1n x1c (fun  h => n4 Kn Kr h) Kr h
theorem n3_ok (x0b : Option Addr) (x0n : Nat) (x0c : Nat) (x1b : Option Addr) (x1n : Nat) (x1c : Nat) (Kn : T0) (Kr : T0) (g : Env) (hg : E1 g x0b x0n x0c x1b x1n x1c) (h : H) (hS : n3 x0b x0n x0c x1b x1n x1c Kn Kr h) : wpC none Try.prog 26 n2_c2 (Q0 Kn Kr) g h := by
  refine wpC_seq' (x := n3_c1) (y := n3_c2) (by kernel_rfl) (n5_ok x0b x0n x0c x1b x1n x1c (fun  h => n4 Kn Kr h) Kr g hg h hS) ?_
  intro e g' h' hq
  cases e with
  | normal =>
    have hq : D2 (fun  h => n4 Kn Kr h) g' h' := hq
    obtain ⟨hg', hq⟩ := D2_ok hq
    exact n4_ok  Kn Kr g' hg' h' hq
  | _ => exact hq
def Q5 (Kn : T1) (Kr : T0) : XPost
  | .normal, g, h => D1 Kn g h
  | .ret, g, h => D0 Kr g h
  | _, _, _ => False
abbrev n2 (x0b : Option Addr) (x0n : Nat) (x0c : Nat) (x1b : Option Addr) (x1n : Nat) (x1c : Nat) (Kn : T0) (Kr : T0) (h : H) : Prop :=
  Spl ((x0n : Int) = (x1n : Int)) (n3 x0b x0n x0c x1b x1n x1c Kn Kr h) (Kr false h)
theorem n2_ok (x0b : Option Addr) (x0n : Nat) (x0c : Nat) (x1b : Option Addr) (x1n : Nat) (x1c : Nat) (Kn : T0) (Kr : T0) (g : Env) (hg : E1 g x0b x0n x0c x1b x1n x1c) (h : H) (hS : n2 x0b x0n x0c x1b x1n x1c Kn Kr h) : wpC none Try.prog 26 n1_c2 (Q0 Kn Kr) g h := by
  obtain ⟨hg0, hg1, hds⟩ := hg
  refine wpC_seq' (x := n2_c1) (y := n2_c2) (Q' := (Q5 (fun z0b z0n z0c z1b z1n z1c h => n3 z0b z0n z0c z1b z1n z1c Kn Kr h) Kr)) (by kernel_rfl) ?_ ?_
  · refine wpC_of_wpx (by kernel_rfl) (by kernel_rfl) (g' := ((⟨g.v, []⟩ : Env).upd (some 0) (.slice x0b x0n x0c)).upd (some 1) (.slice x1b x1n x1c)) (by rw [env_ds hds, upd_self hg0, upd_self hg1]) ?_
    have e : (n2 x0b x0n x0c x1b x1n x1c Kn Kr h) = wpx none Try.prog 26 n2_c1 (Q5 (fun z0b z0n z0c z1b z1n z1c h => n3 z0b z0n z0c z1b z1n z1c Kn Kr h) Kr) (((⟨g.v, []⟩ : Env).upd (some 0) (.slice x0b x0n x0c)).upd (some 1) (.slice x1b x1n x1c)) h := by kernel_rfl
    exact e ▸ hS
  · intro e g' h' hq
    cases e with
    | normal =>
      have hq : D1 (fun z0b z0n z0c z1b z1n z1c h => n3 z0b z0n z0c z1b z1n z1c Kn Kr h) g' h' := hq
      obtain ⟨y0b, y0n, y0c, y1b, y1n, y1c, hg', hq⟩ := D1_ok hq
      exact n3_ok y0b y0n y0c y1b y1n y1c Kn Kr g' hg' h' hq
    | _ => exact hq
abbrev n1 (x0b : Option Addr) (x0n : Nat) (x0c : Nat) (x1b : Option Addr) (x1n : Nat) (x1c : Nat) (Kn : T0) (Kr : T0) (h : H) : Prop :=
  n2 x0b x0n x0c x1b x1n x1c Kn Kr h
theorem n1_ok (x0b : Option Addr) (x0n : Nat) (x0c : Nat) (x1b : Option Addr) (x1n : Nat) (x1c : Nat) (Kn : T0) (Kr : T0) (g : Env) (hg : E1 g x0b x0n x0c x1b x1n x1c) (h : H) (hS : n1 x0b x0n x0c x1b x1n x1c Kn Kr h) : wpC none Try.prog 26 code (Q0 Kn Kr) g h := by
  obtain ⟨hg0, hg1, hds⟩ := hg
  refine wpC_seq' (x := n1_c1) (y := n1_c2) (Q' := (Q5 (fun z0b z0n z0c z1b z1n z1c h => n2 z0b z0n z0c z1b z1n z1c Kn Kr h) Kr)) (by kernel_rfl) ?_ ?_
  · refine wpC_of_wpx (by kernel_rfl) (by kernel_rfl) (g' := ((⟨g.v, []⟩ : Env).upd (some 0) (.slice x0b x0n x0c)).upd (some 1) (.slice x1b x1n x1c)) (by rw [env_ds hds, upd_self hg0, upd_self hg1]) ?_
    have e : (n1 x0b x0n x0c x1b x1n x1c Kn Kr h) = wpx none Try.prog 26 n1_c1 (Q5 (fun z0b z0n z0c z1b z1n z1c h => n2 z0b z0n z0c z1b z1n z1c Kn Kr h) Kr) (((⟨g.v, []⟩ : Env).upd (some 0) (.slice x0b x0n x0c)).upd (some 1) (.slice x1b x1n x1c)) h := by kernel_rfl
    exact e ▸ hS
  · intro e g' h' hq
    cases e with
    | normal =>
      have hq : D1 (fun z0b z0n z0c z1b z1n z1c h => n2 z0b z0n z0c z1b z1n z1c Kn Kr h) g' h' := hq
      obtain ⟨y0b, y0n, y0c, y1b, y1n, y1c, hg', hq⟩ := D1_ok hq
      exact n2_ok y0b y0n y0c y1b y1n y1c Kn Kr g' hg' h' hq
    | _ => exact hq
/-- WHAT tympan/tympanref00.SameInts ASKS -/
abbrev asks (x0b : Option Addr) (x0n : Nat) (x0c : Nat) (x1b : Option Addr) (x1n : Nat) (x1c : Nat) (K : Value → H → Prop) (h : H) : Prop := n1 x0b x0n x0c x1b x1n x1c (fun y4 h => K (.bool y4) h) (fun y4 h => K (.bool y4) h) h
theorem ok (x0b : Option Addr) (x0n : Nat) (x0c : Nat) (x1b : Option Addr) (x1n : Nat) (x1c : Nat) (K : Value → H → Prop) (h : H) (hS : asks x0b x0n x0c x1b x1n x1c K h) : HCalls Try.prog 51 ⟨[(.slice x0b x0n x0c), (.slice x1b x1n x1c)]⟩ h K := by
  refine calls_of_wpC (c := code) Try.func51 (by kernel_rfl) (Nat.le_of_ble_eq_true (by kernel_rfl)) ?_
  refine (n1_ok x0b x0n x0c x1b x1n x1c (fun y4 h => K (.bool y4) h) (fun y4 h => K (.bool y4) h) (env0 [(.slice x0b x0n x0c), (.slice x1b x1n x1c)]) ⟨rfl, rfl, rfl⟩ h hS).mono ?_
  intro e g' h' hq
  cases e with
  | normal =>
    have hq : D0 (fun y4 h => K (.bool y4) h) g' h' := hq
    obtain ⟨y4, ⟨hg4, hd⟩, hq⟩ := D0_ok hq
    show leaveX g'.ds h' _
    rw [hd]
    show K (g'.v 4) h'
    rw [hg4]
    exact hq
  | ret =>
    have hq : D0 (fun y4 h => K (.bool y4) h) g' h' := hq
    obtain ⟨y4, ⟨hg4, hd⟩, hq⟩ := D0_ok hq
    show leaveX g'.ds h' _
    rw [hd]
    show K (g'.v 4) h'
    rw [hg4]
    exact hq
  | _ => exact hq
end Sx.r00_SameInts

/-! ### tympan/tympanlaw10.heavy -/
namespace Sx.l10_heavy
noncomputable def code : Code := bodyOf Try.f7
abbrev T0 := Bool → H → Prop
def E0 (g : Env) (x2 : Bool) : Prop := g.v 2 = (.bool x2) ∧ g.ds = []
def D0 (K : T0) (g : Env) (h : H) : Prop := nilDs g.ds (vBool (g.v 2) fun b1 => K b1 h)
theorem D0_ok {K : T0} {g : Env} {h : H} (hq : D0 K g h) : ∃ (x2 : Bool), E0 g x2 ∧ K x2 h := by
  obtain ⟨hd, hq⟩ := nilDs_ok hq
  obtain ⟨y3, e2, q4⟩ := vBool_ok hq
  exact ⟨y3, ⟨e2, hd⟩, q4⟩
def Q0 (Kn : T0) (Kr : T0) : XPost
  | .normal, g, h => D0 Kn g h
  | .ret, g, h => D0 Kr g h
  | _, _, _ => False
abbrev T1 := (Option Addr) → Nat → Nat → H → Prop
def E1 (g : Env) (x0b : Option Addr) (x0n : Nat) (x0c : Nat) : Prop := g.v 0 = (.slice x0b x0n x0c) ∧ g.ds = []
def D1 (K : T1) (g : Env) (h : H) : Prop := nilDs g.ds (vSlice (g.v 0) fun s5b s5n s5c => K s5b s5n s5c h)
theorem D1_ok {K : T1} {g : Env} {h : H} (hq : D1 K g h) : ∃ (x0b : Option Addr) (x0n : Nat) (x0c : Nat), E1 g x0b x0n x0c ∧ K x0b x0n x0c h := by
  obtain ⟨hd, hq⟩ := nilDs_ok hq
  obtain ⟨y7b, y7n, y7c, e6, q8⟩ := vSlice_ok hq
  exact ⟨y7b, y7n, y7c, ⟨e6, hd⟩, q8⟩
noncomputable def n1_c1 : Code := cFst code
noncomputable def n1_c2 : Code := cSnd code
noncomputable def n2_c1 : Code := cFst n1_c2
noncomputable def n2_c2 : Code := cSnd n1_c2
abbrev T2 := (Option Addr) → Nat → Nat → Int → H → Prop
def E2 (g : Env) (x0b : Option Addr) (x0n : Nat) (x0c : Nat) (x3 : Int) : Prop := g.v 0 = (.slice x0b x0n x0c) ∧ g.v 3 = (.int .i64 x3) ∧ g.ds = []
def D2 (K : T2) (g : Env) (h : H) : Prop := nilDs g.ds (vSlice (g.v 0) fun s9b s9n s9c => vInt .i64 (g.v 3) fun i10 => K s9b s9n s9c i10 h)
theorem D2_ok {K : T2} {g : Env} {h : H} (hq : D2 K g h) : ∃ (x0b : Option Addr) (x0n : Nat) (x0c : Nat) (x3 : Int), E2 g x0b x0n x0c x3 ∧ K x0b x0n x0c x3 h := by
  obtain ⟨hd, hq⟩ := nilDs_ok hq
  obtain ⟨y12b, y12n, y12c, e11, q13⟩ := vSlice_ok hq
  obtain ⟨y15, e14, q16⟩ := vInt_ok q13
  exact ⟨y12b, y12n, y12c, y15, ⟨e11, e14, hd⟩, q16⟩
noncomputable def n3_c1 : Code := cFst n2_c2
noncomputable def n3_c2 : Code := cSnd n2_c2
abbrev n4 (x0b : Option Addr) (x0n : Nat) (x0c : Nat) (x3 : Int) (Kn : T0) (Kr : T0) (h : H) : Prop :=
  Spl (x3 > (600 : Int)) (Kr true h) (Spl ((x0n : Int) > (150 : Int)) (Kr true h) (Kr false h))
theorem n4_ok (x0b : Option Addr) (x0n : Nat) (x0c : Nat) (x3 : Int) (Kn : T0) (Kr : T0) (g : Env) (hg : E2 g x0b x0n x0c x3) (h : H) (hS : n4 x0b x0n x0c x3 Kn Kr h) : wpC none Try.prog 32 n3_c2 (Q0 Kn Kr) g h := by
  obtain ⟨hg0, hg3, hds⟩ := hg
  refine wpC_of_wpx (by kernel_rfl) (by kernel_rfl) (g' := ((⟨g.v, []⟩ : Env).upd (some 0) (.slice x0b x0n x0c)).upd (some 3) (.int .i64 x3)) (by rw [env_ds hds, upd_self hg0, upd_self hg3]) ?_
  have e : (n4 x0b x0n x0c x3 Kn Kr h) = wpx none Try.prog 32 n3_c2 (Q0 Kn Kr) (((⟨g.v, []⟩ : Env).upd (some 0) (.slice x0b x0n x0c)).upd (some 3) (.int .i64 x3)) h := by kernel_rfl
  exact e ▸ hS
def Q1 (Kn : T2) (Kr : T0) : XPost
  | .normal, g, h => D2 Kn g h
  | .ret, g, h => D0 Kr g h
  | _, _, _ => False
noncomputable def n5_c1 : Code := cFst n3_c1
noncomputable def n5_c2 : Code := cSnd n3_c1
abbrev T3 := (Option Addr) → Nat → Nat → Int → Int → H → Prop
def E3 (g : Env) (x0b : Option Addr) (x0n : Nat) (x0c : Nat) (x3 : Int) (x4 : Int) : Prop := g.v 0 = (.slice x0b x0n x0c) ∧ g.v 3 = (.int .i64 x3) ∧ g.v 4 = (.int .i64 x4) ∧ g.ds = []
def D3 (K : T3) (g : Env) (h : H) : Prop := nilDs g.ds (vSlice (g.v 0) fun s17b s17n s17c => vInt .i64 (g.v 3) fun i18 => vInt .i64 (g.v 4) fun i19 => K s17b s17n s17c i18 i19 h)
theorem D3_ok {K : T3} {g : Env} {h : H} (hq : D3 K g h) : ∃ (x0b : Option Addr) (x0n : Nat) (x0c : Nat) (x3 : Int) (x4 : Int), E3 g x0b x0n x0c x3 x4 ∧ K x0b x0n x0c x3 x4 h := by
  obtain ⟨hd, hq⟩ := nilDs_ok hq
  obtain ⟨y21b, y21n, y21c, e20, q22⟩ := vSlice_ok hq
  obtain ⟨y24, e23, q25⟩ := vInt_ok q22
  obtain ⟨y27, e26, q28⟩ := vInt_ok q25
  exact ⟨y21b, y21n, y21c, y24, y27, ⟨e20, e23, e26, hd⟩, q28⟩
noncomputable def n6_c1 : Code := cFst n5_c2
def Q2 (Kn : T2) (Ke0 : T2) (Kr : T0) : XPost
  | .normal, g, h => D2 Kn g h
  | .ret, g, h => D0 Kr g h
  | .exit id, g, h => cond (Nat.beq id 0) (D2 Ke0 g h) (False)
  | _, _, _ => False
noncomputable def n7_c1 : Code := cFst n6_c1
def Q3 (Kn : T3) (Ke0 : T2) (Kr : T0) : XPost
  | .normal, g, h => D3 Kn g h
  | .ret, g, h => D0 Kr g h
  | .exit id, g, h => cond (Nat.beq id 0) (D2 Ke0 g h) (False)
  | _, _, _ => False
def n7_L (Kn : T2) (Ke0 : T2) (Kr : T0) : Nat → (Option Addr) → Nat → Nat → Int → Int → H → Prop
  | 0 => fun _ _ _ _ _ _ => False
  | N + 1 => fun x0b x0n x0c x3 x4 h => Spl (x4 < (x0n : Int)) (Spl (x3 ≤ (600 : Int)) ((0 ≤ x4 ∧ x4 < (x0n : Int)) ∧ (vSome x0b fun a29 => ∃ i30, cell h ((((a29.add (Int.toNat x4 * 10)).add 1)).add 0) = some (.int .u8 i30) ∧ (∃ i31, cell h ((((a29.add (Int.toNat x4 * 10)).add 1)).add 1) = some (.int .u8 i31) ∧ (∃ s32, cell h ((((a29.add (Int.toNat x4 * 10)).add 1)).add 2) = some (S s32) ∧ (∃ s33b s33n s33c, cell h ((((a29.add (Int.toNat x4 * 10)).add 1)).add 3) = some (.slice s33b s33n s33c) ∧ (∃ s34, cell h ((((a29.add (Int.toNat x4 * 10)).add 1)).add 4) = some (S s34) ∧ (∃ s35b s35n s35c, cell h ((((a29.add (Int.toNat x4 * 10)).add 1)).add 5) = some (.slice s35b s35n s35c) ∧ (newx h #[(.int .u8 i30), (.int .u8 i31), (S s32), (.slice s33b s33n s33c), (S s34), (.slice s35b s35n s35c)] 31 fun a36 h37 => HCalls Try.prog 29 ⟨[(.slice (some a36) 1 1), (.int .i64 x3), (.int .i64 (600 : Int))]⟩ h37 fun v38 h39 => vInt .i64 v38 fun i40 => Rng .i64 (x4 + (1 : Int)) ∧ (n7_L Kn Ke0 Kr N x0b x0n x0c i40 (x4 + (1 : Int)) h39))))))))) (Ke0 x0b x0n x0c x3 h)) (Ke0 x0b x0n x0c x3 h)
abbrev n7 (x0b : Option Addr) (x0n : Nat) (x0c : Nat) (x3 : Int) (x4 : Int) (Kn : T2) (Ke0 : T2) (Kr : T0) (h : H) : Prop := ∃ N, n7_L Kn Ke0 Kr N x0b x0n x0c x3 x4 h
theorem n7_ok (x0b : Option Addr) (x0n : Nat) (x0c : Nat) (x3 : Int) (x4 : Int) (Kn : T2) (Ke0 : T2) (Kr : T0) (g : Env) (hg : E3 g x0b x0n x0c x3 x4) (h : H) (hS : n7 x0b x0n x0c x3 x4 Kn Ke0 Kr h) : wpC none Try.prog 32 n6_c1 (Q2 Kn Ke0 Kr) g h := by
  obtain ⟨N0, hS⟩ := hS
  refine wpC_loop' (x := n7_c1) (by kernel_rfl) (fun k g h => ∃ (x0b : Option Addr) (x0n : Nat) (x0c : Nat) (x3 : Int) (x4 : Int), E3 g x0b x0n x0c x3 x4 ∧ n7_L Kn Ke0 Kr k x0b x0n x0c x3 x4 h) (fun g h hr => ?_) (fun N g h hr => ?_) N0 ⟨x0b, x0n, x0c, x3, x4, hg, hS⟩
  · obtain ⟨x0b, x0n, x0c, x3, x4, hg, hS⟩ := hr
    exact hS.elim
  · obtain ⟨x0b, x0n, x0c, x3, x4, hg, hS⟩ := hr
    have hw : wpC none Try.prog 32 n7_c1 (Q3 (fun z0b z0n z0c z3 z4 h => n7_L Kn Ke0 Kr N z0b z0n z0c z3 z4 h) Ke0 Kr) g h := by
      obtain ⟨hg0, hg3, hg4, hds⟩ := hg
      refine wpC_of_wpx (by kernel_rfl) (by kernel_rfl) (g' := (((⟨g.v, []⟩ : Env).upd (some 0) (.slice x0b x0n x0c)).upd (some 3) (.int .i64 x3)).upd (some 4) (.int .i64 x4)) (by rw [env_ds hds, upd_self hg0, upd_self hg3, upd_self hg4]) ?_
      have e : (n7_L Kn Ke0 Kr (N + 1) x0b x0n x0c x3 x4 h) = wpx none Try.prog 32 n7_c1 (Q3 (fun z0b z0n z0c z3 z4 h => n7_L Kn Ke0 Kr N z0b z0n z0c z3 z4 h) Ke0 Kr) ((((⟨g.v, []⟩ : Env).upd (some 0) (.slice x0b x0n x0c)).upd (some 3) (.int .i64 x3)).upd (some 4) (.int .i64 x4)) h := by kernel_rfl
      exact e ▸ hS
    refine hw.mono ?_
    intro e g' h' hq
    cases e with
    | normal => exact D3_ok (K := (fun z0b z0n z0c z3 z4 h => n7_L Kn Ke0 Kr N z0b z0n z0c z3 z4 h)) hq
    | _ => exact hq
abbrev n6 (x0b : Option Addr) (x0n : Nat) (x0c : Nat) (x3 : Int) (x4 : Int) (Kn : T2) (Kr : T0) (h : H) : Prop := n7 x0b x0n x0c x3 x4 Kn Kn Kr h
theorem n6_ok (x0b : Option Addr) (x0n : Nat) (x0c : Nat) (x3 : Int) (x4 : Int) (Kn : T2) (Kr : T0) (g : Env) (hg : E3 g x0b x0n x0c x3 x4) (h : H) (hS : n6 x0b x0n x0c x3 x4 Kn Kr h) : wpC none Try.prog 32 n5_c2 (Q1 Kn Kr) g h := by
  refine wpC_block' (id := 0) (x := n6_c1) (by kernel_rfl) (n7_ok x0b x0n x0c x3 x4 Kn Kn Kr g hg h hS) ?_
  intro e g' h' hq
  cases e <;> exact hq
def Q4 (Kn : T3) (Kr : T0) : XPost
  | .normal, g, h => D3 Kn g h
  | .ret, g, h => D0 Kr g h
  | _, _, _ => False
abbrev n5 (x0b : Option Addr) (x0n : Nat) (x0c : Nat) (x3 : Int) (Kn : T2) (Kr : T0) (h : H) : Prop :=
  n6 x0b x0n x0c x3 (0 : Int) Kn Kr h
theorem n5_ok (x0b : Option Addr) (x0n : Nat) (x0c : Nat) (x3 : Int) (Kn : T2) (Kr : T0) (g : Env) (hg : E2 g x0b x0n x0c x3) (h : H) (hS : n5 x0b x0n x0c x3 Kn Kr h) : wpC none Try.prog 32 n3_c1 (Q1 Kn Kr) g h := by
  obtain ⟨hg0, hg3, hds⟩ := hg
  refine wpC_seq' (x := n5_c1) (y := n5_c2) (Q' := (Q4 (fun z0b z0n z0c z3 z4 h => n6 z0b z0n z0c z3 z4 Kn Kr h) Kr)) (by kernel_rfl) ?_ ?_
  · refine wpC_of_wpx (by kernel_rfl) (by kernel_rfl) (g' := ((⟨g.v, []⟩ : Env).upd (some 0) (.slice x0b x0n x0c)).upd (some 3) (.int .i64 x3)) (by rw [env_ds hds, upd_self hg0, upd_self hg3]) ?_
    have e : (n5 x0b x0n x0c x3 Kn Kr h) = wpx none Try.prog 32 n5_c1 (Q4 (fun z0b z0n z0c z3 z4 h => n6 z0b z0n z0c z3 z4 Kn Kr h) Kr) (((⟨g.v, []⟩ : Env).upd (some 0) (.slice x0b x0n x0c)).upd (some 3) (.int .i64 x3)) h := by kernel_rfl
    exact e ▸ hS
  · intro e g' h' hq
    cases e with
    | normal =>
      have hq : D3 (fun z0b z0n z0c z3 z4 h => n6 z0b z0n z0c z3 z4 Kn Kr h) g' h' := hq
      obtain ⟨y0b, y0n, y0c, y3, y4, hg', hq⟩ := D3_ok hq
      exact n6_ok y0b y0n y0c y3 y4 Kn Kr g' hg' h' hq
    | _ => exact hq
abbrev n3 (x0b : Option Addr) (x0n : Nat) (x0c : Nat) (x3 : Int) (Kn : T0) (Kr : T0) (h : H) : Prop := n5 x0b x0n x0c x3 (fun z0b z0n z0c z3 h => n4 z0b z0n z0c z3 Kn Kr h) Kr h
theorem n3_ok (x0b : Option Addr) (x0n : Nat) (x0c : Nat) (x3 : Int) (Kn : T0) (Kr : T0) (g : Env) (hg : E2 g x0b x0n x0c x3) (h : H) (hS : n3 x0b x0n x0c x3 Kn Kr h) : wpC none Try.prog 32 n2_c2 (Q0 Kn Kr) g h := by
  refine wpC_seq' (x := n3_c1) (y := n3_c2) (by kernel_rfl) (n5_ok x0b x0n x0c x3 (fun z0b z0n z0c z3 h => n4 z0b z0n z0c z3 Kn Kr h) Kr g hg h hS) ?_
  intro e g' h' hq
  cases e with
  | normal =>
    have hq : D2 (fun z0b z0n z0c z3 h => n4 z0b z0n z0c z3 Kn Kr h) g' h' := hq
    obtain ⟨y0b, y0n, y0c, y3, hg', hq⟩ := D2_ok hq
    exact n4_ok y0b y0n y0c y3 Kn Kr g' hg' h' hq
  | _ => exact hq
abbrev n2 (x0b : Option Addr) (x0n : Nat) (x0c : Nat) (Kn : T0) (Kr : T0) (h : H) : Prop :=
  n3 x0b x0n x0c (x0n : Int) Kn Kr h
theorem n2_ok (x0b : Option Addr) (x0n : Nat) (x0c : Nat) (Kn : T0) (Kr : T0) (g : Env) (hg : E1 g x0b x0n x0c) (h : H) (hS : n2 x0b x0n x0c Kn Kr h) : wpC none Try.prog 32 n1_c2 (Q0 Kn Kr) g h := by
  obtain ⟨hg0, hds⟩ := hg
  refine wpC_seq' (x := n2_c1) (y := n2_c2) (Q' := (Q1 (fun z0b z0n z0c z3 h => n3 z0b z0n z0c z3 Kn Kr h) Kr)) (by kernel_rfl) ?_ ?_
  · refine wpC_of_wpx (by kernel_rfl) (by kernel_rfl) (g' := (⟨g.v, []⟩ : Env).upd (some 0) (.slice x0b x0n x0c)) (by rw [env_ds hds, upd_self hg0]) ?_
    have e : (n2 x0b x0n x0c Kn Kr h) = wpx none Try.prog 32 n2_c1 (Q1 (fun z0b z0n z0c z3 h => n3 z0b z0n z0c z3 Kn Kr h) Kr) ((⟨g.v, []⟩ : Env).upd (some 0) (.slice x0b x0n x0c)) h := by kernel_rfl
    exact e ▸ hS
  · intro e g' h' hq
    cases e with
    | normal =>
      have hq : D2 (fun z0b z0n z0c z3 h => n3 z0b z0n z0c z3 Kn Kr h) g' h' := hq
      obtain ⟨y0b, y0n, y0c, y3, hg', hq⟩ := D2_ok hq
      exact n3_ok y0b y0n y0c y3 Kn Kr g' hg' h' hq
    | _ => exact hq
def Q5 (Kn : T1) (Kr : T0) : XPost
  | .normal, g, h => D1 Kn g h
  | .ret, g, h => D0 Kr g h
  | _, _, _ => False
abbrev n1 (x0b : Option Addr) (x0n : Nat) (x0c : Nat) (Kn : T0) (Kr : T0) (h : H) : Prop :=
  n2 x0b x0n x0c Kn Kr h
theorem n1_ok (x0b : Option Addr) (x0n : Nat) (x0c : Nat) (Kn : T0) (Kr : T0) (g : Env) (hg : E1 g x0b x0n x0c) (h : H) (hS : n1 x0b x0n x0c Kn Kr h) : wpC none Try.prog 32 code (Q0 Kn Kr) g h := by
  obtain ⟨hg0, hds⟩ := hg
  refine wpC_seq' (x := n1_c1) (y := n1_c2) (Q' := (Q5 (fun z0b z0n z0c h => n2 z0b z0n z0c Kn Kr h) Kr)) (by kernel_rfl) ?_ ?_
  · refine wpC_of_wpx (by kernel_rfl) (by kernel_rfl) (g' := (⟨g.v, []⟩ : Env).upd (some 0) (.slice x0b x0n x0c)) (by rw [env_ds hds, upd_self hg0]) ?_
    have e : (n1 x0b x0n x0c Kn Kr h) = wpx none Try.prog 32 n1_c1 (Q5 (fun z0b z0n z0c h => n2 z0b z0n z0c Kn Kr h) Kr) ((⟨g.v, []⟩ : Env).upd (some 0) (.slice x0b x0n x0c)) h := by kernel_rfl
    exact e ▸ hS
  · intro e g' h' hq
    cases e with
    | normal =>
      have hq : D1 (fun z0b z0n z0c h => n2 z0b z0n z0c Kn Kr h) g' h' := hq
      obtain ⟨y0b, y0n, y0c, hg', hq⟩ := D1_ok hq
      exact n2_ok y0b y0n y0c Kn Kr g' hg' h' hq
    | _ => exact hq
/-- WHAT tympan/tympanlaw10.heavy ASKS -/
abbrev asks (x0b : Option Addr) (x0n : Nat) (x0c : Nat) (K : Value → H → Prop) (h : H) : Prop := n1 x0b x0n x0c (fun y2 h => K (.bool y2) h) (fun y2 h => K (.bool y2) h) h
theorem ok (x0b : Option Addr) (x0n : Nat) (x0c : Nat) (K : Value → H → Prop) (h : H) (hS : asks x0b x0n x0c K h) : HCalls Try.prog 7 ⟨[(.slice x0b x0n x0c)]⟩ h K := by
  refine calls_of_wpC (c := code) Try.func7 (by kernel_rfl) (Nat.le_of_ble_eq_true (by kernel_rfl)) ?_
  refine (n1_ok x0b x0n x0c (fun y2 h => K (.bool y2) h) (fun y2 h => K (.bool y2) h) (env0 [(.slice x0b x0n x0c)]) ⟨rfl, rfl⟩ h hS).mono ?_
  intro e g' h' hq
  cases e with
  | normal =>
    have hq : D0 (fun y2 h => K (.bool y2) h) g' h' := hq
    obtain ⟨y2, ⟨hg2, hd⟩, hq⟩ := D0_ok hq
    show leaveX g'.ds h' _
    rw [hd]
    show K (g'.v 2) h'
    rw [hg2]
    exact hq
  | ret =>
    have hq : D0 (fun y2 h => K (.bool y2) h) g' h' := hq
    obtain ⟨y2, ⟨hg2, hd⟩, hq⟩ := D0_ok hq
    show leaveX g'.ds h' _
    rw [hd]
    show K (g'.v 2) h'
    rw [hg2]
    exact hq
  | _ => exact hq
end Sx.l10_heavy

/-! ### tympan/tympanlaw10.known -/
namespace Sx.l10_known
noncomputable def code : Code := bodyOf Try.f8
abbrev T0 := Bool → H → Prop
def E0 (g : Env) (x0 : Bool) : Prop := g.v 0 = (.bool x0) ∧ g.ds = []
def D0 (K : T0) (g : Env) (h : H) : Prop := nilDs g.ds (vBool (g.v 0) fun b1 => K b1 h)
theorem D0_ok {K : T0} {g : Env} {h : H} (hq : D0 K g h) : ∃ (x0 : Bool), E0 g x0 ∧ K x0 h := by
  obtain ⟨hd, hq⟩ := nilDs_ok hq
  obtain ⟨y3, e2, q4⟩ := vBool_ok hq
  exact ⟨y3, ⟨e2, hd⟩, q4⟩
def Q0 (Kn : T0) (Kr : T0) : XPost
  | .normal, g, h => D0 Kn g h
  | .ret, g, h => D0 Kr g h
  | _, _, _ => False
abbrev T1 := H → Prop
def E1 (g : Env)  : Prop := g.ds = []
def D1 (K : T1) (g : Env) (h : H) : Prop := nilDs g.ds (K h)
theorem D1_ok {K : T1} {g : Env} {h : H} (hq : D1 K g h) : E1 g  ∧ K  h := by
  obtain ⟨hd, hq⟩ := nilDs_ok hq
  skip
  exact ⟨hd, hq⟩
noncomputable def n1_c1 : Code := cFst code
noncomputable def n1_c2 : Code := cSnd code
noncomputable def n2_c1 : Code := cFst n1_c2
noncomputable def n2_c2 : Code := cSnd n1_c2
abbrev T2 := (Option Addr) → H → Prop
def E2 (g : Env) (x1 : Option Addr) : Prop := g.v 1 = (.pointer x1) ∧ g.ds = []
def D2 (K : T2) (g : Env) (h : H) : Prop := nilDs g.ds (vPtr (g.v 1) fun p5 => K p5 h)
theorem D2_ok {K : T2} {g : Env} {h : H} (hq : D2 K g h) : ∃ (x1 : Option Addr), E2 g x1 ∧ K x1 h := by
  obtain ⟨hd, hq⟩ := nilDs_ok hq
  obtain ⟨y7, e6, q8⟩ := vPtr_ok hq
  exact ⟨y7, ⟨e6, hd⟩, q8⟩
noncomputable def n3_c1 : Code := cFst n2_c2
noncomputable def n3_c2 : Code := cSnd n2_c2
noncomputable def n4_c1 : Code := cFst n3_c2
noncomputable def n4_c2 : Code := cSnd n3_c2
abbrev T3 := (Option Addr) → Int → H → Prop
def E3 (g : Env) (x1 : Option Addr) (x2 : Int) : Prop := g.v 1 = (.pointer x1) ∧ g.v 2 = (.int .i64 x2) ∧ g.ds = []
def D3 (K : T3) (g : Env) (h : H) : Prop := nilDs g.ds (vPtr (g.v 1) fun p9 => vInt .i64 (g.v 2) fun i10 => K p9 i10 h)
theorem D3_ok {K : T3} {g : Env} {h : H} (hq : D3 K g h) : ∃ (x1 : Option Addr) (x2 : Int), E3 g x1 x2 ∧ K x1 x2 h := by
  obtain ⟨hd, hq⟩ := nilDs_ok hq
  obtain ⟨y12, e11, q13⟩ := vPtr_ok hq
  obtain ⟨y15, e14, q16⟩ := vInt_ok q13
  exact ⟨y12, y15, ⟨e11, e14, hd⟩, q16⟩
noncomputable def n5_c1 : Code := cFst n4_c2
noncomputable def n5_c2 : Code := cSnd n4_c2
abbrev T4 := (Option Addr) → Int → Int → H → Prop
def E4 (g : Env) (x1 : Option Addr) (x2 : Int) (x3 : Int) : Prop := g.v 1 = (.pointer x1) ∧ g.v 2 = (.int .i64 x2) ∧ g.v 3 = (.int .i64 x3) ∧ g.ds = []
def D4 (K : T4) (g : Env) (h : H) : Prop := nilDs g.ds (vPtr (g.v 1) fun p17 => vInt .i64 (g.v 2) fun i18 => vInt .i64 (g.v 3) fun i19 => K p17 i18 i19 h)
theorem D4_ok {K : T4} {g : Env} {h : H} (hq : D4 K g h) : ∃ (x1 : Option Addr) (x2 : Int) (x3 : Int), E4 g x1 x2 x3 ∧ K x1 x2 x3 h := by
  obtain ⟨hd, hq⟩ := nilDs_ok hq
  obtain ⟨y21, e20, q22⟩ := vPtr_ok hq
  obtain ⟨y24, e23, q25⟩ := vInt_ok q22
  obtain ⟨y27, e26, q28⟩ := vInt_ok q25
  exact ⟨y21, y24, y27, ⟨e20, e23, e26, hd⟩, q28⟩
noncomputable def n6_c1 : Code := cFst n5_c2
noncomputable def n6_c2 : Code := cSnd n5_c2
abbrev T5 := (Option Addr) → Int → Int → Bool → H → Prop
def E5 (g : Env) (x1 : Option Addr) (x2 : Int) (x3 : Int) (x4 : Bool) : Prop := g.v 1 = (.pointer x1) ∧ g.v 2 = (.int .i64 x2) ∧ g.v 3 = (.int .i64 x3) ∧ g.v 4 = (.bool x4) ∧ g.ds = []
def D5 (K : T5) (g : Env) (h : H) : Prop := nilDs g.ds (vPtr (g.v 1) fun p29 => vInt .i64 (g.v 2) fun i30 => vInt .i64 (g.v 3) fun i31 => vBool (g.v 4) fun b32 => K p29 i30 i31 b32 h)
theorem D5_ok {K : T5} {g : Env} {h : H} (hq : D5 K g h) : ∃ (x1 : Option Addr) (x2 : Int) (x3 : Int) (x4 : Bool), E5 g x1 x2 x3 x4 ∧ K x1 x2 x3 x4 h := by
  obtain ⟨hd, hq⟩ := nilDs_ok hq
  obtain ⟨y34, e33, q35⟩ := vPtr_ok hq
  obtain ⟨y37, e36, q38⟩ := vInt_ok q35
  obtain ⟨y40, e39, q41⟩ := vInt_ok q38
  obtain ⟨y43, e42, q44⟩ := vBool_ok q41
  exact ⟨y34, y37, y40, y43, ⟨e33, e36, e39, e42, hd⟩, q44⟩
noncomputable def n7_c1 : Code := cFst n6_c2
noncomputable def n7_c2 : Code := cSnd n6_c2
abbrev T6 := (Option Addr) → Bool → Bool → H → Prop
def E6 (g : Env) (x1 : Option Addr) (x4 : Bool) (x5 : Bool) : Prop := g.v 1 = (.pointer x1) ∧ g.v 4 = (.bool x4) ∧ g.v 5 = (.bool x5) ∧ g.ds = []
def D6 (K : T6) (g : Env) (h : H) : Prop := nilDs g.ds (vPtr (g.v 1) fun p45 => vBool (g.v 4) fun b46 => vBool (g.v 5) fun b47 => K p45 b46 b47 h)
theorem D6_ok {K : T6} {g : Env} {h : H} (hq : D6 K g h) : ∃ (x1 : Option Addr) (x4 : Bool) (x5 : Bool), E6 g x1 x4 x5 ∧ K x1 x4 x5 h := by
  obtain ⟨hd, hq⟩ := nilDs_ok hq
  obtain ⟨y49, e48, q50⟩ := vPtr_ok hq
  obtain ⟨y52, e51, q53⟩ := vBool_ok q50
  obtain ⟨y55, e54, q56⟩ := vBool_ok q53
  exact ⟨y49, y52, y55, ⟨e48, e51, e54, hd⟩, q56⟩
abbrev n8 (x1 : Option Addr) (x4 : Bool) (x5 : Bool) (Kn : T0) (Kr : T0) (h : H) : Prop :=
  HCalls Try.prog 15 ⟨[(.pointer x1), (.int .i64 (0 : Int))]⟩ h fun v57 h58 => vSlice v57 fun s59b s59n s59c => cond x4 (cond x5 (Spl ((s59n : Int) = (3 : Int)) ((0 ≤ (0 : Int) ∧ (0 : Int) < (s59n : Int)) ∧ (vSome s59b fun a60 => ∃ i61, cell h58 (a60.add (Int.toNat (0 : Int) * 1)) = some (.int .i64 i61) ∧ (Spl (i61 = (1 : Int)) ((0 ≤ (1 : Int) ∧ (1 : Int) < (s59n : Int)) ∧ (vSome s59b fun a62 => ∃ i63, cell h58 (a62.add (Int.toNat (1 : Int) * 1)) = some (.int .i64 i63) ∧ (Spl (i63 = (3 : Int)) ((0 ≤ (2 : Int) ∧ (2 : Int) < (s59n : Int)) ∧ (vSome s59b fun a64 => ∃ i65, cell h58 (a64.add (Int.toNat (2 : Int) * 1)) = some (.int .i64 i65) ∧ (Spl (i65 = (2 : Int)) (HCalls Try.prog 12 ⟨[(.pointer x1), (.int .i64 (0 : Int))]⟩ h58 fun v66 h67 => vSlice v66 fun s68b s68n s68c => HCalls Try.prog 32 ⟨[(.slice s68b s68n s68c)]⟩ h67 fun v69 h70 => vStr v69 fun s71 => Spl (s71 = ([60, 97, 62, 10, 34, 120, 121, 34, 10, 60, 98, 62, 10] : List UInt8)) (Kr true h70) (Kr false h70)) (Kr false h58)))) (Kr false h58)))) (Kr false h58)))) (Kr false h58)) (Kr false h58)) (Kr false h58)
theorem n8_ok (x1 : Option Addr) (x4 : Bool) (x5 : Bool) (Kn : T0) (Kr : T0) (g : Env) (hg : E6 g x1 x4 x5) (h : H) (hS : n8 x1 x4 x5 Kn Kr h) : wpC none Try.prog 90 n7_c2 (Q0 Kn Kr) g h := by
  obtain ⟨hg1, hg4, hg5, hds⟩ := hg
  refine wpC_of_wpx (by kernel_rfl) (by kernel_rfl) (g' := (((⟨g.v, []⟩ : Env).upd (some 1) (.pointer x1)).upd (some 4) (.bool x4)).upd (some 5) (.bool x5)) (by rw [env_ds hds, upd_self hg1, upd_self hg4, upd_self hg5]) ?_
  have e : (n8 x1 x4 x5 Kn Kr h) = wpx none Try.prog 90 n7_c2 (Q0 Kn Kr) ((((⟨g.v, []⟩ : Env).upd (some 1) (.pointer x1)).upd (some 4) (.bool x4)).upd (some 5) (.bool x5)) h := by kernel_rfl
  exact e ▸ hS
def Q1 (Kn : T6) (Kr : T0) : XPost
  | .normal, g, h => D6 Kn g h
  | .ret, g, h => D0 Kr g h
  | _, _, _ => False
abbrev n7 (x1 : Option Addr) (x2 : Int) (x3 : Int) (x4 : Bool) (Kn : T0) (Kr : T0) (h : H) : Prop :=
  HCalls Try.prog 26 ⟨[(.pointer x1), (.int .i64 x2), (.int .i64 x3), (S ([120] : List UInt8))]⟩ h fun v72 h73 => vBool v72 fun b74 => cond b74 (HCalls Try.prog 26 ⟨[(.pointer x1), (.int .i64 x2), (.int .i64 x3), (S ([121] : List UInt8))]⟩ h73 fun v75 h76 => vBool v75 fun b77 => cond b77 (HCalls Try.prog 24 ⟨[(.pointer x1), (.int .i64 x2), (.int .i64 (0 : Int))]⟩ h76 fun v78 h79 => vBool v78 fun b80 => cond b80 (n8 x1 x4 true Kn Kr h79) (n8 x1 x4 false Kn Kr h79)) (n8 x1 x4 false Kn Kr h76)) (n8 x1 x4 false Kn Kr h73)
theorem n7_ok (x1 : Option Addr) (x2 : Int) (x3 : Int) (x4 : Bool) (Kn : T0) (Kr : T0) (g : Env) (hg : E5 g x1 x2 x3 x4) (h : H) (hS : n7 x1 x2 x3 x4 Kn Kr h) : wpC none Try.prog 90 n6_c2 (Q0 Kn Kr) g h := by
  obtain ⟨hg1, hg2, hg3, hg4, hds⟩ := hg
  refine wpC_seq' (x := n7_c1) (y := n7_c2) (Q' := (Q1 (fun z1 z4 z5 h => n8 z1 z4 z5 Kn Kr h) Kr)) (by kernel_rfl) ?_ ?_
  · refine wpC_of_wpx (by kernel_rfl) (by kernel_rfl) (g' := ((((⟨g.v, []⟩ : Env).upd (some 1) (.pointer x1)).upd (some 2) (.int .i64 x2)).upd (some 3) (.int .i64 x3)).upd (some 4) (.bool x4)) (by rw [env_ds hds, upd_self hg1, upd_self hg2, upd_self hg3, upd_self hg4]) ?_
    have e : (n7 x1 x2 x3 x4 Kn Kr h) = wpx none Try.prog 90 n7_c1 (Q1 (fun z1 z4 z5 h => n8 z1 z4 z5 Kn Kr h) Kr) (((((⟨g.v, []⟩ : Env).upd (some 1) (.pointer x1)).upd (some 2) (.int .i64 x2)).upd (some 3) (.int .i64 x3)).upd (some 4) (.bool x4)) h := by kernel_rfl
    exact e ▸ hS
  · intro e g' h' hq
    cases e with
    | normal =>
      have hq : D6 (fun z1 z4 z5 h => n8 z1 z4 z5 Kn Kr h) g' h' := hq
      obtain ⟨y1, y4, y5, hg', hq⟩ := D6_ok hq
      exact n8_ok y1 y4 y5 Kn Kr g' hg' h' hq
    | _ => exact hq
def Q2 (Kn : T5) (Kr : T0) : XPost
  | .normal, g, h => D5 Kn g h
  | .ret, g, h => D0 Kr g h
  | _, _, _ => False
abbrev n6 (x1 : Option Addr) (x2 : Int) (x3 : Int) (Kn : T0) (Kr : T0) (h : H) : Prop :=
  Spl (x2 = (1 : Int)) (Spl (x3 = (2 : Int)) (HCalls Try.prog 11 ⟨[(.pointer x1), (.int .i64 (0 : Int)), (.int .i64 (-1 : Int)), (.int .i64 x2)]⟩ h fun v81 h82 => vBool v81 fun b83 => cond b83 (HCalls Try.prog 11 ⟨[(.pointer x1), (.int .i64 x2), (.int .i64 (-1 : Int)), (.int .i64 x3)]⟩ h82 fun v84 h85 => vBool v84 fun b86 => cond b86 (HCalls Try.prog 11 ⟨[(.pointer x1), (.int .i64 x3), (.int .i64 (-1 : Int)), (.int .i64 x2)]⟩ h85 fun v87 h88 => vBool v87 fun b89 => cond b89 (n7 x1 x2 x3 false Kn Kr h88) (n7 x1 x2 x3 true Kn Kr h88)) (n7 x1 x2 x3 false Kn Kr h85)) (n7 x1 x2 x3 false Kn Kr h82)) (n7 x1 x2 x3 false Kn Kr h)) (n7 x1 x2 x3 false Kn Kr h)
theorem n6_ok (x1 : Option Addr) (x2 : Int) (x3 : Int) (Kn : T0) (Kr : T0) (g : Env) (hg : E4 g x1 x2 x3) (h : H) (hS : n6 x1 x2 x3 Kn Kr h) : wpC none Try.prog 90 n5_c2 (Q0 Kn Kr) g h := by
  obtain ⟨hg1, hg2, hg3, hds⟩ := hg
  refine wpC_seq' (x := n6_c1) (y := n6_c2) (Q' := (Q2 (fun z1 z2 z3 z4 h => n7 z1 z2 z3 z4 Kn Kr h) Kr)) (by kernel_rfl) ?_ ?_
  · refine wpC_of_wpx (by kernel_rfl) (by kernel_rfl) (g' := (((⟨g.v, []⟩ : Env).upd (some 1) (.pointer x1)).upd (some 2) (.int .i64 x2)).upd (some 3) (.int .i64 x3)) (by rw [env_ds hds, upd_self hg1, upd_self hg2, upd_self hg3]) ?_
    have e : (n6 x1 x2 x3 Kn Kr h) = wpx none Try.prog 90 n6_c1 (Q2 (fun z1 z2 z3 z4 h => n7 z1 z2 z3 z4 Kn Kr h) Kr) ((((⟨g.v, []⟩ : Env).upd (some 1) (.pointer x1)).upd (some 2) (.int .i64 x2)).upd (some 3) (.int .i64 x3)) h := by kernel_rfl
    exact e ▸ hS
  · intro e g' h' hq
    cases e with
    | normal =>
      have hq : D5 (fun z1 z2 z3 z4 h => n7 z1 z2 z3 z4 Kn Kr h) g' h' := hq
      obtain ⟨y1, y2, y3, y4, hg', hq⟩ := D5_ok hq
      exact n7_ok y1 y2 y3 y4 Kn Kr g' hg' h' hq
    | _ => exact hq
def Q3 (Kn : T4) (Kr : T0) : XPost
  | .normal, g, h => D4 Kn g h
  | .ret, g, h => D0 Kr g h
  | _, _, _ => False
abbrev n5 (x1 : Option Addr) (x2 : Int) (Kn : T0) (Kr : T0) (h : H) : Prop :=
  HCalls Try.prog 10 ⟨[(.pointer x1), (.agg ⟨[(.int .u8 (1 : Int)), (.int .u8 (0 : Int)), (S ([98] : List UInt8)), (.slice none 0 0), (S ([] : List UInt8)), (.slice none 0 0)]⟩)]⟩ h fun v90 h91 => vInt .i64 v90 fun i92 => n6 x1 x2 i92 Kn Kr h91
theorem n5_ok (x1 : Option Addr) (x2 : Int) (Kn : T0) (Kr : T0) (g : Env) (hg : E3 g x1 x2) (h : H) (hS : n5 x1 x2 Kn Kr h) : wpC none Try.prog 90 n4_c2 (Q0 Kn Kr) g h := by
  obtain ⟨hg1, hg2, hds⟩ := hg
  refine wpC_seq' (x := n5_c1) (y := n5_c2) (Q' := (Q3 (fun z1 z2 z3 h => n6 z1 z2 z3 Kn Kr h) Kr)) (by kernel_rfl) ?_ ?_
  · refine wpC_of_wpx (by kernel_rfl) (by kernel_rfl) (g' := ((⟨g.v, []⟩ : Env).upd (some 1) (.pointer x1)).upd (some 2) (.int .i64 x2)) (by rw [env_ds hds, upd_self hg1, upd_self hg2]) ?_
    have e : (n5 x1 x2 Kn Kr h) = wpx none Try.prog 90 n5_c1 (Q3 (fun z1 z2 z3 h => n6 z1 z2 z3 Kn Kr h) Kr) (((⟨g.v, []⟩ : Env).upd (some 1) (.pointer x1)).upd (some 2) (.int .i64 x2)) h := by kernel_rfl
    exact e ▸ hS
  · intro e g' h' hq
    cases e with
    | normal =>
      have hq : D4 (fun z1 z2 z3 h => n6 z1 z2 z3 Kn Kr h) g' h' := hq
      obtain ⟨y1, y2, y3, hg', hq⟩ := D4_ok hq
      exact n6_ok y1 y2 y3 Kn Kr g' hg' h' hq
    | _ => exact hq
def Q4 (Kn : T3) (Kr : T0) : XPost
  | .normal, g, h => D3 Kn g h
  | .ret, g, h => D0 Kr g h
  | _, _, _ => False
abbrev n4 (x1 : Option Addr) (Kn : T0) (Kr : T0) (h : H) : Prop :=
  HCalls Try.prog 10 ⟨[(.pointer x1), (.agg ⟨[(.int .u8 (1 : Int)), (.int .u8 (0 : Int)), (S ([97] : List UInt8)), (.slice none 0 0), (S ([] : List UInt8)), (.slice none 0 0)]⟩)]⟩ h fun v93 h94 => vInt .i64 v93 fun i95 => n5 x1 i95 Kn Kr h94
theorem n4_ok (x1 : Option Addr) (Kn : T0) (Kr : T0) (g : Env) (hg : E2 g x1) (h : H) (hS : n4 x1 Kn Kr h) : wpC none Try.prog 90 n3_c2 (Q0 Kn Kr) g h := by
  obtain ⟨hg1, hds⟩ := hg
  refine wpC_seq' (x := n4_c1) (y := n4_c2) (Q' := (Q4 (fun z1 z2 h => n5 z1 z2 Kn Kr h) Kr)) (by kernel_rfl) ?_ ?_
  · refine wpC_of_wpx (by kernel_rfl) (by kernel_rfl) (g' := (⟨g.v, []⟩ : Env).upd (some 1) (.pointer x1)) (by rw [env_ds hds, upd_self hg1]) ?_
    have e : (n4 x1 Kn Kr h) = wpx none Try.prog 90 n4_c1 (Q4 (fun z1 z2 h => n5 z1 z2 Kn Kr h) Kr) ((⟨g.v, []⟩ : Env).upd (some 1) (.pointer x1)) h := by kernel_rfl
    exact e ▸ hS
  · intro e g' h' hq
    cases e with
    | normal =>
      have hq : D3 (fun z1 z2 h => n5 z1 z2 Kn Kr h) g' h' := hq
      obtain ⟨y1, y2, hg', hq⟩ := D3_ok hq
      exact n5_ok y1 y2 Kn Kr g' hg' h' hq
    | _ => exact hq
def Q5 (Kn : T2) (Kr : T0) : XPost
  | .normal, g, h => D2 Kn g h
  | .ret, g, h => D0 Kr g h
  | _, _, _ => False
abbrev n3 (x1 : Option Addr) (Kn : T0) (Kr : T0) (h : H) : Prop :=
  SemH Try.prog (binS .eql 25 (.tmp 8) (.const (.pointer none)) (.pointer x1) (.pointer none)) h fun v96 h97 => vBool v96 fun b98 => cond b98 (Kr false h97) (n4 x1 Kn Kr h97)
theorem n3_ok (x1 : Option Addr) (Kn : T0) (Kr : T0) (g : Env) (hg : E2 g x1) (h : H) (hS : n3 x1 Kn Kr h) : wpC none Try.prog 90 n2_c2 (Q0 Kn Kr) g h := by
  obtain ⟨hg1, hds⟩ := hg
  refine wpC_seq' (x := n3_c1) (y := n3_c2) (Q' := (Q5 (fun z1 h => n4 z1 Kn Kr h) Kr)) (by kernel_rfl) ?_ ?_
  · refine wpC_of_wpx (by kernel_rfl) (by kernel_rfl) (g' := (⟨g.v, []⟩ : Env).upd (some 1) (.pointer x1)) (by rw [env_ds hds, upd_self hg1]) ?_
    have e : (n3 x1 Kn Kr h) = wpx none Try.prog 90 n3_c1 (Q5 (fun z1 h => n4 z1 Kn Kr h) Kr) ((⟨g.v, []⟩ : Env).upd (some 1) (.pointer x1)) h := by kernel_rfl
    exact e ▸ hS
  · intro e g' h' hq
    cases e with
    | normal =>
      have hq : D2 (fun z1 h => n4 z1 Kn Kr h) g' h' := hq
      obtain ⟨y1, hg', hq⟩ := D2_ok hq
      exact n4_ok y1 Kn Kr g' hg' h' hq
    | _ => exact hq
abbrev n2  (Kn : T0) (Kr : T0) (h : H) : Prop :=
  HCalls Try.prog 9 ⟨[]⟩ h fun v99 h100 => vPtr v99 fun p101 => n3 p101 Kn Kr h100
theorem n2_ok  (Kn : T0) (Kr : T0) (g : Env) (hg : E1 g ) (h : H) (hS : n2  Kn Kr h) : wpC none Try.prog 90 n1_c2 (Q0 Kn Kr) g h := by
  have hds : g.ds = [] := hg
  refine wpC_seq' (x := n2_c1) (y := n2_c2) (Q' := (Q5 (fun z1 h => n3 z1 Kn Kr h) Kr)) (by kernel_rfl) ?_ ?_
  · refine wpC_of_wpx (by kernel_rfl) (by kernel_rfl) (g' := ⟨g.v, []⟩) (by rw [env_ds hds]) ?_
    have e : (n2  Kn Kr h) = wpx none Try.prog 90 n2_c1 (Q5 (fun z1 h => n3 z1 Kn Kr h) Kr) (⟨g.v, []⟩) h := by kernel_rfl
    exact e ▸ hS
  · intro e g' h' hq
    cases e with
    | normal =>
      have hq : D2 (fun z1 h => n3 z1 Kn Kr h) g' h' := hq
      obtain ⟨y1, hg', hq⟩ := D2_ok hq
      exact n3_ok y1 Kn Kr g' hg' h' hq
    | _ => exact hq
def Q6 (Kn : T1) (Kr : T0) : XPost
  | .normal, g, h => D1 Kn g h
  | .ret, g, h => D0 Kr g h
  | _, _, _ => False
abbrev n1  (Kn : T0) (Kr : T0) (h : H) : Prop :=
  n2 Kn Kr h
theorem n1_ok  (Kn : T0) (Kr : T0) (g : Env) (hg : E1 g ) (h : H) (hS : n1  Kn Kr h) : wpC none Try.prog 90 code (Q0 Kn Kr) g h := by
  have hds : g.ds = [] := hg
  refine wpC_seq' (x := n1_c1) (y := n1_c2) (Q' := (Q6 (fun  h => n2 Kn Kr h) Kr)) (by kernel_rfl) ?_ ?_
  · refine wpC_of_wpx (by kernel_rfl) (by kernel_rfl) (g' := ⟨g.v, []⟩) (by rw [env_ds hds]) ?_
    have e : (n1  Kn Kr h) = wpx none Try.prog 90 n1_c1 (Q6 (fun  h => n2 Kn Kr h) Kr) (⟨g.v, []⟩) h := by kernel_rfl
    exact e ▸ hS
  · intro e g' h' hq
    cases e with
    | normal =>
      have hq : D1 (fun  h => n2 Kn Kr h) g' h' := hq
      obtain ⟨hg', hq⟩ := D1_ok hq
      exact n2_ok  Kn Kr g' hg' h' hq
    | _ => exact hq
/-- WHAT tympan/tympanlaw10.known ASKS -/
abbrev asks  (K : Value → H → Prop) (h : H) : Prop := n1  (fun y0 h => K (.bool y0) h) (fun y0 h => K (.bool y0) h) h
theorem ok  (K : Value → H → Prop) (h : H) (hS : asks  K h) : HCalls Try.prog 8 ⟨[]⟩ h K := by
  refine calls_of_wpC (c := code) Try.func8 (by kernel_rfl) (Nat.le_of_ble_eq_true (by kernel_rfl)) ?_
  refine (n1_ok  (fun y0 h => K (.bool y0) h) (fun y0 h => K (.bool y0) h) (env0 []) rfl h hS).mono ?_
  intro e g' h' hq
  cases e with
  | normal =>
    have hq : D0 (fun y0 h => K (.bool y0) h) g' h' := hq
    obtain ⟨y0, ⟨hg0, hd⟩, hq⟩ := D0_ok hq
    show leaveX g'.ds h' _
    rw [hd]
    show K (g'.v 0) h'
    rw [hg0]
    exact hq
  | ret =>
    have hq : D0 (fun y0 h => K (.bool y0) h) g' h' := hq
    obtain ⟨y0, ⟨hg0, hd⟩, hq⟩ := D0_ok hq
    show leaveX g'.ds h' _
    rw [hd]
    show K (g'.v 0) h'
    rw [hg0]
    exact hq
  | _ => exact hq
end Sx.l10_known
end Go.Proofs
