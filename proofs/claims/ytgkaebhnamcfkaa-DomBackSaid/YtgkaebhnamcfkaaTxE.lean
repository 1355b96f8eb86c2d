/- The shallow forms of functions, printed by sh.py out of the translation; each with its proof. No condition. -/
import Derived.Test.YtgkaebhnamcfkaaShJ
import Derived.Test.YtgkaebhnamcfkaaProg
namespace Go.Proofs
open Go Go.Sh
set_option linter.unusedVariables false
set_option maxRecDepth 100000

/-! ### tympan/tympanlaw10.DomOwn -/
namespace Sx.l10_DomOwn
noncomputable def code : Code := bodyOf Try.f3
abbrev T0 := Bool → H → Prop
def E0 (g : Env) (x2 : Bool) : Prop := g.v 2 = (.bool x2) ∧ g.ds = []
def D0 (K : T0) (g : Env) (h : H) : Prop := nilDs g.ds (vBool (g.v 2) fun b1 => K b1 h)
theorem D0_ok {K : T0} {g : Env} {h : H} (hq : D0 K g h) : ∃ (x2 : Bool), E0 g x2 ∧ K x2 h := by
  obtain ⟨hd, hq⟩ := nilDs_ok hq
  obtain ⟨y3, e2, q4⟩ := vBool_ok hq
  exact ⟨y3, ⟨e2, hd⟩, q4⟩
def Q0 (Kn : T0) (Kr : T0) : XPost
  | .normal, g, h => D0 Kn g h
  | .ret, g, h => D0 Kr g h
  | _, _, _ => False
abbrev T1 := (Option Addr) → Nat → Nat → H → Prop
def E1 (g : Env) (x0b : Option Addr) (x0n : Nat) (x0c : Nat) : Prop := g.v 0 = (.slice x0b x0n x0c) ∧ g.ds = []
def D1 (K : T1) (g : Env) (h : H) : Prop := nilDs g.ds (vSlice (g.v 0) fun s5b s5n s5c => K s5b s5n s5c h)
theorem D1_ok {K : T1} {g : Env} {h : H} (hq : D1 K g h) : ∃ (x0b : Option Addr) (x0n : Nat) (x0c : Nat), E1 g x0b x0n x0c ∧ K x0b x0n x0c h := by
  obtain ⟨hd, hq⟩ := nilDs_ok hq
  obtain ⟨y7b, y7n, y7c, e6, q8⟩ := vSlice_ok hq
  exact ⟨y7b, y7n, y7c, ⟨e6, hd⟩, q8⟩
noncomputable def n1_c1 : Code := cFst code
noncomputable def n1_c2 : Code := cSnd code
noncomputable def n2_c1 : Code := cFst n1_c2
noncomputable def n2_c2 : Code := cSnd n1_c2
noncomputable def n3_c1 : Code := cFst n2_c2
noncomputable def n3_c2 : Code := cSnd n2_c2
abbrev T2 := (Option Addr) → Nat → Nat → (Option Addr) → H → Prop
def E2 (g : Env) (x0b : Option Addr) (x0n : Nat) (x0c : Nat) (x3 : Option Addr) : Prop := g.v 0 = (.slice x0b x0n x0c) ∧ g.v 3 = (.pointer x3) ∧ g.ds = []
def D2 (K : T2) (g : Env) (h : H) : Prop := nilDs g.ds (vSlice (g.v 0) fun s9b s9n s9c => vPtr (g.v 3) fun p10 => K s9b s9n s9c p10 h)
theorem D2_ok {K : T2} {g : Env} {h : H} (hq : D2 K g h) : ∃ (x0b : Option Addr) (x0n : Nat) (x0c : Nat) (x3 : Option Addr), E2 g x0b x0n x0c x3 ∧ K x0b x0n x0c x3 h := by
  obtain ⟨hd, hq⟩ := nilDs_ok hq
  obtain ⟨y12b, y12n, y12c, e11, q13⟩ := vSlice_ok hq
  obtain ⟨y15, e14, q16⟩ := vPtr_ok q13
  exact ⟨y12b, y12n, y12c, y15, ⟨e11, e14, hd⟩, q16⟩
noncomputable def n4_c1 : Code := cFst n3_c2
noncomputable def n4_c2 : Code := cSnd n3_c2
abbrev T3 := (Option Addr) → H → Prop
def E3 (g : Env) (x3 : Option Addr) : Prop := g.v 3 = (.pointer x3) ∧ g.ds = []
def D3 (K : T3) (g : Env) (h : H) : Prop := nilDs g.ds (vPtr (g.v 3) fun p17 => K p17 h)
theorem D3_ok {K : T3} {g : Env} {h : H} (hq : D3 K g h) : ∃ (x3 : Option Addr), E3 g x3 ∧ K x3 h := by
  obtain ⟨hd, hq⟩ := nilDs_ok hq
  obtain ⟨y19, e18, q20⟩ := vPtr_ok hq
  exact ⟨y19, ⟨e18, hd⟩, q20⟩
noncomputable def n5_c1 : Code := cFst n4_c2
noncomputable def n5_c2 : Code := cSnd n4_c2
abbrev T4 := (Option Addr) → (Option Addr) → Nat → Nat → H → Prop
def E4 (g : Env) (x3 : Option Addr) (x6b : Option Addr) (x6n : Nat) (x6c : Nat) : Prop := g.v 3 = (.pointer x3) ∧ g.v 6 = (.slice x6b x6n x6c) ∧ g.ds = []
def D4 (K : T4) (g : Env) (h : H) : Prop := nilDs g.ds (vPtr (g.v 3) fun p21 => vSlice (g.v 6) fun s22b s22n s22c => K p21 s22b s22n s22c h)
theorem D4_ok {K : T4} {g : Env} {h : H} (hq : D4 K g h) : ∃ (x3 : Option Addr) (x6b : Option Addr) (x6n : Nat) (x6c : Nat), E4 g x3 x6b x6n x6c ∧ K x3 x6b x6n x6c h := by
  obtain ⟨hd, hq⟩ := nilDs_ok hq
  obtain ⟨y24, e23, q25⟩ := vPtr_ok hq
  obtain ⟨y27b, y27n, y27c, e26, q28⟩ := vSlice_ok q25
  exact ⟨y24, y27b, y27n, y27c, ⟨e23, e26, hd⟩, q28⟩
noncomputable def n6_c1 : Code := cFst n5_c2
noncomputable def n6_c2 : Code := cSnd n5_c2
abbrev T5 := (Option Addr) → (Option Addr) → Nat → Nat → (Option Addr) → Nat → Nat → H → Prop
def E5 (g : Env) (x3 : Option Addr) (x6b : Option Addr) (x6n : Nat) (x6c : Nat) (x7b : Option Addr) (x7n : Nat) (x7c : Nat) : Prop := g.v 3 = (.pointer x3) ∧ g.v 6 = (.slice x6b x6n x6c) ∧ g.v 7 = (.slice x7b x7n x7c) ∧ g.ds = []
def D5 (K : T5) (g : Env) (h : H) : Prop := nilDs g.ds (vPtr (g.v 3) fun p29 => vSlice (g.v 6) fun s30b s30n s30c => vSlice (g.v 7) fun s31b s31n s31c => K p29 s30b s30n s30c s31b s31n s31c h)
theorem D5_ok {K : T5} {g : Env} {h : H} (hq : D5 K g h) : ∃ (x3 : Option Addr) (x6b : Option Addr) (x6n : Nat) (x6c : Nat) (x7b : Option Addr) (x7n : Nat) (x7c : Nat), E5 g x3 x6b x6n x6c x7b x7n x7c ∧ K x3 x6b x6n x6c x7b x7n x7c h := by
  obtain ⟨hd, hq⟩ := nilDs_ok hq
  obtain ⟨y33, e32, q34⟩ := vPtr_ok hq
  obtain ⟨y36b, y36n, y36c, e35, q37⟩ := vSlice_ok q34
  obtain ⟨y39b, y39n, y39c, e38, q40⟩ := vSlice_ok q37
  exact ⟨y33, y36b, y36n, y36c, y39b, y39n, y39c, ⟨e32, e35, e38, hd⟩, q40⟩
noncomputable def n7_c1 : Code := cFst n6_c2
noncomputable def n7_c2 : Code := cSnd n6_c2
abbrev T6 := (Option Addr) → (Option Addr) → Nat → Nat → H → Prop
def E6 (g : Env) (x3 : Option Addr) (x7b : Option Addr) (x7n : Nat) (x7c : Nat) : Prop := g.v 3 = (.pointer x3) ∧ g.v 7 = (.slice x7b x7n x7c) ∧ g.ds = []
def D6 (K : T6) (g : Env) (h : H) : Prop := nilDs g.ds (vPtr (g.v 3) fun p41 => vSlice (g.v 7) fun s42b s42n s42c => K p41 s42b s42n s42c h)
theorem D6_ok {K : T6} {g : Env} {h : H} (hq : D6 K g h) : ∃ (x3 : Option Addr) (x7b : Option Addr) (x7n : Nat) (x7c : Nat), E6 g x3 x7b x7n x7c ∧ K x3 x7b x7n x7c h := by
  obtain ⟨hd, hq⟩ := nilDs_ok hq
  obtain ⟨y44, e43, q45⟩ := vPtr_ok hq
  obtain ⟨y47b, y47n, y47c, e46, q48⟩ := vSlice_ok q45
  exact ⟨y44, y47b, y47n, y47c, ⟨e43, e46, hd⟩, q48⟩
noncomputable def n8_c1 : Code := cFst n7_c2
noncomputable def n8_c2 : Code := cSnd n7_c2
abbrev T7 := (Option Addr) → (Option Addr) → Nat → Nat → (Option Addr) → Nat → Nat → H → Prop
def E7 (g : Env) (x3 : Option Addr) (x7b : Option Addr) (x7n : Nat) (x7c : Nat) (x8b : Option Addr) (x8n : Nat) (x8c : Nat) : Prop := g.v 3 = (.pointer x3) ∧ g.v 7 = (.slice x7b x7n x7c) ∧ g.v 8 = (.slice x8b x8n x8c) ∧ g.ds = []
def D7 (K : T7) (g : Env) (h : H) : Prop := nilDs g.ds (vPtr (g.v 3) fun p49 => vSlice (g.v 7) fun s50b s50n s50c => vSlice (g.v 8) fun s51b s51n s51c => K p49 s50b s50n s50c s51b s51n s51c h)
theorem D7_ok {K : T7} {g : Env} {h : H} (hq : D7 K g h) : ∃ (x3 : Option Addr) (x7b : Option Addr) (x7n : Nat) (x7c : Nat) (x8b : Option Addr) (x8n : Nat) (x8c : Nat), E7 g x3 x7b x7n x7c x8b x8n x8c ∧ K x3 x7b x7n x7c x8b x8n x8c h := by
  obtain ⟨hd, hq⟩ := nilDs_ok hq
  obtain ⟨y53, e52, q54⟩ := vPtr_ok hq
  obtain ⟨y56b, y56n, y56c, e55, q57⟩ := vSlice_ok q54
  obtain ⟨y59b, y59n, y59c, e58, q60⟩ := vSlice_ok q57
  exact ⟨y53, y56b, y56n, y56c, y59b, y59n, y59c, ⟨e52, e55, e58, hd⟩, q60⟩
noncomputable def n9_c1 : Code := cFst n8_c2
noncomputable def n9_c2 : Code := cSnd n8_c2
abbrev n10 (x3 : Option Addr) (x7b : Option Addr) (x7n : Nat) (x7c : Nat) (x8b : Option Addr) (x8n : Nat) (x8c : Nat) (Kn : T0) (Kr : T0) (h : H) : Prop :=
  HCalls Try.prog 12 ⟨[(.pointer x3), (.int .i64 (0 : Int))]⟩ h fun v61 h62 => vSlice v61 fun s63b s63n s63c => HCalls Try.prog 16 ⟨[(.slice s63b s63n s63c), (.slice x7b x7n x7c)]⟩ h62 fun v64 h65 => vBool v64 fun b66 => cond b66 (HCalls Try.prog 15 ⟨[(.pointer x3), (.int .i64 (0 : Int))]⟩ h65 fun v67 h68 => vSlice v67 fun s69b s69n s69c => Spl ((s69n : Int) = (x8n : Int)) (Kr true h68) (Kr false h68)) (Kr false h65)
theorem n10_ok (x3 : Option Addr) (x7b : Option Addr) (x7n : Nat) (x7c : Nat) (x8b : Option Addr) (x8n : Nat) (x8c : Nat) (Kn : T0) (Kr : T0) (g : Env) (hg : E7 g x3 x7b x7n x7c x8b x8n x8c) (h : H) (hS : n10 x3 x7b x7n x7c x8b x8n x8c Kn Kr h) : wpC none Try.prog 72 n9_c2 (Q0 Kn Kr) g h := by
  obtain ⟨hg3, hg7, hg8, hds⟩ := hg
  refine wpC_of_wpx (by kernel_rfl) (by kernel_rfl) (g' := (((⟨g.v, []⟩ : Env).upd (some 3) (.pointer x3)).upd (some 7) (.slice x7b x7n x7c)).upd (some 8) (.slice x8b x8n x8c)) (by rw [env_ds hds, upd_self hg3, upd_self hg7, upd_self hg8]) ?_
  have e : (n10 x3 x7b x7n x7c x8b x8n x8c Kn Kr h) = wpx none Try.prog 72 n9_c2 (Q0 Kn Kr) ((((⟨g.v, []⟩ : Env).upd (some 3) (.pointer x3)).upd (some 7) (.slice x7b x7n x7c)).upd (some 8) (.slice x8b x8n x8c)) h := by kernel_rfl
  exact e ▸ hS
def Q1 (Kn : T7) (Kr : T0) : XPost
  | .normal, g, h => D7 Kn g h
  | .ret, g, h => D0 Kr g h
  | _, _, _ => False
noncomputable def n11_c1 : Code := cFst n9_c1
noncomputable def n11_c2 : Code := cSnd n9_c1
abbrev T8 := (Option Addr) → (Option Addr) → Nat → Nat → (Option Addr) → Nat → Nat → Int → H → Prop
def E8 (g : Env) (x3 : Option Addr) (x7b : Option Addr) (x7n : Nat) (x7c : Nat) (x8b : Option Addr) (x8n : Nat) (x8c : Nat) (x9 : Int) : Prop := g.v 3 = (.pointer x3) ∧ g.v 7 = (.slice x7b x7n x7c) ∧ g.v 8 = (.slice x8b x8n x8c) ∧ g.v 9 = (.int .i64 x9) ∧ g.ds = []
def D8 (K : T8) (g : Env) (h : H) : Prop := nilDs g.ds (vPtr (g.v 3) fun p70 => vSlice (g.v 7) fun s71b s71n s71c => vSlice (g.v 8) fun s72b s72n s72c => vInt .i64 (g.v 9) fun i73 => K p70 s71b s71n s71c s72b s72n s72c i73 h)
theorem D8_ok {K : T8} {g : Env} {h : H} (hq : D8 K g h) : ∃ (x3 : Option Addr) (x7b : Option Addr) (x7n : Nat) (x7c : Nat) (x8b : Option Addr) (x8n : Nat) (x8c : Nat) (x9 : Int), E8 g x3 x7b x7n x7c x8b x8n x8c x9 ∧ K x3 x7b x7n x7c x8b x8n x8c x9 h := by
  obtain ⟨hd, hq⟩ := nilDs_ok hq
  obtain ⟨y75, e74, q76⟩ := vPtr_ok hq
  obtain ⟨y78b, y78n, y78c, e77, q79⟩ := vSlice_ok q76
  obtain ⟨y81b, y81n, y81c, e80, q82⟩ := vSlice_ok q79
  obtain ⟨y84, e83, q85⟩ := vInt_ok q82
  exact ⟨y75, y78b, y78n, y78c, y81b, y81n, y81c, y84, ⟨e74, e77, e80, e83, hd⟩, q85⟩
noncomputable def n12_c1 : Code := cFst n11_c2
def Q2 (Kn : T7) (Ke2 : T7) (Kr : T0) : XPost
  | .normal, g, h => D7 Kn g h
  | .ret, g, h => D0 Kr g h
  | .exit id, g, h => cond (Nat.beq id 2) (D7 Ke2 g h) (False)
  | _, _, _ => False
noncomputable def n13_c1 : Code := cFst n12_c1
def Q3 (Kn : T8) (Ke2 : T7) (Kr : T0) : XPost
  | .normal, g, h => D8 Kn g h
  | .ret, g, h => D0 Kr g h
  | .exit id, g, h => cond (Nat.beq id 2) (D7 Ke2 g h) (False)
  | _, _, _ => False
def n13_L (Kn : T7) (Ke2 : T7) (Kr : T0) : Nat → (Option Addr) → (Option Addr) → Nat → Nat → (Option Addr) → Nat → Nat → Int → H → Prop
  | 0 => fun _ _ _ _ _ _ _ _ _ => False
  | N + 1 => fun x3 x7b x7n x7c x8b x8n x8c x9 h => Spl (x9 < (x8n : Int)) ((0 ≤ x9 ∧ x9 < (x8n : Int)) ∧ (vSome x8b fun a86 => stL (a86.add (Int.toNat x9 * 1)) [(.int .i64 (-5 : Int))] 0 h fun h87 => Rng .i64 (x9 + (1 : Int)) ∧ (n13_L Kn Ke2 Kr N x3 x7b x7n x7c x8b x8n x8c (x9 + (1 : Int)) h87))) (Ke2 x3 x7b x7n x7c x8b x8n x8c h)
abbrev n13 (x3 : Option Addr) (x7b : Option Addr) (x7n : Nat) (x7c : Nat) (x8b : Option Addr) (x8n : Nat) (x8c : Nat) (x9 : Int) (Kn : T7) (Ke2 : T7) (Kr : T0) (h : H) : Prop := ∃ N, n13_L Kn Ke2 Kr N x3 x7b x7n x7c x8b x8n x8c x9 h
theorem n13_ok (x3 : Option Addr) (x7b : Option Addr) (x7n : Nat) (x7c : Nat) (x8b : Option Addr) (x8n : Nat) (x8c : Nat) (x9 : Int) (Kn : T7) (Ke2 : T7) (Kr : T0) (g : Env) (hg : E8 g x3 x7b x7n x7c x8b x8n x8c x9) (h : H) (hS : n13 x3 x7b x7n x7c x8b x8n x8c x9 Kn Ke2 Kr h) : wpC none Try.prog 72 n12_c1 (Q2 Kn Ke2 Kr) g h := by
  obtain ⟨N0, hS⟩ := hS
  refine wpC_loop' (x := n13_c1) (by kernel_rfl) (fun k g h => ∃ (x3 : Option Addr) (x7b : Option Addr) (x7n : Nat) (x7c : Nat) (x8b : Option Addr) (x8n : Nat) (x8c : Nat) (x9 : Int), E8 g x3 x7b x7n x7c x8b x8n x8c x9 ∧ n13_L Kn Ke2 Kr k x3 x7b x7n x7c x8b x8n x8c x9 h) (fun g h hr => ?_) (fun N g h hr => ?_) N0 ⟨x3, x7b, x7n, x7c, x8b, x8n, x8c, x9, hg, hS⟩
  · obtain ⟨x3, x7b, x7n, x7c, x8b, x8n, x8c, x9, hg, hS⟩ := hr
    exact hS.elim
  · obtain ⟨x3, x7b, x7n, x7c, x8b, x8n, x8c, x9, hg, hS⟩ := hr
    have hw : wpC none Try.prog 72 n13_c1 (Q3 (fun z3 z7b z7n z7c z8b z8n z8c z9 h => n13_L Kn Ke2 Kr N z3 z7b z7n z7c z8b z8n z8c z9 h) Ke2 Kr) g h := by
      obtain ⟨hg3, hg7, hg8, hg9, hds⟩ := hg
      refine wpC_of_wpx (by kernel_rfl) (by kernel_rfl) (g' := ((((⟨g.v, []⟩ : Env).upd (some 3) (.pointer x3)).upd (some 7) (.slice x7b x7n x7c)).upd (some 8) (.slice x8b x8n x8c)).upd (some 9) (.int .i64 x9)) (by rw [env_ds hds, upd_self hg3, upd_self hg7, upd_self hg8, upd_self hg9]) ?_
      have e : (n13_L Kn Ke2 Kr (N + 1) x3 x7b x7n x7c x8b x8n x8c x9 h) = wpx none Try.prog 72 n13_c1 (Q3 (fun z3 z7b z7n z7c z8b z8n z8c z9 h => n13_L Kn Ke2 Kr N z3 z7b z7n z7c z8b z8n z8c z9 h) Ke2 Kr) (((((⟨g.v, []⟩ : Env).upd (some 3) (.pointer x3)).upd (some 7) (.slice x7b x7n x7c)).upd (some 8) (.slice x8b x8n x8c)).upd (some 9) (.int .i64 x9)) h := by kernel_rfl
      exact e ▸ hS
    refine hw.mono ?_
    intro e g' h' hq
    cases e with
    | normal => exact D8_ok (K := (fun z3 z7b z7n z7c z8b z8n z8c z9 h => n13_L Kn Ke2 Kr N z3 z7b z7n z7c z8b z8n z8c z9 h)) hq
    | _ => exact hq
abbrev n12 (x3 : Option Addr) (x7b : Option Addr) (x7n : Nat) (x7c : Nat) (x8b : Option Addr) (x8n : Nat) (x8c : Nat) (x9 : Int) (Kn : T7) (Kr : T0) (h : H) : Prop := n13 x3 x7b x7n x7c x8b x8n x8c x9 Kn Kn Kr h
theorem n12_ok (x3 : Option Addr) (x7b : Option Addr) (x7n : Nat) (x7c : Nat) (x8b : Option Addr) (x8n : Nat) (x8c : Nat) (x9 : Int) (Kn : T7) (Kr : T0) (g : Env) (hg : E8 g x3 x7b x7n x7c x8b x8n x8c x9) (h : H) (hS : n12 x3 x7b x7n x7c x8b x8n x8c x9 Kn Kr h) : wpC none Try.prog 72 n11_c2 (Q1 Kn Kr) g h := by
  refine wpC_block' (id := 2) (x := n12_c1) (by kernel_rfl) (n13_ok x3 x7b x7n x7c x8b x8n x8c x9 Kn Kn Kr g hg h hS) ?_
  intro e g' h' hq
  cases e <;> exact hq
def Q4 (Kn : T8) (Kr : T0) : XPost
  | .normal, g, h => D8 Kn g h
  | .ret, g, h => D0 Kr g h
  | _, _, _ => False
abbrev n11 (x3 : Option Addr) (x7b : Option Addr) (x7n : Nat) (x7c : Nat) (x8b : Option Addr) (x8n : Nat) (x8c : Nat) (Kn : T7) (Kr : T0) (h : H) : Prop :=
  n12 x3 x7b x7n x7c x8b x8n x8c (0 : Int) Kn Kr h
theorem n11_ok (x3 : Option Addr) (x7b : Option Addr) (x7n : Nat) (x7c : Nat) (x8b : Option Addr) (x8n : Nat) (x8c : Nat) (Kn : T7) (Kr : T0) (g : Env) (hg : E7 g x3 x7b x7n x7c x8b x8n x8c) (h : H) (hS : n11 x3 x7b x7n x7c x8b x8n x8c Kn Kr h) : wpC none Try.prog 72 n9_c1 (Q1 Kn Kr) g h := by
  obtain ⟨hg3, hg7, hg8, hds⟩ := hg
  refine wpC_seq' (x := n11_c1) (y := n11_c2) (Q' := (Q4 (fun z3 z7b z7n z7c z8b z8n z8c z9 h => n12 z3 z7b z7n z7c z8b z8n z8c z9 Kn Kr h) Kr)) (by kernel_rfl) ?_ ?_
  · refine wpC_of_wpx (by kernel_rfl) (by kernel_rfl) (g' := (((⟨g.v, []⟩ : Env).upd (some 3) (.pointer x3)).upd (some 7) (.slice x7b x7n x7c)).upd (some 8) (.slice x8b x8n x8c)) (by rw [env_ds hds, upd_self hg3, upd_self hg7, upd_self hg8]) ?_
    have e : (n11 x3 x7b x7n x7c x8b x8n x8c Kn Kr h) = wpx none Try.prog 72 n11_c1 (Q4 (fun z3 z7b z7n z7c z8b z8n z8c z9 h => n12 z3 z7b z7n z7c z8b z8n z8c z9 Kn Kr h) Kr) ((((⟨g.v, []⟩ : Env).upd (some 3) (.pointer x3)).upd (some 7) (.slice x7b x7n x7c)).upd (some 8) (.slice x8b x8n x8c)) h := by kernel_rfl
    exact e ▸ hS
  · intro e g' h' hq
    cases e with
    | normal =>
      have hq : D8 (fun z3 z7b z7n z7c z8b z8n z8c z9 h => n12 z3 z7b z7n z7c z8b z8n z8c z9 Kn Kr h) g' h' := hq
      obtain ⟨y3, y7b, y7n, y7c, y8b, y8n, y8c, y9, hg', hq⟩ := D8_ok hq
      exact n12_ok y3 y7b y7n y7c y8b y8n y8c y9 Kn Kr g' hg' h' hq
    | _ => exact hq
abbrev n9 (x3 : Option Addr) (x7b : Option Addr) (x7n : Nat) (x7c : Nat) (x8b : Option Addr) (x8n : Nat) (x8c : Nat) (Kn : T0) (Kr : T0) (h : H) : Prop := n11 x3 x7b x7n x7c x8b x8n x8c (fun z3 z7b z7n z7c z8b z8n z8c h => n10 z3 z7b z7n z7c z8b z8n z8c Kn Kr h) Kr h
theorem n9_ok (x3 : Option Addr) (x7b : Option Addr) (x7n : Nat) (x7c : Nat) (x8b : Option Addr) (x8n : Nat) (x8c : Nat) (Kn : T0) (Kr : T0) (g : Env) (hg : E7 g x3 x7b x7n x7c x8b x8n x8c) (h : H) (hS : n9 x3 x7b x7n x7c x8b x8n x8c Kn Kr h) : wpC none Try.prog 72 n8_c2 (Q0 Kn Kr) g h := by
  refine wpC_seq' (x := n9_c1) (y := n9_c2) (by kernel_rfl) (n11_ok x3 x7b x7n x7c x8b x8n x8c (fun z3 z7b z7n z7c z8b z8n z8c h => n10 z3 z7b z7n z7c z8b z8n z8c Kn Kr h) Kr g hg h hS) ?_
  intro e g' h' hq
  cases e with
  | normal =>
    have hq : D7 (fun z3 z7b z7n z7c z8b z8n z8c h => n10 z3 z7b z7n z7c z8b z8n z8c Kn Kr h) g' h' := hq
    obtain ⟨y3, y7b, y7n, y7c, y8b, y8n, y8c, hg', hq⟩ := D7_ok hq
    exact n10_ok y3 y7b y7n y7c y8b y8n y8c Kn Kr g' hg' h' hq
  | _ => exact hq
abbrev n8 (x3 : Option Addr) (x7b : Option Addr) (x7n : Nat) (x7c : Nat) (Kn : T0) (Kr : T0) (h : H) : Prop :=
  HCalls Try.prog 15 ⟨[(.pointer x3), (.int .i64 (0 : Int))]⟩ h fun v88 h89 => vSlice v88 fun s90b s90n s90c => n9 x3 x7b x7n x7c s90b s90n s90c Kn Kr h89
theorem n8_ok (x3 : Option Addr) (x7b : Option Addr) (x7n : Nat) (x7c : Nat) (Kn : T0) (Kr : T0) (g : Env) (hg : E6 g x3 x7b x7n x7c) (h : H) (hS : n8 x3 x7b x7n x7c Kn Kr h) : wpC none Try.prog 72 n7_c2 (Q0 Kn Kr) g h := by
  obtain ⟨hg3, hg7, hds⟩ := hg
  refine wpC_seq' (x := n8_c1) (y := n8_c2) (Q' := (Q1 (fun z3 z7b z7n z7c z8b z8n z8c h => n9 z3 z7b z7n z7c z8b z8n z8c Kn Kr h) Kr)) (by kernel_rfl) ?_ ?_
  · refine wpC_of_wpx (by kernel_rfl) (by kernel_rfl) (g' := ((⟨g.v, []⟩ : Env).upd (some 3) (.pointer x3)).upd (some 7) (.slice x7b x7n x7c)) (by rw [env_ds hds, upd_self hg3, upd_self hg7]) ?_
    have e : (n8 x3 x7b x7n x7c Kn Kr h) = wpx none Try.prog 72 n8_c1 (Q1 (fun z3 z7b z7n z7c z8b z8n z8c h => n9 z3 z7b z7n z7c z8b z8n z8c Kn Kr h) Kr) (((⟨g.v, []⟩ : Env).upd (some 3) (.pointer x3)).upd (some 7) (.slice x7b x7n x7c)) h := by kernel_rfl
    exact e ▸ hS
  · intro e g' h' hq
    cases e with
    | normal =>
      have hq : D7 (fun z3 z7b z7n z7c z8b z8n z8c h => n9 z3 z7b z7n z7c z8b z8n z8c Kn Kr h) g' h' := hq
      obtain ⟨y3, y7b, y7n, y7c, y8b, y8n, y8c, hg', hq⟩ := D7_ok hq
      exact n9_ok y3 y7b y7n y7c y8b y8n y8c Kn Kr g' hg' h' hq
    | _ => exact hq
def Q5 (Kn : T6) (Kr : T0) : XPost
  | .normal, g, h => D6 Kn g h
  | .ret, g, h => D0 Kr g h
  | _, _, _ => False
abbrev n7 (x3 : Option Addr) (x6b : Option Addr) (x6n : Nat) (x6c : Nat) (x7b : Option Addr) (x7n : Nat) (x7c : Nat) (Kn : T0) (Kr : T0) (h : H) : Prop :=
  HCalls Try.prog 14 ⟨[(.slice x6b x6n x6c)]⟩ h fun v91 h92 => n8 x3 x7b x7n x7c Kn Kr h92
theorem n7_ok (x3 : Option Addr) (x6b : Option Addr) (x6n : Nat) (x6c : Nat) (x7b : Option Addr) (x7n : Nat) (x7c : Nat) (Kn : T0) (Kr : T0) (g : Env) (hg : E5 g x3 x6b x6n x6c x7b x7n x7c) (h : H) (hS : n7 x3 x6b x6n x6c x7b x7n x7c Kn Kr h) : wpC none Try.prog 72 n6_c2 (Q0 Kn Kr) g h := by
  obtain ⟨hg3, hg6, hg7, hds⟩ := hg
  refine wpC_seq' (x := n7_c1) (y := n7_c2) (Q' := (Q5 (fun z3 z7b z7n z7c h => n8 z3 z7b z7n z7c Kn Kr h) Kr)) (by kernel_rfl) ?_ ?_
  · refine wpC_of_wpx (by kernel_rfl) (by kernel_rfl) (g' := (((⟨g.v, []⟩ : Env).upd (some 3) (.pointer x3)).upd (some 6) (.slice x6b x6n x6c)).upd (some 7) (.slice x7b x7n x7c)) (by rw [env_ds hds, upd_self hg3, upd_self hg6, upd_self hg7]) ?_
    have e : (n7 x3 x6b x6n x6c x7b x7n x7c Kn Kr h) = wpx none Try.prog 72 n7_c1 (Q5 (fun z3 z7b z7n z7c h => n8 z3 z7b z7n z7c Kn Kr h) Kr) ((((⟨g.v, []⟩ : Env).upd (some 3) (.pointer x3)).upd (some 6) (.slice x6b x6n x6c)).upd (some 7) (.slice x7b x7n x7c)) h := by kernel_rfl
    exact e ▸ hS
  · intro e g' h' hq
    cases e with
    | normal =>
      have hq : D6 (fun z3 z7b z7n z7c h => n8 z3 z7b z7n z7c Kn Kr h) g' h' := hq
      obtain ⟨y3, y7b, y7n, y7c, hg', hq⟩ := D6_ok hq
      exact n8_ok y3 y7b y7n y7c Kn Kr g' hg' h' hq
    | _ => exact hq
def Q6 (Kn : T5) (Kr : T0) : XPost
  | .normal, g, h => D5 Kn g h
  | .ret, g, h => D0 Kr g h
  | _, _, _ => False
abbrev n6 (x3 : Option Addr) (x6b : Option Addr) (x6n : Nat) (x6c : Nat) (Kn : T0) (Kr : T0) (h : H) : Prop :=
  HCalls Try.prog 13 ⟨[(.slice x6b x6n x6c)]⟩ h fun v93 h94 => vSlice v93 fun s95b s95n s95c => n7 x3 x6b x6n x6c s95b s95n s95c Kn Kr h94
theorem n6_ok (x3 : Option Addr) (x6b : Option Addr) (x6n : Nat) (x6c : Nat) (Kn : T0) (Kr : T0) (g : Env) (hg : E4 g x3 x6b x6n x6c) (h : H) (hS : n6 x3 x6b x6n x6c Kn Kr h) : wpC none Try.prog 72 n5_c2 (Q0 Kn Kr) g h := by
  obtain ⟨hg3, hg6, hds⟩ := hg
  refine wpC_seq' (x := n6_c1) (y := n6_c2) (Q' := (Q6 (fun z3 z6b z6n z6c z7b z7n z7c h => n7 z3 z6b z6n z6c z7b z7n z7c Kn Kr h) Kr)) (by kernel_rfl) ?_ ?_
  · refine wpC_of_wpx (by kernel_rfl) (by kernel_rfl) (g' := ((⟨g.v, []⟩ : Env).upd (some 3) (.pointer x3)).upd (some 6) (.slice x6b x6n x6c)) (by rw [env_ds hds, upd_self hg3, upd_self hg6]) ?_
    have e : (n6 x3 x6b x6n x6c Kn Kr h) = wpx none Try.prog 72 n6_c1 (Q6 (fun z3 z6b z6n z6c z7b z7n z7c h => n7 z3 z6b z6n z6c z7b z7n z7c Kn Kr h) Kr) (((⟨g.v, []⟩ : Env).upd (some 3) (.pointer x3)).upd (some 6) (.slice x6b x6n x6c)) h := by kernel_rfl
    exact e ▸ hS
  · intro e g' h' hq
    cases e with
    | normal =>
      have hq : D5 (fun z3 z6b z6n z6c z7b z7n z7c h => n7 z3 z6b z6n z6c z7b z7n z7c Kn Kr h) g' h' := hq
      obtain ⟨y3, y6b, y6n, y6c, y7b, y7n, y7c, hg', hq⟩ := D5_ok hq
      exact n7_ok y3 y6b y6n y6c y7b y7n y7c Kn Kr g' hg' h' hq
    | _ => exact hq
def Q7 (Kn : T4) (Kr : T0) : XPost
  | .normal, g, h => D4 Kn g h
  | .ret, g, h => D0 Kr g h
  | _, _, _ => False
abbrev n5 (x3 : Option Addr) (Kn : T0) (Kr : T0) (h : H) : Prop :=
  HCalls Try.prog 12 ⟨[(.pointer x3), (.int .i64 (0 : Int))]⟩ h fun v96 h97 => vSlice v96 fun s98b s98n s98c => n6 x3 s98b s98n s98c Kn Kr h97
theorem n5_ok (x3 : Option Addr) (Kn : T0) (Kr : T0) (g : Env) (hg : E3 g x3) (h : H) (hS : n5 x3 Kn Kr h) : wpC none Try.prog 72 n4_c2 (Q0 Kn Kr) g h := by
  obtain ⟨hg3, hds⟩ := hg
  refine wpC_seq' (x := n5_c1) (y := n5_c2) (Q' := (Q7 (fun z3 z6b z6n z6c h => n6 z3 z6b z6n z6c Kn Kr h) Kr)) (by kernel_rfl) ?_ ?_
  · refine wpC_of_wpx (by kernel_rfl) (by kernel_rfl) (g' := (⟨g.v, []⟩ : Env).upd (some 3) (.pointer x3)) (by rw [env_ds hds, upd_self hg3]) ?_
    have e : (n5 x3 Kn Kr h) = wpx none Try.prog 72 n5_c1 (Q7 (fun z3 z6b z6n z6c h => n6 z3 z6b z6n z6c Kn Kr h) Kr) ((⟨g.v, []⟩ : Env).upd (some 3) (.pointer x3)) h := by kernel_rfl
    exact e ▸ hS
  · intro e g' h' hq
    cases e with
    | normal =>
      have hq : D4 (fun z3 z6b z6n z6c h => n6 z3 z6b z6n z6c Kn Kr h) g' h' := hq
      obtain ⟨y3, y6b, y6n, y6c, hg', hq⟩ := D4_ok hq
      exact n6_ok y3 y6b y6n y6c Kn Kr g' hg' h' hq
    | _ => exact hq
def Q8 (Kn : T3) (Kr : T0) : XPost
  | .normal, g, h => D3 Kn g h
  | .ret, g, h => D0 Kr g h
  | _, _, _ => False
noncomputable def n14_c1 : Code := cFst n4_c1
noncomputable def n14_c2 : Code := cSnd n4_c1
abbrev T9 := (Option Addr) → Nat → Nat → (Option Addr) → Int → H → Prop
def E9 (g : Env) (x0b : Option Addr) (x0n : Nat) (x0c : Nat) (x3 : Option Addr) (x4 : Int) : Prop := g.v 0 = (.slice x0b x0n x0c) ∧ g.v 3 = (.pointer x3) ∧ g.v 4 = (.int .i64 x4) ∧ g.ds = []
def D9 (K : T9) (g : Env) (h : H) : Prop := nilDs g.ds (vSlice (g.v 0) fun s99b s99n s99c => vPtr (g.v 3) fun p100 => vInt .i64 (g.v 4) fun i101 => K s99b s99n s99c p100 i101 h)
theorem D9_ok {K : T9} {g : Env} {h : H} (hq : D9 K g h) : ∃ (x0b : Option Addr) (x0n : Nat) (x0c : Nat) (x3 : Option Addr) (x4 : Int), E9 g x0b x0n x0c x3 x4 ∧ K x0b x0n x0c x3 x4 h := by
  obtain ⟨hd, hq⟩ := nilDs_ok hq
  obtain ⟨y103b, y103n, y103c, e102, q104⟩ := vSlice_ok hq
  obtain ⟨y106, e105, q107⟩ := vPtr_ok q104
  obtain ⟨y109, e108, q110⟩ := vInt_ok q107
  exact ⟨y103b, y103n, y103c, y106, y109, ⟨e102, e105, e108, hd⟩, q110⟩
noncomputable def n15_c1 : Code := cFst n14_c2
def Q9 (Kn : T3) (Ke0 : T3) (Kr : T0) : XPost
  | .normal, g, h => D3 Kn g h
  | .ret, g, h => D0 Kr g h
  | .exit id, g, h => cond (Nat.beq id 0) (D3 Ke0 g h) (False)
  | _, _, _ => False
noncomputable def n16_c1 : Code := cFst n15_c1
def Q10 (Kn : T9) (Ke0 : T3) (Kr : T0) : XPost
  | .normal, g, h => D9 Kn g h
  | .ret, g, h => D0 Kr g h
  | .exit id, g, h => cond (Nat.beq id 0) (D3 Ke0 g h) (False)
  | _, _, _ => False
def n16_L (Kn : T3) (Ke0 : T3) (Kr : T0) : Nat → (Option Addr) → Nat → Nat → (Option Addr) → Int → H → Prop
  | 0 => fun _ _ _ _ _ _ => False
  | N + 1 => fun x0b x0n x0c x3 x4 h => Spl (x4 < (x0n : Int)) ((0 ≤ x4 ∧ x4 < (x0n : Int)) ∧ (vSome x0b fun a111 => ∃ i112, cell h ((((a111.add (Int.toNat x4 * 10)).add 1)).add 0) = some (.int .u8 i112) ∧ (∃ i113, cell h ((((a111.add (Int.toNat x4 * 10)).add 1)).add 1) = some (.int .u8 i113) ∧ (∃ s114, cell h ((((a111.add (Int.toNat x4 * 10)).add 1)).add 2) = some (S s114) ∧ (∃ s115b s115n s115c, cell h ((((a111.add (Int.toNat x4 * 10)).add 1)).add 3) = some (.slice s115b s115n s115c) ∧ (∃ s116, cell h ((((a111.add (Int.toNat x4 * 10)).add 1)).add 4) = some (S s116) ∧ (∃ s117b s117n s117c, cell h ((((a111.add (Int.toNat x4 * 10)).add 1)).add 5) = some (.slice s117b s117n s117c) ∧ (HCalls Try.prog 10 ⟨[(.pointer x3), (.agg ⟨[(.int .u8 i112), (.int .u8 i113), (S s114), (.slice s115b s115n s115c), (S s116), (.slice s117b s117n s117c)]⟩)]⟩ h fun v118 h119 => vInt .i64 v118 fun i120 => (0 ≤ x4 ∧ x4 < (x0n : Int)) ∧ (vSome x0b fun a121 => ∃ i122, cell h119 ((a121.add (Int.toNat x4 * 10)).add 7) = some (.int .i64 i122) ∧ (Rng .i64 (x4 + (1 : Int)) ∧ ((x4 + (1 : Int)) ≠ 0 ∧ (HCalls Try.prog 11 ⟨[(.pointer x3), (.int .i64 (Int.tmod (if (0 : Int) > i122 then (0 : Int) else i122) (x4 + (1 : Int)))), (.int .i64 (-1 : Int)), (.int .i64 i120)]⟩ h119 fun v123 h124 => vBool v123 fun b125 => cond b125 (Rng .i64 (x4 + (1 : Int)) ∧ (n16_L Kn Ke0 Kr N x0b x0n x0c x3 (x4 + (1 : Int)) h124)) (Rng .i64 (x4 + (1 : Int)) ∧ (n16_L Kn Ke0 Kr N x0b x0n x0c x3 (x4 + (1 : Int)) h124)))))))))))))) (Ke0 x3 h)
abbrev n16 (x0b : Option Addr) (x0n : Nat) (x0c : Nat) (x3 : Option Addr) (x4 : Int) (Kn : T3) (Ke0 : T3) (Kr : T0) (h : H) : Prop := ∃ N, n16_L Kn Ke0 Kr N x0b x0n x0c x3 x4 h
theorem n16_ok (x0b : Option Addr) (x0n : Nat) (x0c : Nat) (x3 : Option Addr) (x4 : Int) (Kn : T3) (Ke0 : T3) (Kr : T0) (g : Env) (hg : E9 g x0b x0n x0c x3 x4) (h : H) (hS : n16 x0b x0n x0c x3 x4 Kn Ke0 Kr h) : wpC none Try.prog 72 n15_c1 (Q9 Kn Ke0 Kr) g h := by
  obtain ⟨N0, hS⟩ := hS
  refine wpC_loop' (x := n16_c1) (by kernel_rfl) (fun k g h => ∃ (x0b : Option Addr) (x0n : Nat) (x0c : Nat) (x3 : Option Addr) (x4 : Int), E9 g x0b x0n x0c x3 x4 ∧ n16_L Kn Ke0 Kr k x0b x0n x0c x3 x4 h) (fun g h hr => ?_) (fun N g h hr => ?_) N0 ⟨x0b, x0n, x0c, x3, x4, hg, hS⟩
  · obtain ⟨x0b, x0n, x0c, x3, x4, hg, hS⟩ := hr
    exact hS.elim
  · obtain ⟨x0b, x0n, x0c, x3, x4, hg, hS⟩ := hr
    have hw : wpC none Try.prog 72 n16_c1 (Q10 (fun z0b z0n z0c z3 z4 h => n16_L Kn Ke0 Kr N z0b z0n z0c z3 z4 h) Ke0 Kr) g h := by
      obtain ⟨hg0, hg3, hg4, hds⟩ := hg
      refine wpC_of_wpx (by kernel_rfl) (by kernel_rfl) (g' := (((⟨g.v, []⟩ : Env).upd (some 0) (.slice x0b x0n x0c)).upd (some 3) (.pointer x3)).upd (some 4) (.int .i64 x4)) (by rw [env_ds hds, upd_self hg0, upd_self hg3, upd_self hg4]) ?_
      have e : (n16_L Kn Ke0 Kr (N + 1) x0b x0n x0c x3 x4 h) = wpx none Try.prog 72 n16_c1 (Q10 (fun z0b z0n z0c z3 z4 h => n16_L Kn Ke0 Kr N z0b z0n z0c z3 z4 h) Ke0 Kr) ((((⟨g.v, []⟩ : Env).upd (some 0) (.slice x0b x0n x0c)).upd (some 3) (.pointer x3)).upd (some 4) (.int .i64 x4)) h := by kernel_rfl
      exact e ▸ hS
    refine hw.mono ?_
    intro e g' h' hq
    cases e with
    | normal => exact D9_ok (K := (fun z0b z0n z0c z3 z4 h => n16_L Kn Ke0 Kr N z0b z0n z0c z3 z4 h)) hq
    | _ => exact hq
abbrev n15 (x0b : Option Addr) (x0n : Nat) (x0c : Nat) (x3 : Option Addr) (x4 : Int) (Kn : T3) (Kr : T0) (h : H) : Prop := n16 x0b x0n x0c x3 x4 Kn Kn Kr h
theorem n15_ok (x0b : Option Addr) (x0n : Nat) (x0c : Nat) (x3 : Option Addr) (x4 : Int) (Kn : T3) (Kr : T0) (g : Env) (hg : E9 g x0b x0n x0c x3 x4) (h : H) (hS : n15 x0b x0n x0c x3 x4 Kn Kr h) : wpC none Try.prog 72 n14_c2 (Q8 Kn Kr) g h := by
  refine wpC_block' (id := 0) (x := n15_c1) (by kernel_rfl) (n16_ok x0b x0n x0c x3 x4 Kn Kn Kr g hg h hS) ?_
  intro e g' h' hq
  cases e <;> exact hq
def Q11 (Kn : T9) (Kr : T0) : XPost
  | .normal, g, h => D9 Kn g h
  | .ret, g, h => D0 Kr g h
  | _, _, _ => False
abbrev n14 (x0b : Option Addr) (x0n : Nat) (x0c : Nat) (x3 : Option Addr) (Kn : T3) (Kr : T0) (h : H) : Prop :=
  n15 x0b x0n x0c x3 (0 : Int) Kn Kr h
theorem n14_ok (x0b : Option Addr) (x0n : Nat) (x0c : Nat) (x3 : Option Addr) (Kn : T3) (Kr : T0) (g : Env) (hg : E2 g x0b x0n x0c x3) (h : H) (hS : n14 x0b x0n x0c x3 Kn Kr h) : wpC none Try.prog 72 n4_c1 (Q8 Kn Kr) g h := by
  obtain ⟨hg0, hg3, hds⟩ := hg
  refine wpC_seq' (x := n14_c1) (y := n14_c2) (Q' := (Q11 (fun z0b z0n z0c z3 z4 h => n15 z0b z0n z0c z3 z4 Kn Kr h) Kr)) (by kernel_rfl) ?_ ?_
  · refine wpC_of_wpx (by kernel_rfl) (by kernel_rfl) (g' := ((⟨g.v, []⟩ : Env).upd (some 0) (.slice x0b x0n x0c)).upd (some 3) (.pointer x3)) (by rw [env_ds hds, upd_self hg0, upd_self hg3]) ?_
    have e : (n14 x0b x0n x0c x3 Kn Kr h) = wpx none Try.prog 72 n14_c1 (Q11 (fun z0b z0n z0c z3 z4 h => n15 z0b z0n z0c z3 z4 Kn Kr h) Kr) (((⟨g.v, []⟩ : Env).upd (some 0) (.slice x0b x0n x0c)).upd (some 3) (.pointer x3)) h := by kernel_rfl
    exact e ▸ hS
  · intro e g' h' hq
    cases e with
    | normal =>
      have hq : D9 (fun z0b z0n z0c z3 z4 h => n15 z0b z0n z0c z3 z4 Kn Kr h) g' h' := hq
      obtain ⟨y0b, y0n, y0c, y3, y4, hg', hq⟩ := D9_ok hq
      exact n15_ok y0b y0n y0c y3 y4 Kn Kr g' hg' h' hq
    | _ => exact hq
abbrev n4 (x0b : Option Addr) (x0n : Nat) (x0c : Nat) (x3 : Option Addr) (Kn : T0) (Kr : T0) (h : H) : Prop := n14 x0b x0n x0c x3 (fun z3 h => n5 z3 Kn Kr h) Kr h
theorem n4_ok (x0b : Option Addr) (x0n : Nat) (x0c : Nat) (x3 : Option Addr) (Kn : T0) (Kr : T0) (g : Env) (hg : E2 g x0b x0n x0c x3) (h : H) (hS : n4 x0b x0n x0c x3 Kn Kr h) : wpC none Try.prog 72 n3_c2 (Q0 Kn Kr) g h := by
  refine wpC_seq' (x := n4_c1) (y := n4_c2) (by kernel_rfl) (n14_ok x0b x0n x0c x3 (fun z3 h => n5 z3 Kn Kr h) Kr g hg h hS) ?_
  intro e g' h' hq
  cases e with
  | normal =>
    have hq : D3 (fun z3 h => n5 z3 Kn Kr h) g' h' := hq
    obtain ⟨y3, hg', hq⟩ := D3_ok hq
    exact n5_ok y3 Kn Kr g' hg' h' hq
  | _ => exact hq
def Q12 (Kn : T2) (Kr : T0) : XPost
  | .normal, g, h => D2 Kn g h
  | .ret, g, h => D0 Kr g h
  | _, _, _ => False
abbrev n3 (x0b : Option Addr) (x0n : Nat) (x0c : Nat) (Kn : T0) (Kr : T0) (h : H) : Prop :=
  HCalls Try.prog 9 ⟨[]⟩ h fun v126 h127 => vPtr v126 fun p128 => n4 x0b x0n x0c p128 Kn Kr h127
theorem n3_ok (x0b : Option Addr) (x0n : Nat) (x0c : Nat) (Kn : T0) (Kr : T0) (g : Env) (hg : E1 g x0b x0n x0c) (h : H) (hS : n3 x0b x0n x0c Kn Kr h) : wpC none Try.prog 72 n2_c2 (Q0 Kn Kr) g h := by
  obtain ⟨hg0, hds⟩ := hg
  refine wpC_seq' (x := n3_c1) (y := n3_c2) (Q' := (Q12 (fun z0b z0n z0c z3 h => n4 z0b z0n z0c z3 Kn Kr h) Kr)) (by kernel_rfl) ?_ ?_
  · refine wpC_of_wpx (by kernel_rfl) (by kernel_rfl) (g' := (⟨g.v, []⟩ : Env).upd (some 0) (.slice x0b x0n x0c)) (by rw [env_ds hds, upd_self hg0]) ?_
    have e : (n3 x0b x0n x0c Kn Kr h) = wpx none Try.prog 72 n3_c1 (Q12 (fun z0b z0n z0c z3 h => n4 z0b z0n z0c z3 Kn Kr h) Kr) ((⟨g.v, []⟩ : Env).upd (some 0) (.slice x0b x0n x0c)) h := by kernel_rfl
    exact e ▸ hS
  · intro e g' h' hq
    cases e with
    | normal =>
      have hq : D2 (fun z0b z0n z0c z3 h => n4 z0b z0n z0c z3 Kn Kr h) g' h' := hq
      obtain ⟨y0b, y0n, y0c, y3, hg', hq⟩ := D2_ok hq
      exact n4_ok y0b y0n y0c y3 Kn Kr g' hg' h' hq
    | _ => exact hq
def Q13 (Kn : T1) (Kr : T0) : XPost
  | .normal, g, h => D1 Kn g h
  | .ret, g, h => D0 Kr g h
  | _, _, _ => False
abbrev n2 (x0b : Option Addr) (x0n : Nat) (x0c : Nat) (Kn : T0) (Kr : T0) (h : H) : Prop :=
  HCalls Try.prog 7 ⟨[(.slice x0b x0n x0c)]⟩ h fun v129 h130 => vBool v129 fun b131 => cond b131 (HCalls Try.prog 8 ⟨[]⟩ h130 fun v132 h133 => vBool v132 fun b134 => cond b134 (Kr true h133) (Kr false h133)) (HCalls Try.prog 8 ⟨[]⟩ h130 fun v135 h136 => vBool v135 fun b137 => cond b137 (n3 x0b x0n x0c Kn Kr h136) (HCalls Try.prog 8 ⟨[]⟩ h136 fun v138 h139 => vBool v138 fun b140 => cond b140 (Kr true h139) (Kr false h139)))
theorem n2_ok (x0b : Option Addr) (x0n : Nat) (x0c : Nat) (Kn : T0) (Kr : T0) (g : Env) (hg : E1 g x0b x0n x0c) (h : H) (hS : n2 x0b x0n x0c Kn Kr h) : wpC none Try.prog 72 n1_c2 (Q0 Kn Kr) g h := by
  obtain ⟨hg0, hds⟩ := hg
  refine wpC_seq' (x := n2_c1) (y := n2_c2) (Q' := (Q13 (fun z0b z0n z0c h => n3 z0b z0n z0c Kn Kr h) Kr)) (by kernel_rfl) ?_ ?_
  · refine wpC_of_wpx (by kernel_rfl) (by kernel_rfl) (g' := (⟨g.v, []⟩ : Env).upd (some 0) (.slice x0b x0n x0c)) (by rw [env_ds hds, upd_self hg0]) ?_
    have e : (n2 x0b x0n x0c Kn Kr h) = wpx none Try.prog 72 n2_c1 (Q13 (fun z0b z0n z0c h => n3 z0b z0n z0c Kn Kr h) Kr) ((⟨g.v, []⟩ : Env).upd (some 0) (.slice x0b x0n x0c)) h := by kernel_rfl
    exact e ▸ hS
  · intro e g' h' hq
    cases e with
    | normal =>
      have hq : D1 (fun z0b z0n z0c h => n3 z0b z0n z0c Kn Kr h) g' h' := hq
      obtain ⟨y0b, y0n, y0c, hg', hq⟩ := D1_ok hq
      exact n3_ok y0b y0n y0c Kn Kr g' hg' h' hq
    | _ => exact hq
abbrev n1 (x0b : Option Addr) (x0n : Nat) (x0c : Nat) (Kn : T0) (Kr : T0) (h : H) : Prop :=
  n2 x0b x0n x0c Kn Kr h
theorem n1_ok (x0b : Option Addr) (x0n : Nat) (x0c : Nat) (Kn : T0) (Kr : T0) (g : Env) (hg : E1 g x0b x0n x0c) (h : H) (hS : n1 x0b x0n x0c Kn Kr h) : wpC none Try.prog 72 code (Q0 Kn Kr) g h := by
  obtain ⟨hg0, hds⟩ := hg
  refine wpC_seq' (x := n1_c1) (y := n1_c2) (Q' := (Q13 (fun z0b z0n z0c h => n2 z0b z0n z0c Kn Kr h) Kr)) (by kernel_rfl) ?_ ?_
  · refine wpC_of_wpx (by kernel_rfl) (by kernel_rfl) (g' := (⟨g.v, []⟩ : Env).upd (some 0) (.slice x0b x0n x0c)) (by rw [env_ds hds, upd_self hg0]) ?_
    have e : (n1 x0b x0n x0c Kn Kr h) = wpx none Try.prog 72 n1_c1 (Q13 (fun z0b z0n z0c h => n2 z0b z0n z0c Kn Kr h) Kr) ((⟨g.v, []⟩ : Env).upd (some 0) (.slice x0b x0n x0c)) h := by kernel_rfl
    exact e ▸ hS
  · intro e g' h' hq
    cases e with
    | normal =>
      have hq : D1 (fun z0b z0n z0c h => n2 z0b z0n z0c Kn Kr h) g' h' := hq
      obtain ⟨y0b, y0n, y0c, hg', hq⟩ := D1_ok hq
      exact n2_ok y0b y0n y0c Kn Kr g' hg' h' hq
    | _ => exact hq
/-- WHAT tympan/tympanlaw10.DomOwn ASKS -/
abbrev asks (x0b : Option Addr) (x0n : Nat) (x0c : Nat) (K : Value → H → Prop) (h : H) : Prop := n1 x0b x0n x0c (fun y2 h => K (.bool y2) h) (fun y2 h => K (.bool y2) h) h
theorem ok (x0b : Option Addr) (x0n : Nat) (x0c : Nat) (K : Value → H → Prop) (h : H) (hS : asks x0b x0n x0c K h) : HCalls Try.prog 3 ⟨[(.slice x0b x0n x0c)]⟩ h K := by
  refine calls_of_wpC (c := code) Try.func3 (by kernel_rfl) (Nat.le_of_ble_eq_true (by kernel_rfl)) ?_
  refine (n1_ok x0b x0n x0c (fun y2 h => K (.bool y2) h) (fun y2 h => K (.bool y2) h) (env0 [(.slice x0b x0n x0c)]) ⟨rfl, rfl⟩ h hS).mono ?_
  intro e g' h' hq
  cases e with
  | normal =>
    have hq : D0 (fun y2 h => K (.bool y2) h) g' h' := hq
    obtain ⟨y2, ⟨hg2, hd⟩, hq⟩ := D0_ok hq
    show leaveX g'.ds h' _
    rw [hd]
    show K (g'.v 2) h'
    rw [hg2]
    exact hq
  | ret =>
    have hq : D0 (fun y2 h => K (.bool y2) h) g' h' := hq
    obtain ⟨y2, ⟨hg2, hd⟩, hq⟩ := D0_ok hq
    show leaveX g'.ds h' _
    rw [hd]
    show K (g'.v 2) h'
    rw [hg2]
    exact hq
  | _ => exact hq
end Sx.l10_DomOwn

/-! ### tympan/tympanlaw10.DomDoes -/
namespace Sx.l10_DomDoes
noncomputable def code : Code := bodyOf Try.f4
abbrev T0 := Bool → H → Prop
def E0 (g : Env) (x2 : Bool) : Prop := g.v 2 = (.bool x2) ∧ g.ds = []
def D0 (K : T0) (g : Env) (h : H) : Prop := nilDs g.ds (vBool (g.v 2) fun b1 => K b1 h)
theorem D0_ok {K : T0} {g : Env} {h : H} (hq : D0 K g h) : ∃ (x2 : Bool), E0 g x2 ∧ K x2 h := by
  obtain ⟨hd, hq⟩ := nilDs_ok hq
  obtain ⟨y3, e2, q4⟩ := vBool_ok hq
  exact ⟨y3, ⟨e2, hd⟩, q4⟩
def Q0 (Kn : T0) (Kr : T0) : XPost
  | .normal, g, h => D0 Kn g h
  | .ret, g, h => D0 Kr g h
  | _, _, _ => False
abbrev T1 := (Option Addr) → Nat → Nat → H → Prop
def E1 (g : Env) (x0b : Option Addr) (x0n : Nat) (x0c : Nat) : Prop := g.v 0 = (.slice x0b x0n x0c) ∧ g.ds = []
def D1 (K : T1) (g : Env) (h : H) : Prop := nilDs g.ds (vSlice (g.v 0) fun s5b s5n s5c => K s5b s5n s5c h)
theorem D1_ok {K : T1} {g : Env} {h : H} (hq : D1 K g h) : ∃ (x0b : Option Addr) (x0n : Nat) (x0c : Nat), E1 g x0b x0n x0c ∧ K x0b x0n x0c h := by
  obtain ⟨hd, hq⟩ := nilDs_ok hq
  obtain ⟨y7b, y7n, y7c, e6, q8⟩ := vSlice_ok hq
  exact ⟨y7b, y7n, y7c, ⟨e6, hd⟩, q8⟩
noncomputable def n1_c1 : Code := cFst code
noncomputable def n1_c2 : Code := cSnd code
noncomputable def n2_c1 : Code := cFst n1_c2
noncomputable def n2_c2 : Code := cSnd n1_c2
noncomputable def n3_c1 : Code := cFst n2_c2
noncomputable def n3_c2 : Code := cSnd n2_c2
abbrev T2 := (Option Addr) → Nat → Nat → (Option Addr) → H → Prop
def E2 (g : Env) (x0b : Option Addr) (x0n : Nat) (x0c : Nat) (x3 : Option Addr) : Prop := g.v 0 = (.slice x0b x0n x0c) ∧ g.v 3 = (.pointer x3) ∧ g.ds = []
def D2 (K : T2) (g : Env) (h : H) : Prop := nilDs g.ds (vSlice (g.v 0) fun s9b s9n s9c => vPtr (g.v 3) fun p10 => K s9b s9n s9c p10 h)
theorem D2_ok {K : T2} {g : Env} {h : H} (hq : D2 K g h) : ∃ (x0b : Option Addr) (x0n : Nat) (x0c : Nat) (x3 : Option Addr), E2 g x0b x0n x0c x3 ∧ K x0b x0n x0c x3 h := by
  obtain ⟨hd, hq⟩ := nilDs_ok hq
  obtain ⟨y12b, y12n, y12c, e11, q13⟩ := vSlice_ok hq
  obtain ⟨y15, e14, q16⟩ := vPtr_ok q13
  exact ⟨y12b, y12n, y12c, y15, ⟨e11, e14, hd⟩, q16⟩
noncomputable def n4_c1 : Code := cFst n3_c2
noncomputable def n4_c2 : Code := cSnd n3_c2
abbrev T3 := (Option Addr) → Nat → Nat → (Option Addr) → (Option Addr) → H → Prop
def E3 (g : Env) (x0b : Option Addr) (x0n : Nat) (x0c : Nat) (x3 : Option Addr) (x4 : Option Addr) : Prop := g.v 0 = (.slice x0b x0n x0c) ∧ g.v 3 = (.pointer x3) ∧ g.v 4 = (.pointer x4) ∧ g.ds = []
def D3 (K : T3) (g : Env) (h : H) : Prop := nilDs g.ds (vSlice (g.v 0) fun s17b s17n s17c => vPtr (g.v 3) fun p18 => vPtr (g.v 4) fun p19 => K s17b s17n s17c p18 p19 h)
theorem D3_ok {K : T3} {g : Env} {h : H} (hq : D3 K g h) : ∃ (x0b : Option Addr) (x0n : Nat) (x0c : Nat) (x3 : Option Addr) (x4 : Option Addr), E3 g x0b x0n x0c x3 x4 ∧ K x0b x0n x0c x3 x4 h := by
  obtain ⟨hd, hq⟩ := nilDs_ok hq
  obtain ⟨y21b, y21n, y21c, e20, q22⟩ := vSlice_ok hq
  obtain ⟨y24, e23, q25⟩ := vPtr_ok q22
  obtain ⟨y27, e26, q28⟩ := vPtr_ok q25
  exact ⟨y21b, y21n, y21c, y24, y27, ⟨e20, e23, e26, hd⟩, q28⟩
noncomputable def n5_c1 : Code := cFst n4_c2
noncomputable def n5_c2 : Code := cSnd n4_c2
abbrev T4 := (Option Addr) → Nat → Nat → (Option Addr) → (Option Addr) → Int → H → Prop
def E4 (g : Env) (x0b : Option Addr) (x0n : Nat) (x0c : Nat) (x3 : Option Addr) (x4 : Option Addr) (x5 : Int) : Prop := g.v 0 = (.slice x0b x0n x0c) ∧ g.v 3 = (.pointer x3) ∧ g.v 4 = (.pointer x4) ∧ g.v 5 = (.int .i64 x5) ∧ g.ds = []
def D4 (K : T4) (g : Env) (h : H) : Prop := nilDs g.ds (vSlice (g.v 0) fun s29b s29n s29c => vPtr (g.v 3) fun p30 => vPtr (g.v 4) fun p31 => vInt .i64 (g.v 5) fun i32 => K s29b s29n s29c p30 p31 i32 h)
theorem D4_ok {K : T4} {g : Env} {h : H} (hq : D4 K g h) : ∃ (x0b : Option Addr) (x0n : Nat) (x0c : Nat) (x3 : Option Addr) (x4 : Option Addr) (x5 : Int), E4 g x0b x0n x0c x3 x4 x5 ∧ K x0b x0n x0c x3 x4 x5 h := by
  obtain ⟨hd, hq⟩ := nilDs_ok hq
  obtain ⟨y34b, y34n, y34c, e33, q35⟩ := vSlice_ok hq
  obtain ⟨y37, e36, q38⟩ := vPtr_ok q35
  obtain ⟨y40, e39, q41⟩ := vPtr_ok q38
  obtain ⟨y43, e42, q44⟩ := vInt_ok q41
  exact ⟨y34b, y34n, y34c, y37, y40, y43, ⟨e33, e36, e39, e42, hd⟩, q44⟩
noncomputable def n6_c1 : Code := cFst n5_c2
noncomputable def n6_c2 : Code := cSnd n5_c2
abbrev T5 := H → Prop
def E5 (g : Env)  : Prop := g.ds = []
def D5 (K : T5) (g : Env) (h : H) : Prop := nilDs g.ds (K h)
theorem D5_ok {K : T5} {g : Env} {h : H} (hq : D5 K g h) : E5 g  ∧ K  h := by
  obtain ⟨hd, hq⟩ := nilDs_ok hq
  skip
  exact ⟨hd, hq⟩
abbrev n7  (Kn : T0) (Kr : T0) (h : H) : Prop :=
  Kr true h
theorem n7_ok  (Kn : T0) (Kr : T0) (g : Env) (hg : E5 g ) (h : H) (hS : n7  Kn Kr h) : wpC none Try.prog 153 n6_c2 (Q0 Kn Kr) g h := by
  have hds : g.ds = [] := hg
  refine wpC_of_wpx (by kernel_rfl) (by kernel_rfl) (g' := ⟨g.v, []⟩) (by rw [env_ds hds]) ?_
  have e : (n7  Kn Kr h) = wpx none Try.prog 153 n6_c2 (Q0 Kn Kr) (⟨g.v, []⟩) h := by kernel_rfl
  exact e ▸ hS
def Q1 (Kn : T5) (Kr : T0) : XPost
  | .normal, g, h => D5 Kn g h
  | .ret, g, h => D0 Kr g h
  | _, _, _ => False
noncomputable def n8_c1 : Code := cFst n6_c1
noncomputable def n8_c2 : Code := cSnd n6_c1
abbrev T6 := (Option Addr) → Nat → Nat → (Option Addr) → (Option Addr) → Int → Int → H → Prop
def E6 (g : Env) (x0b : Option Addr) (x0n : Nat) (x0c : Nat) (x3 : Option Addr) (x4 : Option Addr) (x5 : Int) (x6 : Int) : Prop := g.v 0 = (.slice x0b x0n x0c) ∧ g.v 3 = (.pointer x3) ∧ g.v 4 = (.pointer x4) ∧ g.v 5 = (.int .i64 x5) ∧ g.v 6 = (.int .i64 x6) ∧ g.ds = []
def D6 (K : T6) (g : Env) (h : H) : Prop := nilDs g.ds (vSlice (g.v 0) fun s45b s45n s45c => vPtr (g.v 3) fun p46 => vPtr (g.v 4) fun p47 => vInt .i64 (g.v 5) fun i48 => vInt .i64 (g.v 6) fun i49 => K s45b s45n s45c p46 p47 i48 i49 h)
theorem D6_ok {K : T6} {g : Env} {h : H} (hq : D6 K g h) : ∃ (x0b : Option Addr) (x0n : Nat) (x0c : Nat) (x3 : Option Addr) (x4 : Option Addr) (x5 : Int) (x6 : Int), E6 g x0b x0n x0c x3 x4 x5 x6 ∧ K x0b x0n x0c x3 x4 x5 x6 h := by
  obtain ⟨hd, hq⟩ := nilDs_ok hq
  obtain ⟨y51b, y51n, y51c, e50, q52⟩ := vSlice_ok hq
  obtain ⟨y54, e53, q55⟩ := vPtr_ok q52
  obtain ⟨y57, e56, q58⟩ := vPtr_ok q55
  obtain ⟨y60, e59, q61⟩ := vInt_ok q58
  obtain ⟨y63, e62, q64⟩ := vInt_ok q61
  exact ⟨y51b, y51n, y51c, y54, y57, y60, y63, ⟨e50, e53, e56, e59, e62, hd⟩, q64⟩
noncomputable def n9_c1 : Code := cFst n8_c2
def Q2 (Kn : T5) (Ke0 : T5) (Kr : T0) : XPost
  | .normal, g, h => D5 Kn g h
  | .ret, g, h => D0 Kr g h
  | .exit id, g, h => cond (Nat.beq id 0) (D5 Ke0 g h) (False)
  | _, _, _ => False
noncomputable def n10_c1 : Code := cFst n9_c1
def Q3 (Kn : T6) (Ke0 : T5) (Kr : T0) : XPost
  | .normal, g, h => D6 Kn g h
  | .ret, g, h => D0 Kr g h
  | .exit id, g, h => cond (Nat.beq id 0) (D5 Ke0 g h) (False)
  | _, _, _ => False
noncomputable def n11_c1 : Code := cFst n10_c1
noncomputable def n11_c2 : Code := cSnd n10_c1
noncomputable def n12_c1 : Code := cFst n11_c2
noncomputable def n12_c2 : Code := cSnd n11_c2
abbrev n13 (x0b : Option Addr) (x0n : Nat) (x0c : Nat) (x3 : Option Addr) (x4 : Option Addr) (x5 : Int) (x6 : Int) (Kn : T6) (Ke0 : T5) (Kr : T0) (h : H) : Prop :=
  Rng .i64 (x6 + (1 : Int)) ∧ (Kn x0b x0n x0c x3 x4 x5 (x6 + (1 : Int)) h)
theorem n13_ok (x0b : Option Addr) (x0n : Nat) (x0c : Nat) (x3 : Option Addr) (x4 : Option Addr) (x5 : Int) (x6 : Int) (Kn : T6) (Ke0 : T5) (Kr : T0) (g : Env) (hg : E6 g x0b x0n x0c x3 x4 x5 x6) (h : H) (hS : n13 x0b x0n x0c x3 x4 x5 x6 Kn Ke0 Kr h) : wpC none Try.prog 153 n12_c2 (Q3 Kn Ke0 Kr) g h := by
  obtain ⟨hg0, hg3, hg4, hg5, hg6, hds⟩ := hg
  refine wpC_of_wpx (by kernel_rfl) (by kernel_rfl) (g' := (((((⟨g.v, []⟩ : Env).upd (some 0) (.slice x0b x0n x0c)).upd (some 3) (.pointer x3)).upd (some 4) (.pointer x4)).upd (some 5) (.int .i64 x5)).upd (some 6) (.int .i64 x6)) (by rw [env_ds hds, upd_self hg0, upd_self hg3, upd_self hg4, upd_self hg5, upd_self hg6]) ?_
  have e : (n13 x0b x0n x0c x3 x4 x5 x6 Kn Ke0 Kr h) = wpx none Try.prog 153 n12_c2 (Q3 Kn Ke0 Kr) ((((((⟨g.v, []⟩ : Env).upd (some 0) (.slice x0b x0n x0c)).upd (some 3) (.pointer x3)).upd (some 4) (.pointer x4)).upd (some 5) (.int .i64 x5)).upd (some 6) (.int .i64 x6)) h := by kernel_rfl
  exact e ▸ hS
noncomputable def n14_c1 : Code := cFst n12_c1
def Q4 (Kn : T6) (Ke1 : T6) (Ke0 : T5) (Kr : T0) : XPost
  | .normal, g, h => D6 Kn g h
  | .ret, g, h => D0 Kr g h
  | .exit id, g, h => cond (Nat.beq id 1) (D6 Ke1 g h) (cond (Nat.beq id 0) (D5 Ke0 g h) (False))
  | _, _, _ => False
noncomputable def n15_c1 : Code := cFst n14_c1
noncomputable def n15_c2 : Code := cSnd n14_c1
abbrev T7 := (Option Addr) → Nat → Nat → (Option Addr) → (Option Addr) → Int → Int → Addr → H → Prop
def E7 (g : Env) (x0b : Option Addr) (x0n : Nat) (x0c : Nat) (x3 : Option Addr) (x4 : Option Addr) (x5 : Int) (x6 : Int) (x7 : Addr) : Prop := g.v 0 = (.slice x0b x0n x0c) ∧ g.v 3 = (.pointer x3) ∧ g.v 4 = (.pointer x4) ∧ g.v 5 = (.int .i64 x5) ∧ g.v 6 = (.int .i64 x6) ∧ g.v 7 = (.pointer (some x7)) ∧ g.ds = []
def D7 (K : T7) (g : Env) (h : H) : Prop := nilDs g.ds (vSlice (g.v 0) fun s65b s65n s65c => vPtr (g.v 3) fun p66 => vPtr (g.v 4) fun p67 => vInt .i64 (g.v 5) fun i68 => vInt .i64 (g.v 6) fun i69 => vAddr (g.v 7) fun a70 => K s65b s65n s65c p66 p67 i68 i69 a70 h)
theorem D7_ok {K : T7} {g : Env} {h : H} (hq : D7 K g h) : ∃ (x0b : Option Addr) (x0n : Nat) (x0c : Nat) (x3 : Option Addr) (x4 : Option Addr) (x5 : Int) (x6 : Int) (x7 : Addr), E7 g x0b x0n x0c x3 x4 x5 x6 x7 ∧ K x0b x0n x0c x3 x4 x5 x6 x7 h := by
  obtain ⟨hd, hq⟩ := nilDs_ok hq
  obtain ⟨y72b, y72n, y72c, e71, q73⟩ := vSlice_ok hq
  obtain ⟨y75, e74, q76⟩ := vPtr_ok q73
  obtain ⟨y78, e77, q79⟩ := vPtr_ok q76
  obtain ⟨y81, e80, q82⟩ := vInt_ok q79
  obtain ⟨y84, e83, q85⟩ := vInt_ok q82
  obtain ⟨y87, e86, q88⟩ := vAddr_ok q85
  exact ⟨y72b, y72n, y72c, y75, y78, y81, y84, y87, ⟨e71, e74, e77, e80, e83, e86, hd⟩, q88⟩
noncomputable def n16_c1 : Code := cFst n15_c2
noncomputable def n16_c2 : Code := cSnd n15_c2
noncomputable def n17_c1 : Code := cFst n16_c2
noncomputable def n17_c2 : Code := cSnd n16_c2
abbrev T8 := (Option Addr) → Nat → Nat → (Option Addr) → (Option Addr) → Int → Int → Bool → H → Prop
def E8 (g : Env) (x0b : Option Addr) (x0n : Nat) (x0c : Nat) (x3 : Option Addr) (x4 : Option Addr) (x5 : Int) (x6 : Int) (x8 : Bool) : Prop := g.v 0 = (.slice x0b x0n x0c) ∧ g.v 3 = (.pointer x3) ∧ g.v 4 = (.pointer x4) ∧ g.v 5 = (.int .i64 x5) ∧ g.v 6 = (.int .i64 x6) ∧ g.v 8 = (.bool x8) ∧ g.ds = []
def D8 (K : T8) (g : Env) (h : H) : Prop := nilDs g.ds (vSlice (g.v 0) fun s89b s89n s89c => vPtr (g.v 3) fun p90 => vPtr (g.v 4) fun p91 => vInt .i64 (g.v 5) fun i92 => vInt .i64 (g.v 6) fun i93 => vBool (g.v 8) fun b94 => K s89b s89n s89c p90 p91 i92 i93 b94 h)
theorem D8_ok {K : T8} {g : Env} {h : H} (hq : D8 K g h) : ∃ (x0b : Option Addr) (x0n : Nat) (x0c : Nat) (x3 : Option Addr) (x4 : Option Addr) (x5 : Int) (x6 : Int) (x8 : Bool), E8 g x0b x0n x0c x3 x4 x5 x6 x8 ∧ K x0b x0n x0c x3 x4 x5 x6 x8 h := by
  obtain ⟨hd, hq⟩ := nilDs_ok hq
  obtain ⟨y96b, y96n, y96c, e95, q97⟩ := vSlice_ok hq
  obtain ⟨y99, e98, q100⟩ := vPtr_ok q97
  obtain ⟨y102, e101, q103⟩ := vPtr_ok q100
  obtain ⟨y105, e104, q106⟩ := vInt_ok q103
  obtain ⟨y108, e107, q109⟩ := vInt_ok q106
  obtain ⟨y111, e110, q112⟩ := vBool_ok q109
  exact ⟨y96b, y96n, y96c, y99, y102, y105, y108, y111, ⟨e95, e98, e101, e104, e107, e110, hd⟩, q112⟩
abbrev n18 (x0b : Option Addr) (x0n : Nat) (x0c : Nat) (x3 : Option Addr) (x4 : Option Addr) (x5 : Int) (x6 : Int) (x8 : Bool) (Kn : T6) (Ke1 : T6) (Ke0 : T5) (Kr : T0) (h : H) : Prop :=
  cond x8 (Rng .i64 (x5 + (2 : Int)) ∧ (HCalls Try.prog 28 ⟨[(.pointer x3), (.pointer x4), (.int .i64 (x5 + (2 : Int)))]⟩ h fun v113 h114 => vBool v113 fun b115 => cond b115 (Kn x0b x0n x0c x3 x4 x5 x6 h114) (Kr false h114))) (Kr false h)
theorem n18_ok (x0b : Option Addr) (x0n : Nat) (x0c : Nat) (x3 : Option Addr) (x4 : Option Addr) (x5 : Int) (x6 : Int) (x8 : Bool) (Kn : T6) (Ke1 : T6) (Ke0 : T5) (Kr : T0) (g : Env) (hg : E8 g x0b x0n x0c x3 x4 x5 x6 x8) (h : H) (hS : n18 x0b x0n x0c x3 x4 x5 x6 x8 Kn Ke1 Ke0 Kr h) : wpC none Try.prog 153 n17_c2 (Q4 Kn Ke1 Ke0 Kr) g h := by
  obtain ⟨hg0, hg3, hg4, hg5, hg6, hg8, hds⟩ := hg
  refine wpC_of_wpx (by kernel_rfl) (by kernel_rfl) (g' := ((((((⟨g.v, []⟩ : Env).upd (some 0) (.slice x0b x0n x0c)).upd (some 3) (.pointer x3)).upd (some 4) (.pointer x4)).upd (some 5) (.int .i64 x5)).upd (some 6) (.int .i64 x6)).upd (some 8) (.bool x8)) (by rw [env_ds hds, upd_self hg0, upd_self hg3, upd_self hg4, upd_self hg5, upd_self hg6, upd_self hg8]) ?_
  have e : (n18 x0b x0n x0c x3 x4 x5 x6 x8 Kn Ke1 Ke0 Kr h) = wpx none Try.prog 153 n17_c2 (Q4 Kn Ke1 Ke0 Kr) (((((((⟨g.v, []⟩ : Env).upd (some 0) (.slice x0b x0n x0c)).upd (some 3) (.pointer x3)).upd (some 4) (.pointer x4)).upd (some 5) (.int .i64 x5)).upd (some 6) (.int .i64 x6)).upd (some 8) (.bool x8)) h := by kernel_rfl
  exact e ▸ hS
def Q5 (Kn : T8) (Ke1 : T6) (Ke0 : T5) (Kr : T0) : XPost
  | .normal, g, h => D8 Kn g h
  | .ret, g, h => D0 Kr g h
  | .exit id, g, h => cond (Nat.beq id 1) (D6 Ke1 g h) (cond (Nat.beq id 0) (D5 Ke0 g h) (False))
  | _, _, _ => False
noncomputable def n19_c1 : Code := cFst n17_c1
noncomputable def n19_c2 : Code := cSnd n17_c1
abbrev T9 := (Option Addr) → Nat → Nat → (Option Addr) → (Option Addr) → Int → Int → Addr → Int → H → Prop
def E9 (g : Env) (x0b : Option Addr) (x0n : Nat) (x0c : Nat) (x3 : Option Addr) (x4 : Option Addr) (x5 : Int) (x6 : Int) (x7 : Addr) (x35 : Int) : Prop := g.v 0 = (.slice x0b x0n x0c) ∧ g.v 3 = (.pointer x3) ∧ g.v 4 = (.pointer x4) ∧ g.v 5 = (.int .i64 x5) ∧ g.v 6 = (.int .i64 x6) ∧ g.v 7 = (.pointer (some x7)) ∧ g.v 35 = (.int .u8 x35) ∧ g.ds = []
def D9 (K : T9) (g : Env) (h : H) : Prop := nilDs g.ds (vSlice (g.v 0) fun s116b s116n s116c => vPtr (g.v 3) fun p117 => vPtr (g.v 4) fun p118 => vInt .i64 (g.v 5) fun i119 => vInt .i64 (g.v 6) fun i120 => vAddr (g.v 7) fun a121 => vInt .u8 (g.v 35) fun i122 => K s116b s116n s116c p117 p118 i119 i120 a121 i122 h)
theorem D9_ok {K : T9} {g : Env} {h : H} (hq : D9 K g h) : ∃ (x0b : Option Addr) (x0n : Nat) (x0c : Nat) (x3 : Option Addr) (x4 : Option Addr) (x5 : Int) (x6 : Int) (x7 : Addr) (x35 : Int), E9 g x0b x0n x0c x3 x4 x5 x6 x7 x35 ∧ K x0b x0n x0c x3 x4 x5 x6 x7 x35 h := by
  obtain ⟨hd, hq⟩ := nilDs_ok hq
  obtain ⟨y124b, y124n, y124c, e123, q125⟩ := vSlice_ok hq
  obtain ⟨y127, e126, q128⟩ := vPtr_ok q125
  obtain ⟨y130, e129, q131⟩ := vPtr_ok q128
  obtain ⟨y133, e132, q134⟩ := vInt_ok q131
  obtain ⟨y136, e135, q137⟩ := vInt_ok q134
  obtain ⟨y139, e138, q140⟩ := vAddr_ok q137
  obtain ⟨y142, e141, q143⟩ := vInt_ok q140
  exact ⟨y124b, y124n, y124c, y127, y130, y133, y136, y139, y142, ⟨e123, e126, e129, e132, e135, e138, e141, hd⟩, q143⟩
noncomputable def n20_c1 : Code := cFst n19_c2
def Q6 (Kn : T8) (Ke2 : T8) (Ke1 : T6) (Ke0 : T5) (Kr : T0) : XPost
  | .normal, g, h => D8 Kn g h
  | .ret, g, h => D0 Kr g h
  | .exit id, g, h => cond (Nat.beq id 2) (D8 Ke2 g h) (cond (Nat.beq id 1) (D6 Ke1 g h) (cond (Nat.beq id 0) (D5 Ke0 g h) (False)))
  | _, _, _ => False
noncomputable def n21_c1 : Code := cFst n20_c1
noncomputable def n21_c2 : Code := cSnd n20_c1
abbrev T10 := (Option Addr) → Nat → Nat → (Option Addr) → (Option Addr) → Int → Int → Addr → Int → Bool → H → Prop
def E10 (g : Env) (x0b : Option Addr) (x0n : Nat) (x0c : Nat) (x3 : Option Addr) (x4 : Option Addr) (x5 : Int) (x6 : Int) (x7 : Addr) (x35 : Int) (x57 : Bool) : Prop := g.v 0 = (.slice x0b x0n x0c) ∧ g.v 3 = (.pointer x3) ∧ g.v 4 = (.pointer x4) ∧ g.v 5 = (.int .i64 x5) ∧ g.v 6 = (.int .i64 x6) ∧ g.v 7 = (.pointer (some x7)) ∧ g.v 35 = (.int .u8 x35) ∧ g.v 57 = (.bool x57) ∧ g.ds = []
def D10 (K : T10) (g : Env) (h : H) : Prop := nilDs g.ds (vSlice (g.v 0) fun s144b s144n s144c => vPtr (g.v 3) fun p145 => vPtr (g.v 4) fun p146 => vInt .i64 (g.v 5) fun i147 => vInt .i64 (g.v 6) fun i148 => vAddr (g.v 7) fun a149 => vInt .u8 (g.v 35) fun i150 => vBool (g.v 57) fun b151 => K s144b s144n s144c p145 p146 i147 i148 a149 i150 b151 h)
theorem D10_ok {K : T10} {g : Env} {h : H} (hq : D10 K g h) : ∃ (x0b : Option Addr) (x0n : Nat) (x0c : Nat) (x3 : Option Addr) (x4 : Option Addr) (x5 : Int) (x6 : Int) (x7 : Addr) (x35 : Int) (x57 : Bool), E10 g x0b x0n x0c x3 x4 x5 x6 x7 x35 x57 ∧ K x0b x0n x0c x3 x4 x5 x6 x7 x35 x57 h := by
  obtain ⟨hd, hq⟩ := nilDs_ok hq
  obtain ⟨y153b, y153n, y153c, e152, q154⟩ := vSlice_ok hq
  obtain ⟨y156, e155, q157⟩ := vPtr_ok q154
  obtain ⟨y159, e158, q160⟩ := vPtr_ok q157
  obtain ⟨y162, e161, q163⟩ := vInt_ok q160
  obtain ⟨y165, e164, q166⟩ := vInt_ok q163
  obtain ⟨y168, e167, q169⟩ := vAddr_ok q166
  obtain ⟨y171, e170, q172⟩ := vInt_ok q169
  obtain ⟨y174, e173, q175⟩ := vBool_ok q172
  exact ⟨y153b, y153n, y153c, y156, y159, y162, y165, y168, y171, y174, ⟨e152, e155, e158, e161, e164, e167, e170, e173, hd⟩, q175⟩
noncomputable def n22_c1 : Code := cFst n21_c2
noncomputable def n22_c2 : Code := cSnd n21_c2
abbrev n23 (x0b : Option Addr) (x0n : Nat) (x0c : Nat) (x3 : Option Addr) (x4 : Option Addr) (x5 : Int) (x6 : Int) (x7 : Addr) (Kn : T8) (Ke2 : T8) (Ke1 : T6) (Ke0 : T5) (Kr : T0) (h : H) : Prop :=
  ∃ i176, cell h (((x7.add 1)).add 0) = some (.int .u8 i176) ∧ (∃ i177, cell h (((x7.add 1)).add 1) = some (.int .u8 i177) ∧ (∃ s178, cell h (((x7.add 1)).add 2) = some (S s178) ∧ (∃ s179b s179n s179c, cell h (((x7.add 1)).add 3) = some (.slice s179b s179n s179c) ∧ (∃ s180, cell h (((x7.add 1)).add 4) = some (S s180) ∧ (∃ s181b s181n s181c, cell h (((x7.add 1)).add 5) = some (.slice s181b s181n s181c) ∧ (newx h #[(.int .u8 i176), (.int .u8 i177), (S s178), (.slice s179b s179n s179c), (S s180), (.slice s181b s181n s181c)] 31 fun a182 h183 => HCalls Try.prog 13 ⟨[(.slice (some a182) 1 1)]⟩ h183 fun v184 h185 => vSlice v184 fun s186b s186n s186c => (0 ≤ (0 : Int) ∧ (0 : Int) < (s186n : Int)) ∧ (vSome s186b fun a187 => ∃ i188, cell h185 (((a187.add (Int.toNat (0 : Int) * 6))).add 0) = some (.int .u8 i188) ∧ (∃ i189, cell h185 (((a187.add (Int.toNat (0 : Int) * 6))).add 1) = some (.int .u8 i189) ∧ (∃ s190, cell h185 (((a187.add (Int.toNat (0 : Int) * 6))).add 2) = some (S s190) ∧ (∃ s191b s191n s191c, cell h185 (((a187.add (Int.toNat (0 : Int) * 6))).add 3) = some (.slice s191b s191n s191c) ∧ (∃ s192, cell h185 (((a187.add (Int.toNat (0 : Int) * 6))).add 4) = some (S s192) ∧ (∃ s193b s193n s193c, cell h185 (((a187.add (Int.toNat (0 : Int) * 6))).add 5) = some (.slice s193b s193n s193c) ∧ (HCalls Try.prog 10 ⟨[(.pointer x3), (.agg ⟨[(.int .u8 i188), (.int .u8 i189), (S s190), (.slice s191b s191n s191c), (S s192), (.slice s193b s193n s193c)]⟩)]⟩ h185 fun v194 h195 => vInt .i64 v194 fun i196 => ∃ i197, cell h195 (((x7.add 1)).add 0) = some (.int .u8 i197) ∧ (∃ i198, cell h195 (((x7.add 1)).add 1) = some (.int .u8 i198) ∧ (∃ s199, cell h195 (((x7.add 1)).add 2) = some (S s199) ∧ (∃ s200b s200n s200c, cell h195 (((x7.add 1)).add 3) = some (.slice s200b s200n s200c) ∧ (∃ s201, cell h195 (((x7.add 1)).add 4) = some (S s201) ∧ (∃ s202b s202n s202c, cell h195 (((x7.add 1)).add 5) = some (.slice s202b s202n s202c) ∧ (HCalls Try.prog 18 ⟨[(.pointer x4), (.agg ⟨[(.int .u8 i197), (.int .u8 i198), (S s199), (.slice s200b s200n s200c), (S s201), (.slice s202b s202n s202c)]⟩)]⟩ h195 fun v203 h204 => vInt .i64 v203 fun i205 => HCalls Try.prog 14 ⟨[(.slice s186b s186n s186c)]⟩ h204 fun v206 h207 => Spl (i196 = i205) (Kn x0b x0n x0c x3 x4 (if i205 > x5 then i205 else x5) x6 true h207) (Kn x0b x0n x0c x3 x4 (if i205 > x5 then i205 else x5) x6 false h207))))))))))))))))))))
theorem n23_ok (x0b : Option Addr) (x0n : Nat) (x0c : Nat) (x3 : Option Addr) (x4 : Option Addr) (x5 : Int) (x6 : Int) (x7 : Addr) (Kn : T8) (Ke2 : T8) (Ke1 : T6) (Ke0 : T5) (Kr : T0) (g : Env) (hg : E7 g x0b x0n x0c x3 x4 x5 x6 x7) (h : H) (hS : n23 x0b x0n x0c x3 x4 x5 x6 x7 Kn Ke2 Ke1 Ke0 Kr h) : wpC none Try.prog 153 n22_c1 (Q6 Kn Ke2 Ke1 Ke0 Kr) g h := by
  obtain ⟨hg0, hg3, hg4, hg5, hg6, hg7, hds⟩ := hg
  refine wpC_of_wpx (by kernel_rfl) (by kernel_rfl) (g' := ((((((⟨g.v, []⟩ : Env).upd (some 0) (.slice x0b x0n x0c)).upd (some 3) (.pointer x3)).upd (some 4) (.pointer x4)).upd (some 5) (.int .i64 x5)).upd (some 6) (.int .i64 x6)).upd (some 7) (.pointer (some x7))) (by rw [env_ds hds, upd_self hg0, upd_self hg3, upd_self hg4, upd_self hg5, upd_self hg6, upd_self hg7]) ?_
  have e : (n23 x0b x0n x0c x3 x4 x5 x6 x7 Kn Ke2 Ke1 Ke0 Kr h) = wpx none Try.prog 153 n22_c1 (Q6 Kn Ke2 Ke1 Ke0 Kr) (((((((⟨g.v, []⟩ : Env).upd (some 0) (.slice x0b x0n x0c)).upd (some 3) (.pointer x3)).upd (some 4) (.pointer x4)).upd (some 5) (.int .i64 x5)).upd (some 6) (.int .i64 x6)).upd (some 7) (.pointer (some x7))) h := by kernel_rfl
  exact e ▸ hS
noncomputable def n24_c1 : Code := cFst n22_c2
noncomputable def n24_c2 : Code := cSnd n22_c2
abbrev T11 := (Option Addr) → Nat → Nat → (Option Addr) → (Option Addr) → Int → Int → Addr → Int → Bool → H → Prop
def E11 (g : Env) (x0b : Option Addr) (x0n : Nat) (x0c : Nat) (x3 : Option Addr) (x4 : Option Addr) (x5 : Int) (x6 : Int) (x7 : Addr) (x35 : Int) (x81 : Bool) : Prop := g.v 0 = (.slice x0b x0n x0c) ∧ g.v 3 = (.pointer x3) ∧ g.v 4 = (.pointer x4) ∧ g.v 5 = (.int .i64 x5) ∧ g.v 6 = (.int .i64 x6) ∧ g.v 7 = (.pointer (some x7)) ∧ g.v 35 = (.int .u8 x35) ∧ g.v 81 = (.bool x81) ∧ g.ds = []
def D11 (K : T11) (g : Env) (h : H) : Prop := nilDs g.ds (vSlice (g.v 0) fun s208b s208n s208c => vPtr (g.v 3) fun p209 => vPtr (g.v 4) fun p210 => vInt .i64 (g.v 5) fun i211 => vInt .i64 (g.v 6) fun i212 => vAddr (g.v 7) fun a213 => vInt .u8 (g.v 35) fun i214 => vBool (g.v 81) fun b215 => K s208b s208n s208c p209 p210 i211 i212 a213 i214 b215 h)
theorem D11_ok {K : T11} {g : Env} {h : H} (hq : D11 K g h) : ∃ (x0b : Option Addr) (x0n : Nat) (x0c : Nat) (x3 : Option Addr) (x4 : Option Addr) (x5 : Int) (x6 : Int) (x7 : Addr) (x35 : Int) (x81 : Bool), E11 g x0b x0n x0c x3 x4 x5 x6 x7 x35 x81 ∧ K x0b x0n x0c x3 x4 x5 x6 x7 x35 x81 h := by
  obtain ⟨hd, hq⟩ := nilDs_ok hq
  obtain ⟨y217b, y217n, y217c, e216, q218⟩ := vSlice_ok hq
  obtain ⟨y220, e219, q221⟩ := vPtr_ok q218
  obtain ⟨y223, e222, q224⟩ := vPtr_ok q221
  obtain ⟨y226, e225, q227⟩ := vInt_ok q224
  obtain ⟨y229, e228, q230⟩ := vInt_ok q227
  obtain ⟨y232, e231, q233⟩ := vAddr_ok q230
  obtain ⟨y235, e234, q236⟩ := vInt_ok q233
  obtain ⟨y238, e237, q239⟩ := vBool_ok q236
  exact ⟨y217b, y217n, y217c, y220, y223, y226, y229, y232, y235, y238, ⟨e216, e219, e222, e225, e228, e231, e234, e237, hd⟩, q239⟩
noncomputable def n25_c1 : Code := cFst n24_c2
noncomputable def n25_c2 : Code := cSnd n24_c2
abbrev n26 (x0b : Option Addr) (x0n : Nat) (x0c : Nat) (x3 : Option Addr) (x4 : Option Addr) (x5 : Int) (x6 : Int) (x7 : Addr) (Kn : T8) (Ke2 : T8) (Ke1 : T6) (Ke0 : T5) (Kr : T0) (h : H) : Prop :=
  ∃ i240, cell h (x7.add 7) = some (.int .i64 i240) ∧ (HCalls Try.prog 19 ⟨[(.pointer x3), (.int .i64 i240)]⟩ h fun v241 h242 => vInt .i64 v241 fun i243 => ∃ i244, cell h242 (x7.add 7) = some (.int .i64 i244) ∧ (HCalls Try.prog 20 ⟨[(.pointer x4), (.int .i64 i244)]⟩ h242 fun v245 h246 => vInt .i64 v245 fun i247 => Spl (i243 = i247) (Kn x0b x0n x0c x3 x4 (if i247 > x5 then i247 else x5) x6 true h246) (Kn x0b x0n x0c x3 x4 (if i247 > x5 then i247 else x5) x6 false h246)))
theorem n26_ok (x0b : Option Addr) (x0n : Nat) (x0c : Nat) (x3 : Option Addr) (x4 : Option Addr) (x5 : Int) (x6 : Int) (x7 : Addr) (Kn : T8) (Ke2 : T8) (Ke1 : T6) (Ke0 : T5) (Kr : T0) (g : Env) (hg : E7 g x0b x0n x0c x3 x4 x5 x6 x7) (h : H) (hS : n26 x0b x0n x0c x3 x4 x5 x6 x7 Kn Ke2 Ke1 Ke0 Kr h) : wpC none Try.prog 153 n25_c1 (Q6 Kn Ke2 Ke1 Ke0 Kr) g h := by
  obtain ⟨hg0, hg3, hg4, hg5, hg6, hg7, hds⟩ := hg
  refine wpC_of_wpx (by kernel_rfl) (by kernel_rfl) (g' := ((((((⟨g.v, []⟩ : Env).upd (some 0) (.slice x0b x0n x0c)).upd (some 3) (.pointer x3)).upd (some 4) (.pointer x4)).upd (some 5) (.int .i64 x5)).upd (some 6) (.int .i64 x6)).upd (some 7) (.pointer (some x7))) (by rw [env_ds hds, upd_self hg0, upd_self hg3, upd_self hg4, upd_self hg5, upd_self hg6, upd_self hg7]) ?_
  have e : (n26 x0b x0n x0c x3 x4 x5 x6 x7 Kn Ke2 Ke1 Ke0 Kr h) = wpx none Try.prog 153 n25_c1 (Q6 Kn Ke2 Ke1 Ke0 Kr) (((((((⟨g.v, []⟩ : Env).upd (some 0) (.slice x0b x0n x0c)).upd (some 3) (.pointer x3)).upd (some 4) (.pointer x4)).upd (some 5) (.int .i64 x5)).upd (some 6) (.int .i64 x6)).upd (some 7) (.pointer (some x7))) h := by kernel_rfl
  exact e ▸ hS
noncomputable def n27_c1 : Code := cFst n25_c2
noncomputable def n27_c2 : Code := cSnd n25_c2
abbrev T12 := (Option Addr) → Nat → Nat → (Option Addr) → (Option Addr) → Int → Int → Addr → Int → Bool → H → Prop
def E12 (g : Env) (x0b : Option Addr) (x0n : Nat) (x0c : Nat) (x3 : Option Addr) (x4 : Option Addr) (x5 : Int) (x6 : Int) (x7 : Addr) (x35 : Int) (x97 : Bool) : Prop := g.v 0 = (.slice x0b x0n x0c) ∧ g.v 3 = (.pointer x3) ∧ g.v 4 = (.pointer x4) ∧ g.v 5 = (.int .i64 x5) ∧ g.v 6 = (.int .i64 x6) ∧ g.v 7 = (.pointer (some x7)) ∧ g.v 35 = (.int .u8 x35) ∧ g.v 97 = (.bool x97) ∧ g.ds = []
def D12 (K : T12) (g : Env) (h : H) : Prop := nilDs g.ds (vSlice (g.v 0) fun s248b s248n s248c => vPtr (g.v 3) fun p249 => vPtr (g.v 4) fun p250 => vInt .i64 (g.v 5) fun i251 => vInt .i64 (g.v 6) fun i252 => vAddr (g.v 7) fun a253 => vInt .u8 (g.v 35) fun i254 => vBool (g.v 97) fun b255 => K s248b s248n s248c p249 p250 i251 i252 a253 i254 b255 h)
theorem D12_ok {K : T12} {g : Env} {h : H} (hq : D12 K g h) : ∃ (x0b : Option Addr) (x0n : Nat) (x0c : Nat) (x3 : Option Addr) (x4 : Option Addr) (x5 : Int) (x6 : Int) (x7 : Addr) (x35 : Int) (x97 : Bool), E12 g x0b x0n x0c x3 x4 x5 x6 x7 x35 x97 ∧ K x0b x0n x0c x3 x4 x5 x6 x7 x35 x97 h := by
  obtain ⟨hd, hq⟩ := nilDs_ok hq
  obtain ⟨y257b, y257n, y257c, e256, q258⟩ := vSlice_ok hq
  obtain ⟨y260, e259, q261⟩ := vPtr_ok q258
  obtain ⟨y263, e262, q264⟩ := vPtr_ok q261
  obtain ⟨y266, e265, q267⟩ := vInt_ok q264
  obtain ⟨y269, e268, q270⟩ := vInt_ok q267
  obtain ⟨y272, e271, q273⟩ := vAddr_ok q270
  obtain ⟨y275, e274, q276⟩ := vInt_ok q273
  obtain ⟨y278, e277, q279⟩ := vBool_ok q276
  exact ⟨y257b, y257n, y257c, y260, y263, y266, y269, y272, y275, y278, ⟨e256, e259, e262, e265, e268, e271, e274, e277, hd⟩, q279⟩
noncomputable def n28_c1 : Code := cFst n27_c2
noncomputable def n28_c2 : Code := cSnd n27_c2
abbrev n29 (x0b : Option Addr) (x0n : Nat) (x0c : Nat) (x3 : Option Addr) (x4 : Option Addr) (x5 : Int) (x6 : Int) (x7 : Addr) (Kn : T8) (Ke2 : T8) (Ke1 : T6) (Ke0 : T5) (Kr : T0) (h : H) : Prop :=
  ∃ i280, cell h (x7.add 7) = some (.int .i64 i280) ∧ (∃ i281, cell h (x7.add 8) = some (.int .i64 i281) ∧ (∃ i282, cell h (x7.add 9) = some (.int .i64 i282) ∧ (∃ i283, cell h (x7.add 7) = some (.int .i64 i283) ∧ (∃ i284, cell h (x7.add 8) = some (.int .i64 i284) ∧ (∃ i285, cell h (x7.add 9) = some (.int .i64 i285) ∧ (HCalls Try.prog 11 ⟨[(.pointer x3), (.int .i64 i280), (.int .i64 i281), (.int .i64 i282)]⟩ h fun v286 h287 => vBool v286 fun b288 => cond b288 (ExtH h h287 ∧ (HCalls Try.prog 21 ⟨[(.pointer x4), (.int .i64 i283), (.int .i64 i284), (.int .i64 i285)]⟩ h287 fun v289 h290 => vBool v289 fun b291 => cond b291 (Kn x0b x0n x0c x3 x4 x5 x6 true h290) (Kn x0b x0n x0c x3 x4 x5 x6 false h290))) (ExtH h h287 ∧ (HCalls Try.prog 21 ⟨[(.pointer x4), (.int .i64 i283), (.int .i64 i284), (.int .i64 i285)]⟩ h287 fun v292 h293 => vBool v292 fun b294 => cond b294 (Kn x0b x0n x0c x3 x4 x5 x6 false h293) (Kn x0b x0n x0c x3 x4 x5 x6 true h293)))))))))
theorem n29_ok (x0b : Option Addr) (x0n : Nat) (x0c : Nat) (x3 : Option Addr) (x4 : Option Addr) (x5 : Int) (x6 : Int) (x7 : Addr) (Kn : T8) (Ke2 : T8) (Ke1 : T6) (Ke0 : T5) (Kr : T0) (g : Env) (hg : E7 g x0b x0n x0c x3 x4 x5 x6 x7) (h : H) (hS : n29 x0b x0n x0c x3 x4 x5 x6 x7 Kn Ke2 Ke1 Ke0 Kr h) : wpC none Try.prog 153 n28_c1 (Q6 Kn Ke2 Ke1 Ke0 Kr) g h := by
  obtain ⟨hg0, hg3, hg4, hg5, hg6, hg7, hds⟩ := hg
  refine wpC_of_wpx (by kernel_rfl) (by kernel_rfl) (g' := ((((((⟨g.v, []⟩ : Env).upd (some 0) (.slice x0b x0n x0c)).upd (some 3) (.pointer x3)).upd (some 4) (.pointer x4)).upd (some 5) (.int .i64 x5)).upd (some 6) (.int .i64 x6)).upd (some 7) (.pointer (some x7))) (by rw [env_ds hds, upd_self hg0, upd_self hg3, upd_self hg4, upd_self hg5, upd_self hg6, upd_self hg7]) ?_
  have e : (n29 x0b x0n x0c x3 x4 x5 x6 x7 Kn Ke2 Ke1 Ke0 Kr h) = wpx none Try.prog 153 n28_c1 (Q6 Kn Ke2 Ke1 Ke0 Kr) (((((((⟨g.v, []⟩ : Env).upd (some 0) (.slice x0b x0n x0c)).upd (some 3) (.pointer x3)).upd (some 4) (.pointer x4)).upd (some 5) (.int .i64 x5)).upd (some 6) (.int .i64 x6)).upd (some 7) (.pointer (some x7))) h := by kernel_rfl
  exact e ▸ hS
noncomputable def n30_c1 : Code := cFst n28_c2
noncomputable def n30_c2 : Code := cSnd n28_c2
abbrev T13 := (Option Addr) → Nat → Nat → (Option Addr) → (Option Addr) → Int → Int → Addr → Int → Bool → H → Prop
def E13 (g : Env) (x0b : Option Addr) (x0n : Nat) (x0c : Nat) (x3 : Option Addr) (x4 : Option Addr) (x5 : Int) (x6 : Int) (x7 : Addr) (x35 : Int) (x117 : Bool) : Prop := g.v 0 = (.slice x0b x0n x0c) ∧ g.v 3 = (.pointer x3) ∧ g.v 4 = (.pointer x4) ∧ g.v 5 = (.int .i64 x5) ∧ g.v 6 = (.int .i64 x6) ∧ g.v 7 = (.pointer (some x7)) ∧ g.v 35 = (.int .u8 x35) ∧ g.v 117 = (.bool x117) ∧ g.ds = []
def D13 (K : T13) (g : Env) (h : H) : Prop := nilDs g.ds (vSlice (g.v 0) fun s295b s295n s295c => vPtr (g.v 3) fun p296 => vPtr (g.v 4) fun p297 => vInt .i64 (g.v 5) fun i298 => vInt .i64 (g.v 6) fun i299 => vAddr (g.v 7) fun a300 => vInt .u8 (g.v 35) fun i301 => vBool (g.v 117) fun b302 => K s295b s295n s295c p296 p297 i298 i299 a300 i301 b302 h)
theorem D13_ok {K : T13} {g : Env} {h : H} (hq : D13 K g h) : ∃ (x0b : Option Addr) (x0n : Nat) (x0c : Nat) (x3 : Option Addr) (x4 : Option Addr) (x5 : Int) (x6 : Int) (x7 : Addr) (x35 : Int) (x117 : Bool), E13 g x0b x0n x0c x3 x4 x5 x6 x7 x35 x117 ∧ K x0b x0n x0c x3 x4 x5 x6 x7 x35 x117 h := by
  obtain ⟨hd, hq⟩ := nilDs_ok hq
  obtain ⟨y304b, y304n, y304c, e303, q305⟩ := vSlice_ok hq
  obtain ⟨y307, e306, q308⟩ := vPtr_ok q305
  obtain ⟨y310, e309, q311⟩ := vPtr_ok q308
  obtain ⟨y313, e312, q314⟩ := vInt_ok q311
  obtain ⟨y316, e315, q317⟩ := vInt_ok q314
  obtain ⟨y319, e318, q320⟩ := vAddr_ok q317
  obtain ⟨y322, e321, q323⟩ := vInt_ok q320
  obtain ⟨y325, e324, q326⟩ := vBool_ok q323
  exact ⟨y304b, y304n, y304c, y307, y310, y313, y316, y319, y322, y325, ⟨e303, e306, e309, e312, e315, e318, e321, e324, hd⟩, q326⟩
noncomputable def n31_c1 : Code := cFst n30_c2
noncomputable def n31_c2 : Code := cSnd n30_c2
abbrev n32 (x0b : Option Addr) (x0n : Nat) (x0c : Nat) (x3 : Option Addr) (x4 : Option Addr) (x5 : Int) (x6 : Int) (x7 : Addr) (Kn : T8) (Ke2 : T8) (Ke1 : T6) (Ke0 : T5) (Kr : T0) (h : H) : Prop :=
  ∃ i327, cell h (x7.add 7) = some (.int .i64 i327) ∧ (∃ i328, cell h (x7.add 7) = some (.int .i64 i328) ∧ (HCalls Try.prog 22 ⟨[(.pointer x3), (.int .i64 i327)]⟩ h fun v329 h330 => vBool v329 fun b331 => cond b331 (ExtH h h330 ∧ (HCalls Try.prog 23 ⟨[(.pointer x4), (.int .i64 i328)]⟩ h330 fun v332 h333 => vBool v332 fun b334 => cond b334 (Kn x0b x0n x0c x3 x4 x5 x6 true h333) (Kn x0b x0n x0c x3 x4 x5 x6 false h333))) (ExtH h h330 ∧ (HCalls Try.prog 23 ⟨[(.pointer x4), (.int .i64 i328)]⟩ h330 fun v335 h336 => vBool v335 fun b337 => cond b337 (Kn x0b x0n x0c x3 x4 x5 x6 false h336) (Kn x0b x0n x0c x3 x4 x5 x6 true h336)))))
theorem n32_ok (x0b : Option Addr) (x0n : Nat) (x0c : Nat) (x3 : Option Addr) (x4 : Option Addr) (x5 : Int) (x6 : Int) (x7 : Addr) (Kn : T8) (Ke2 : T8) (Ke1 : T6) (Ke0 : T5) (Kr : T0) (g : Env) (hg : E7 g x0b x0n x0c x3 x4 x5 x6 x7) (h : H) (hS : n32 x0b x0n x0c x3 x4 x5 x6 x7 Kn Ke2 Ke1 Ke0 Kr h) : wpC none Try.prog 153 n31_c1 (Q6 Kn Ke2 Ke1 Ke0 Kr) g h := by
  obtain ⟨hg0, hg3, hg4, hg5, hg6, hg7, hds⟩ := hg
  refine wpC_of_wpx (by kernel_rfl) (by kernel_rfl) (g' := ((((((⟨g.v, []⟩ : Env).upd (some 0) (.slice x0b x0n x0c)).upd (some 3) (.pointer x3)).upd (some 4) (.pointer x4)).upd (some 5) (.int .i64 x5)).upd (some 6) (.int .i64 x6)).upd (some 7) (.pointer (some x7))) (by rw [env_ds hds, upd_self hg0, upd_self hg3, upd_self hg4, upd_self hg5, upd_self hg6, upd_self hg7]) ?_
  have e : (n32 x0b x0n x0c x3 x4 x5 x6 x7 Kn Ke2 Ke1 Ke0 Kr h) = wpx none Try.prog 153 n31_c1 (Q6 Kn Ke2 Ke1 Ke0 Kr) (((((((⟨g.v, []⟩ : Env).upd (some 0) (.slice x0b x0n x0c)).upd (some 3) (.pointer x3)).upd (some 4) (.pointer x4)).upd (some 5) (.int .i64 x5)).upd (some 6) (.int .i64 x6)).upd (some 7) (.pointer (some x7))) h := by kernel_rfl
  exact e ▸ hS
noncomputable def n33_c1 : Code := cFst n31_c2
noncomputable def n33_c2 : Code := cSnd n31_c2
abbrev T14 := (Option Addr) → Nat → Nat → (Option Addr) → (Option Addr) → Int → Int → Addr → Bool → H → Prop
def E14 (g : Env) (x0b : Option Addr) (x0n : Nat) (x0c : Nat) (x3 : Option Addr) (x4 : Option Addr) (x5 : Int) (x6 : Int) (x7 : Addr) (x128 : Bool) : Prop := g.v 0 = (.slice x0b x0n x0c) ∧ g.v 3 = (.pointer x3) ∧ g.v 4 = (.pointer x4) ∧ g.v 5 = (.int .i64 x5) ∧ g.v 6 = (.int .i64 x6) ∧ g.v 7 = (.pointer (some x7)) ∧ g.v 128 = (.bool x128) ∧ g.ds = []
def D14 (K : T14) (g : Env) (h : H) : Prop := nilDs g.ds (vSlice (g.v 0) fun s338b s338n s338c => vPtr (g.v 3) fun p339 => vPtr (g.v 4) fun p340 => vInt .i64 (g.v 5) fun i341 => vInt .i64 (g.v 6) fun i342 => vAddr (g.v 7) fun a343 => vBool (g.v 128) fun b344 => K s338b s338n s338c p339 p340 i341 i342 a343 b344 h)
theorem D14_ok {K : T14} {g : Env} {h : H} (hq : D14 K g h) : ∃ (x0b : Option Addr) (x0n : Nat) (x0c : Nat) (x3 : Option Addr) (x4 : Option Addr) (x5 : Int) (x6 : Int) (x7 : Addr) (x128 : Bool), E14 g x0b x0n x0c x3 x4 x5 x6 x7 x128 ∧ K x0b x0n x0c x3 x4 x5 x6 x7 x128 h := by
  obtain ⟨hd, hq⟩ := nilDs_ok hq
  obtain ⟨y346b, y346n, y346c, e345, q347⟩ := vSlice_ok hq
  obtain ⟨y349, e348, q350⟩ := vPtr_ok q347
  obtain ⟨y352, e351, q353⟩ := vPtr_ok q350
  obtain ⟨y355, e354, q356⟩ := vInt_ok q353
  obtain ⟨y358, e357, q359⟩ := vInt_ok q356
  obtain ⟨y361, e360, q362⟩ := vAddr_ok q359
  obtain ⟨y364, e363, q365⟩ := vBool_ok q362
  exact ⟨y346b, y346n, y346c, y349, y352, y355, y358, y361, y364, ⟨e345, e348, e351, e354, e357, e360, e363, hd⟩, q365⟩
abbrev n34 (x0b : Option Addr) (x0n : Nat) (x0c : Nat) (x3 : Option Addr) (x4 : Option Addr) (x5 : Int) (x6 : Int) (x7 : Addr) (x128 : Bool) (Kn : T8) (Ke2 : T8) (Ke1 : T6) (Ke0 : T5) (Kr : T0) (h : H) : Prop :=
  cond x128 (∃ i366, cell h (x7.add 7) = some (.int .i64 i366) ∧ (∃ i367, cell h (x7.add 8) = some (.int .i64 i367) ∧ (∃ i368, cell h (x7.add 7) = some (.int .i64 i368) ∧ (∃ i369, cell h (x7.add 8) = some (.int .i64 i369) ∧ (HCalls Try.prog 24 ⟨[(.pointer x3), (.int .i64 i366), (.int .i64 i367)]⟩ h fun v370 h371 => vBool v370 fun b372 => cond b372 (ExtH h h371 ∧ (HCalls Try.prog 25 ⟨[(.pointer x4), (.int .i64 i368), (.int .i64 i369)]⟩ h371 fun v373 h374 => vBool v373 fun b375 => cond b375 (Kn x0b x0n x0c x3 x4 x5 x6 true h374) (Kn x0b x0n x0c x3 x4 x5 x6 false h374))) (ExtH h h371 ∧ (HCalls Try.prog 25 ⟨[(.pointer x4), (.int .i64 i368), (.int .i64 i369)]⟩ h371 fun v376 h377 => vBool v376 fun b378 => cond b378 (Kn x0b x0n x0c x3 x4 x5 x6 false h377) (Kn x0b x0n x0c x3 x4 x5 x6 true h377)))))))) (∃ i379, cell h (x7.add 7) = some (.int .i64 i379) ∧ (∃ i380, cell h (x7.add 8) = some (.int .i64 i380) ∧ (∃ s381, cell h ((x7.add 1).add 4) = some (S s381) ∧ (∃ i382, cell h (x7.add 7) = some (.int .i64 i382) ∧ (∃ i383, cell h (x7.add 8) = some (.int .i64 i383) ∧ (∃ s384, cell h ((x7.add 1).add 4) = some (S s384) ∧ (HCalls Try.prog 26 ⟨[(.pointer x3), (.int .i64 i379), (.int .i64 i380), (S s381)]⟩ h fun v385 h386 => vBool v385 fun b387 => cond b387 (ExtH h h386 ∧ (HCalls Try.prog 27 ⟨[(.pointer x4), (.int .i64 i382), (.int .i64 i383), (S s384)]⟩ h386 fun v388 h389 => vBool v388 fun b390 => cond b390 (Rng .i64 (x5 + (1 : Int)) ∧ (Kn x0b x0n x0c x3 x4 (x5 + (1 : Int)) x6 true h389)) (Rng .i64 (x5 + (1 : Int)) ∧ (Kn x0b x0n x0c x3 x4 (x5 + (1 : Int)) x6 false h389)))) (ExtH h h386 ∧ (HCalls Try.prog 27 ⟨[(.pointer x4), (.int .i64 i382), (.int .i64 i383), (S s384)]⟩ h386 fun v391 h392 => vBool v391 fun b393 => cond b393 (Rng .i64 (x5 + (1 : Int)) ∧ (Kn x0b x0n x0c x3 x4 (x5 + (1 : Int)) x6 false h392)) (Rng .i64 (x5 + (1 : Int)) ∧ (Kn x0b x0n x0c x3 x4 (x5 + (1 : Int)) x6 true h392)))))))))))
theorem n34_ok (x0b : Option Addr) (x0n : Nat) (x0c : Nat) (x3 : Option Addr) (x4 : Option Addr) (x5 : Int) (x6 : Int) (x7 : Addr) (x128 : Bool) (Kn : T8) (Ke2 : T8) (Ke1 : T6) (Ke0 : T5) (Kr : T0) (g : Env) (hg : E14 g x0b x0n x0c x3 x4 x5 x6 x7 x128) (h : H) (hS : n34 x0b x0n x0c x3 x4 x5 x6 x7 x128 Kn Ke2 Ke1 Ke0 Kr h) : wpC none Try.prog 153 n33_c2 (Q6 Kn Ke2 Ke1 Ke0 Kr) g h := by
  obtain ⟨hg0, hg3, hg4, hg5, hg6, hg7, hg128, hds⟩ := hg
  refine wpC_of_wpx (by kernel_rfl) (by kernel_rfl) (g' := (((((((⟨g.v, []⟩ : Env).upd (some 0) (.slice x0b x0n x0c)).upd (some 3) (.pointer x3)).upd (some 4) (.pointer x4)).upd (some 5) (.int .i64 x5)).upd (some 6) (.int .i64 x6)).upd (some 7) (.pointer (some x7))).upd (some 128) (.bool x128)) (by rw [env_ds hds, upd_self hg0, upd_self hg3, upd_self hg4, upd_self hg5, upd_self hg6, upd_self hg7, upd_self hg128]) ?_
  have e : (n34 x0b x0n x0c x3 x4 x5 x6 x7 x128 Kn Ke2 Ke1 Ke0 Kr h) = wpx none Try.prog 153 n33_c2 (Q6 Kn Ke2 Ke1 Ke0 Kr) ((((((((⟨g.v, []⟩ : Env).upd (some 0) (.slice x0b x0n x0c)).upd (some 3) (.pointer x3)).upd (some 4) (.pointer x4)).upd (some 5) (.int .i64 x5)).upd (some 6) (.int .i64 x6)).upd (some 7) (.pointer (some x7))).upd (some 128) (.bool x128)) h := by kernel_rfl
  exact e ▸ hS
def Q7 (Kn : T14) (Ke2 : T8) (Ke1 : T6) (Ke0 : T5) (Kr : T0) : XPost
  | .normal, g, h => D14 Kn g h
  | .ret, g, h => D0 Kr g h
  | .exit id, g, h => cond (Nat.beq id 2) (D8 Ke2 g h) (cond (Nat.beq id 1) (D6 Ke1 g h) (cond (Nat.beq id 0) (D5 Ke0 g h) (False)))
  | _, _, _ => False
abbrev n33 (x0b : Option Addr) (x0n : Nat) (x0c : Nat) (x3 : Option Addr) (x4 : Option Addr) (x5 : Int) (x6 : Int) (x7 : Addr) (x35 : Int) (Kn : T8) (Ke2 : T8) (Ke1 : T6) (Ke0 : T5) (Kr : T0) (h : H) : Prop :=
  Spl (x35 = (6 : Int)) (n34 x0b x0n x0c x3 x4 x5 x6 x7 true Kn Ke2 Ke1 Ke0 Kr h) (n34 x0b x0n x0c x3 x4 x5 x6 x7 false Kn Ke2 Ke1 Ke0 Kr h)
theorem n33_ok (x0b : Option Addr) (x0n : Nat) (x0c : Nat) (x3 : Option Addr) (x4 : Option Addr) (x5 : Int) (x6 : Int) (x7 : Addr) (x35 : Int) (Kn : T8) (Ke2 : T8) (Ke1 : T6) (Ke0 : T5) (Kr : T0) (g : Env) (hg : E9 g x0b x0n x0c x3 x4 x5 x6 x7 x35) (h : H) (hS : n33 x0b x0n x0c x3 x4 x5 x6 x7 x35 Kn Ke2 Ke1 Ke0 Kr h) : wpC none Try.prog 153 n31_c2 (Q6 Kn Ke2 Ke1 Ke0 Kr) g h := by
  obtain ⟨hg0, hg3, hg4, hg5, hg6, hg7, hg35, hds⟩ := hg
  refine wpC_seq' (x := n33_c1) (y := n33_c2) (Q' := (Q7 (fun z0b z0n z0c z3 z4 z5 z6 z7 z128 h => n34 z0b z0n z0c z3 z4 z5 z6 z7 z128 Kn Ke2 Ke1 Ke0 Kr h) Ke2 Ke1 Ke0 Kr)) (by kernel_rfl) ?_ ?_
  · refine wpC_of_wpx (by kernel_rfl) (by kernel_rfl) (g' := (((((((⟨g.v, []⟩ : Env).upd (some 0) (.slice x0b x0n x0c)).upd (some 3) (.pointer x3)).upd (some 4) (.pointer x4)).upd (some 5) (.int .i64 x5)).upd (some 6) (.int .i64 x6)).upd (some 7) (.pointer (some x7))).upd (some 35) (.int .u8 x35)) (by rw [env_ds hds, upd_self hg0, upd_self hg3, upd_self hg4, upd_self hg5, upd_self hg6, upd_self hg7, upd_self hg35]) ?_
    have e : (n33 x0b x0n x0c x3 x4 x5 x6 x7 x35 Kn Ke2 Ke1 Ke0 Kr h) = wpx none Try.prog 153 n33_c1 (Q7 (fun z0b z0n z0c z3 z4 z5 z6 z7 z128 h => n34 z0b z0n z0c z3 z4 z5 z6 z7 z128 Kn Ke2 Ke1 Ke0 Kr h) Ke2 Ke1 Ke0 Kr) ((((((((⟨g.v, []⟩ : Env).upd (some 0) (.slice x0b x0n x0c)).upd (some 3) (.pointer x3)).upd (some 4) (.pointer x4)).upd (some 5) (.int .i64 x5)).upd (some 6) (.int .i64 x6)).upd (some 7) (.pointer (some x7))).upd (some 35) (.int .u8 x35)) h := by kernel_rfl
    exact e ▸ hS
  · intro e g' h' hq
    cases e with
    | normal =>
      have hq : D14 (fun z0b z0n z0c z3 z4 z5 z6 z7 z128 h => n34 z0b z0n z0c z3 z4 z5 z6 z7 z128 Kn Ke2 Ke1 Ke0 Kr h) g' h' := hq
      obtain ⟨y0b, y0n, y0c, y3, y4, y5, y6, y7, y128, hg', hq⟩ := D14_ok hq
      exact n34_ok y0b y0n y0c y3 y4 y5 y6 y7 y128 Kn Ke2 Ke1 Ke0 Kr g' hg' h' hq
    | _ => exact hq
abbrev n31 (x0b : Option Addr) (x0n : Nat) (x0c : Nat) (x3 : Option Addr) (x4 : Option Addr) (x5 : Int) (x6 : Int) (x7 : Addr) (x35 : Int) (x117 : Bool) (Kn : T8) (Ke2 : T8) (Ke1 : T6) (Ke0 : T5) (Kr : T0) (h : H) : Prop := cond x117 (n32 x0b x0n x0c x3 x4 x5 x6 x7 Kn Ke2 Ke1 Ke0 Kr h) (n33 x0b x0n x0c x3 x4 x5 x6 x7 x35 Kn Ke2 Ke1 Ke0 Kr h)
theorem n31_ok (x0b : Option Addr) (x0n : Nat) (x0c : Nat) (x3 : Option Addr) (x4 : Option Addr) (x5 : Int) (x6 : Int) (x7 : Addr) (x35 : Int) (x117 : Bool) (Kn : T8) (Ke2 : T8) (Ke1 : T6) (Ke0 : T5) (Kr : T0) (g : Env) (hg : E13 g x0b x0n x0c x3 x4 x5 x6 x7 x35 x117) (h : H) (hS : n31 x0b x0n x0c x3 x4 x5 x6 x7 x35 x117 Kn Ke2 Ke1 Ke0 Kr h) : wpC none Try.prog 153 n30_c2 (Q6 Kn Ke2 Ke1 Ke0 Kr) g h := by
  obtain ⟨hg0, hg3, hg4, hg5, hg6, hg7, hg35, hg117, hds⟩ := hg
  have hx : evalE 153 g (.tmp 117) = .bool x117 := by
    show cond (Nat.blt 117 153) (g.v 117) undef = _
    rw [hg117]; rfl
  unfold n31 at hS
  refine wpC_cond' (o := .tmp 117) (x := n31_c1) (y := n31_c2) (by kernel_rfl) hx (fun hb => ?_) (fun hb => ?_)
  · subst hb
    exact n32_ok x0b x0n x0c x3 x4 x5 x6 x7 Kn Ke2 Ke1 Ke0 Kr g ⟨hg0, hg3, hg4, hg5, hg6, hg7, hds⟩ h hS
  · subst hb
    exact n33_ok x0b x0n x0c x3 x4 x5 x6 x7 x35 Kn Ke2 Ke1 Ke0 Kr g ⟨hg0, hg3, hg4, hg5, hg6, hg7, hg35, hds⟩ h hS
def Q8 (Kn : T13) (Ke2 : T8) (Ke1 : T6) (Ke0 : T5) (Kr : T0) : XPost
  | .normal, g, h => D13 Kn g h
  | .ret, g, h => D0 Kr g h
  | .exit id, g, h => cond (Nat.beq id 2) (D8 Ke2 g h) (cond (Nat.beq id 1) (D6 Ke1 g h) (cond (Nat.beq id 0) (D5 Ke0 g h) (False)))
  | _, _, _ => False
abbrev n30 (x0b : Option Addr) (x0n : Nat) (x0c : Nat) (x3 : Option Addr) (x4 : Option Addr) (x5 : Int) (x6 : Int) (x7 : Addr) (x35 : Int) (Kn : T8) (Ke2 : T8) (Ke1 : T6) (Ke0 : T5) (Kr : T0) (h : H) : Prop :=
  Spl (x35 = (5 : Int)) (n31 x0b x0n x0c x3 x4 x5 x6 x7 x35 true Kn Ke2 Ke1 Ke0 Kr h) (n31 x0b x0n x0c x3 x4 x5 x6 x7 x35 false Kn Ke2 Ke1 Ke0 Kr h)
theorem n30_ok (x0b : Option Addr) (x0n : Nat) (x0c : Nat) (x3 : Option Addr) (x4 : Option Addr) (x5 : Int) (x6 : Int) (x7 : Addr) (x35 : Int) (Kn : T8) (Ke2 : T8) (Ke1 : T6) (Ke0 : T5) (Kr : T0) (g : Env) (hg : E9 g x0b x0n x0c x3 x4 x5 x6 x7 x35) (h : H) (hS : n30 x0b x0n x0c x3 x4 x5 x6 x7 x35 Kn Ke2 Ke1 Ke0 Kr h) : wpC none Try.prog 153 n28_c2 (Q6 Kn Ke2 Ke1 Ke0 Kr) g h := by
  obtain ⟨hg0, hg3, hg4, hg5, hg6, hg7, hg35, hds⟩ := hg
  refine wpC_seq' (x := n30_c1) (y := n30_c2) (Q' := (Q8 (fun z0b z0n z0c z3 z4 z5 z6 z7 z35 z117 h => n31 z0b z0n z0c z3 z4 z5 z6 z7 z35 z117 Kn Ke2 Ke1 Ke0 Kr h) Ke2 Ke1 Ke0 Kr)) (by kernel_rfl) ?_ ?_
  · refine wpC_of_wpx (by kernel_rfl) (by kernel_rfl) (g' := (((((((⟨g.v, []⟩ : Env).upd (some 0) (.slice x0b x0n x0c)).upd (some 3) (.pointer x3)).upd (some 4) (.pointer x4)).upd (some 5) (.int .i64 x5)).upd (some 6) (.int .i64 x6)).upd (some 7) (.pointer (some x7))).upd (some 35) (.int .u8 x35)) (by rw [env_ds hds, upd_self hg0, upd_self hg3, upd_self hg4, upd_self hg5, upd_self hg6, upd_self hg7, upd_self hg35]) ?_
    have e : (n30 x0b x0n x0c x3 x4 x5 x6 x7 x35 Kn Ke2 Ke1 Ke0 Kr h) = wpx none Try.prog 153 n30_c1 (Q8 (fun z0b z0n z0c z3 z4 z5 z6 z7 z35 z117 h => n31 z0b z0n z0c z3 z4 z5 z6 z7 z35 z117 Kn Ke2 Ke1 Ke0 Kr h) Ke2 Ke1 Ke0 Kr) ((((((((⟨g.v, []⟩ : Env).upd (some 0) (.slice x0b x0n x0c)).upd (some 3) (.pointer x3)).upd (some 4) (.pointer x4)).upd (some 5) (.int .i64 x5)).upd (some 6) (.int .i64 x6)).upd (some 7) (.pointer (some x7))).upd (some 35) (.int .u8 x35)) h := by kernel_rfl
    exact e ▸ hS
  · intro e g' h' hq
    cases e with
    | normal =>
      have hq : D13 (fun z0b z0n z0c z3 z4 z5 z6 z7 z35 z117 h => n31 z0b z0n z0c z3 z4 z5 z6 z7 z35 z117 Kn Ke2 Ke1 Ke0 Kr h) g' h' := hq
      obtain ⟨y0b, y0n, y0c, y3, y4, y5, y6, y7, y35, y117, hg', hq⟩ := D13_ok hq
      exact n31_ok y0b y0n y0c y3 y4 y5 y6 y7 y35 y117 Kn Ke2 Ke1 Ke0 Kr g' hg' h' hq
    | _ => exact hq
abbrev n28 (x0b : Option Addr) (x0n : Nat) (x0c : Nat) (x3 : Option Addr) (x4 : Option Addr) (x5 : Int) (x6 : Int) (x7 : Addr) (x35 : Int) (x97 : Bool) (Kn : T8) (Ke2 : T8) (Ke1 : T6) (Ke0 : T5) (Kr : T0) (h : H) : Prop := cond x97 (n29 x0b x0n x0c x3 x4 x5 x6 x7 Kn Ke2 Ke1 Ke0 Kr h) (n30 x0b x0n x0c x3 x4 x5 x6 x7 x35 Kn Ke2 Ke1 Ke0 Kr h)
theorem n28_ok (x0b : Option Addr) (x0n : Nat) (x0c : Nat) (x3 : Option Addr) (x4 : Option Addr) (x5 : Int) (x6 : Int) (x7 : Addr) (x35 : Int) (x97 : Bool) (Kn : T8) (Ke2 : T8) (Ke1 : T6) (Ke0 : T5) (Kr : T0) (g : Env) (hg : E12 g x0b x0n x0c x3 x4 x5 x6 x7 x35 x97) (h : H) (hS : n28 x0b x0n x0c x3 x4 x5 x6 x7 x35 x97 Kn Ke2 Ke1 Ke0 Kr h) : wpC none Try.prog 153 n27_c2 (Q6 Kn Ke2 Ke1 Ke0 Kr) g h := by
  obtain ⟨hg0, hg3, hg4, hg5, hg6, hg7, hg35, hg97, hds⟩ := hg
  have hx : evalE 153 g (.tmp 97) = .bool x97 := by
    show cond (Nat.blt 97 153) (g.v 97) undef = _
    rw [hg97]; rfl
  unfold n28 at hS
  refine wpC_cond' (o := .tmp 97) (x := n28_c1) (y := n28_c2) (by kernel_rfl) hx (fun hb => ?_) (fun hb => ?_)
  · subst hb
    exact n29_ok x0b x0n x0c x3 x4 x5 x6 x7 Kn Ke2 Ke1 Ke0 Kr g ⟨hg0, hg3, hg4, hg5, hg6, hg7, hds⟩ h hS
  · subst hb
    exact n30_ok x0b x0n x0c x3 x4 x5 x6 x7 x35 Kn Ke2 Ke1 Ke0 Kr g ⟨hg0, hg3, hg4, hg5, hg6, hg7, hg35, hds⟩ h hS
def Q9 (Kn : T12) (Ke2 : T8) (Ke1 : T6) (Ke0 : T5) (Kr : T0) : XPost
  | .normal, g, h => D12 Kn g h
  | .ret, g, h => D0 Kr g h
  | .exit id, g, h => cond (Nat.beq id 2) (D8 Ke2 g h) (cond (Nat.beq id 1) (D6 Ke1 g h) (cond (Nat.beq id 0) (D5 Ke0 g h) (False)))
  | _, _, _ => False
abbrev n27 (x0b : Option Addr) (x0n : Nat) (x0c : Nat) (x3 : Option Addr) (x4 : Option Addr) (x5 : Int) (x6 : Int) (x7 : Addr) (x35 : Int) (Kn : T8) (Ke2 : T8) (Ke1 : T6) (Ke0 : T5) (Kr : T0) (h : H) : Prop :=
  Spl (x35 = (3 : Int)) (n28 x0b x0n x0c x3 x4 x5 x6 x7 x35 true Kn Ke2 Ke1 Ke0 Kr h) (Spl (x35 = (4 : Int)) (n28 x0b x0n x0c x3 x4 x5 x6 x7 x35 true Kn Ke2 Ke1 Ke0 Kr h) (n28 x0b x0n x0c x3 x4 x5 x6 x7 x35 false Kn Ke2 Ke1 Ke0 Kr h))
theorem n27_ok (x0b : Option Addr) (x0n : Nat) (x0c : Nat) (x3 : Option Addr) (x4 : Option Addr) (x5 : Int) (x6 : Int) (x7 : Addr) (x35 : Int) (Kn : T8) (Ke2 : T8) (Ke1 : T6) (Ke0 : T5) (Kr : T0) (g : Env) (hg : E9 g x0b x0n x0c x3 x4 x5 x6 x7 x35) (h : H) (hS : n27 x0b x0n x0c x3 x4 x5 x6 x7 x35 Kn Ke2 Ke1 Ke0 Kr h) : wpC none Try.prog 153 n25_c2 (Q6 Kn Ke2 Ke1 Ke0 Kr) g h := by
  obtain ⟨hg0, hg3, hg4, hg5, hg6, hg7, hg35, hds⟩ := hg
  refine wpC_seq' (x := n27_c1) (y := n27_c2) (Q' := (Q9 (fun z0b z0n z0c z3 z4 z5 z6 z7 z35 z97 h => n28 z0b z0n z0c z3 z4 z5 z6 z7 z35 z97 Kn Ke2 Ke1 Ke0 Kr h) Ke2 Ke1 Ke0 Kr)) (by kernel_rfl) ?_ ?_
  · refine wpC_of_wpx (by kernel_rfl) (by kernel_rfl) (g' := (((((((⟨g.v, []⟩ : Env).upd (some 0) (.slice x0b x0n x0c)).upd (some 3) (.pointer x3)).upd (some 4) (.pointer x4)).upd (some 5) (.int .i64 x5)).upd (some 6) (.int .i64 x6)).upd (some 7) (.pointer (some x7))).upd (some 35) (.int .u8 x35)) (by rw [env_ds hds, upd_self hg0, upd_self hg3, upd_self hg4, upd_self hg5, upd_self hg6, upd_self hg7, upd_self hg35]) ?_
    have e : (n27 x0b x0n x0c x3 x4 x5 x6 x7 x35 Kn Ke2 Ke1 Ke0 Kr h) = wpx none Try.prog 153 n27_c1 (Q9 (fun z0b z0n z0c z3 z4 z5 z6 z7 z35 z97 h => n28 z0b z0n z0c z3 z4 z5 z6 z7 z35 z97 Kn Ke2 Ke1 Ke0 Kr h) Ke2 Ke1 Ke0 Kr) ((((((((⟨g.v, []⟩ : Env).upd (some 0) (.slice x0b x0n x0c)).upd (some 3) (.pointer x3)).upd (some 4) (.pointer x4)).upd (some 5) (.int .i64 x5)).upd (some 6) (.int .i64 x6)).upd (some 7) (.pointer (some x7))).upd (some 35) (.int .u8 x35)) h := by kernel_rfl
    exact e ▸ hS
  · intro e g' h' hq
    cases e with
    | normal =>
      have hq : D12 (fun z0b z0n z0c z3 z4 z5 z6 z7 z35 z97 h => n28 z0b z0n z0c z3 z4 z5 z6 z7 z35 z97 Kn Ke2 Ke1 Ke0 Kr h) g' h' := hq
      obtain ⟨y0b, y0n, y0c, y3, y4, y5, y6, y7, y35, y97, hg', hq⟩ := D12_ok hq
      exact n28_ok y0b y0n y0c y3 y4 y5 y6 y7 y35 y97 Kn Ke2 Ke1 Ke0 Kr g' hg' h' hq
    | _ => exact hq
abbrev n25 (x0b : Option Addr) (x0n : Nat) (x0c : Nat) (x3 : Option Addr) (x4 : Option Addr) (x5 : Int) (x6 : Int) (x7 : Addr) (x35 : Int) (x81 : Bool) (Kn : T8) (Ke2 : T8) (Ke1 : T6) (Ke0 : T5) (Kr : T0) (h : H) : Prop := cond x81 (n26 x0b x0n x0c x3 x4 x5 x6 x7 Kn Ke2 Ke1 Ke0 Kr h) (n27 x0b x0n x0c x3 x4 x5 x6 x7 x35 Kn Ke2 Ke1 Ke0 Kr h)
theorem n25_ok (x0b : Option Addr) (x0n : Nat) (x0c : Nat) (x3 : Option Addr) (x4 : Option Addr) (x5 : Int) (x6 : Int) (x7 : Addr) (x35 : Int) (x81 : Bool) (Kn : T8) (Ke2 : T8) (Ke1 : T6) (Ke0 : T5) (Kr : T0) (g : Env) (hg : E11 g x0b x0n x0c x3 x4 x5 x6 x7 x35 x81) (h : H) (hS : n25 x0b x0n x0c x3 x4 x5 x6 x7 x35 x81 Kn Ke2 Ke1 Ke0 Kr h) : wpC none Try.prog 153 n24_c2 (Q6 Kn Ke2 Ke1 Ke0 Kr) g h := by
  obtain ⟨hg0, hg3, hg4, hg5, hg6, hg7, hg35, hg81, hds⟩ := hg
  have hx : evalE 153 g (.tmp 81) = .bool x81 := by
    show cond (Nat.blt 81 153) (g.v 81) undef = _
    rw [hg81]; rfl
  unfold n25 at hS
  refine wpC_cond' (o := .tmp 81) (x := n25_c1) (y := n25_c2) (by kernel_rfl) hx (fun hb => ?_) (fun hb => ?_)
  · subst hb
    exact n26_ok x0b x0n x0c x3 x4 x5 x6 x7 Kn Ke2 Ke1 Ke0 Kr g ⟨hg0, hg3, hg4, hg5, hg6, hg7, hds⟩ h hS
  · subst hb
    exact n27_ok x0b x0n x0c x3 x4 x5 x6 x7 x35 Kn Ke2 Ke1 Ke0 Kr g ⟨hg0, hg3, hg4, hg5, hg6, hg7, hg35, hds⟩ h hS
def Q10 (Kn : T11) (Ke2 : T8) (Ke1 : T6) (Ke0 : T5) (Kr : T0) : XPost
  | .normal, g, h => D11 Kn g h
  | .ret, g, h => D0 Kr g h
  | .exit id, g, h => cond (Nat.beq id 2) (D8 Ke2 g h) (cond (Nat.beq id 1) (D6 Ke1 g h) (cond (Nat.beq id 0) (D5 Ke0 g h) (False)))
  | _, _, _ => False
abbrev n24 (x0b : Option Addr) (x0n : Nat) (x0c : Nat) (x3 : Option Addr) (x4 : Option Addr) (x5 : Int) (x6 : Int) (x7 : Addr) (x35 : Int) (Kn : T8) (Ke2 : T8) (Ke1 : T6) (Ke0 : T5) (Kr : T0) (h : H) : Prop :=
  Spl (x35 = (2 : Int)) (n25 x0b x0n x0c x3 x4 x5 x6 x7 x35 true Kn Ke2 Ke1 Ke0 Kr h) (n25 x0b x0n x0c x3 x4 x5 x6 x7 x35 false Kn Ke2 Ke1 Ke0 Kr h)
theorem n24_ok (x0b : Option Addr) (x0n : Nat) (x0c : Nat) (x3 : Option Addr) (x4 : Option Addr) (x5 : Int) (x6 : Int) (x7 : Addr) (x35 : Int) (Kn : T8) (Ke2 : T8) (Ke1 : T6) (Ke0 : T5) (Kr : T0) (g : Env) (hg : E9 g x0b x0n x0c x3 x4 x5 x6 x7 x35) (h : H) (hS : n24 x0b x0n x0c x3 x4 x5 x6 x7 x35 Kn Ke2 Ke1 Ke0 Kr h) : wpC none Try.prog 153 n22_c2 (Q6 Kn Ke2 Ke1 Ke0 Kr) g h := by
  obtain ⟨hg0, hg3, hg4, hg5, hg6, hg7, hg35, hds⟩ := hg
  refine wpC_seq' (x := n24_c1) (y := n24_c2) (Q' := (Q10 (fun z0b z0n z0c z3 z4 z5 z6 z7 z35 z81 h => n25 z0b z0n z0c z3 z4 z5 z6 z7 z35 z81 Kn Ke2 Ke1 Ke0 Kr h) Ke2 Ke1 Ke0 Kr)) (by kernel_rfl) ?_ ?_
  · refine wpC_of_wpx (by kernel_rfl) (by kernel_rfl) (g' := (((((((⟨g.v, []⟩ : Env).upd (some 0) (.slice x0b x0n x0c)).upd (some 3) (.pointer x3)).upd (some 4) (.pointer x4)).upd (some 5) (.int .i64 x5)).upd (some 6) (.int .i64 x6)).upd (some 7) (.pointer (some x7))).upd (some 35) (.int .u8 x35)) (by rw [env_ds hds, upd_self hg0, upd_self hg3, upd_self hg4, upd_self hg5, upd_self hg6, upd_self hg7, upd_self hg35]) ?_
    have e : (n24 x0b x0n x0c x3 x4 x5 x6 x7 x35 Kn Ke2 Ke1 Ke0 Kr h) = wpx none Try.prog 153 n24_c1 (Q10 (fun z0b z0n z0c z3 z4 z5 z6 z7 z35 z81 h => n25 z0b z0n z0c z3 z4 z5 z6 z7 z35 z81 Kn Ke2 Ke1 Ke0 Kr h) Ke2 Ke1 Ke0 Kr) ((((((((⟨g.v, []⟩ : Env).upd (some 0) (.slice x0b x0n x0c)).upd (some 3) (.pointer x3)).upd (some 4) (.pointer x4)).upd (some 5) (.int .i64 x5)).upd (some 6) (.int .i64 x6)).upd (some 7) (.pointer (some x7))).upd (some 35) (.int .u8 x35)) h := by kernel_rfl
    exact e ▸ hS
  · intro e g' h' hq
    cases e with
    | normal =>
      have hq : D11 (fun z0b z0n z0c z3 z4 z5 z6 z7 z35 z81 h => n25 z0b z0n z0c z3 z4 z5 z6 z7 z35 z81 Kn Ke2 Ke1 Ke0 Kr h) g' h' := hq
      obtain ⟨y0b, y0n, y0c, y3, y4, y5, y6, y7, y35, y81, hg', hq⟩ := D11_ok hq
      exact n25_ok y0b y0n y0c y3 y4 y5 y6 y7 y35 y81 Kn Ke2 Ke1 Ke0 Kr g' hg' h' hq
    | _ => exact hq
abbrev n22 (x0b : Option Addr) (x0n : Nat) (x0c : Nat) (x3 : Option Addr) (x4 : Option Addr) (x5 : Int) (x6 : Int) (x7 : Addr) (x35 : Int) (x57 : Bool) (Kn : T8) (Ke2 : T8) (Ke1 : T6) (Ke0 : T5) (Kr : T0) (h : H) : Prop := cond x57 (n23 x0b x0n x0c x3 x4 x5 x6 x7 Kn Ke2 Ke1 Ke0 Kr h) (n24 x0b x0n x0c x3 x4 x5 x6 x7 x35 Kn Ke2 Ke1 Ke0 Kr h)
theorem n22_ok (x0b : Option Addr) (x0n : Nat) (x0c : Nat) (x3 : Option Addr) (x4 : Option Addr) (x5 : Int) (x6 : Int) (x7 : Addr) (x35 : Int) (x57 : Bool) (Kn : T8) (Ke2 : T8) (Ke1 : T6) (Ke0 : T5) (Kr : T0) (g : Env) (hg : E10 g x0b x0n x0c x3 x4 x5 x6 x7 x35 x57) (h : H) (hS : n22 x0b x0n x0c x3 x4 x5 x6 x7 x35 x57 Kn Ke2 Ke1 Ke0 Kr h) : wpC none Try.prog 153 n21_c2 (Q6 Kn Ke2 Ke1 Ke0 Kr) g h := by
  obtain ⟨hg0, hg3, hg4, hg5, hg6, hg7, hg35, hg57, hds⟩ := hg
  have hx : evalE 153 g (.tmp 57) = .bool x57 := by
    show cond (Nat.blt 57 153) (g.v 57) undef = _
    rw [hg57]; rfl
  unfold n22 at hS
  refine wpC_cond' (o := .tmp 57) (x := n22_c1) (y := n22_c2) (by kernel_rfl) hx (fun hb => ?_) (fun hb => ?_)
  · subst hb
    exact n23_ok x0b x0n x0c x3 x4 x5 x6 x7 Kn Ke2 Ke1 Ke0 Kr g ⟨hg0, hg3, hg4, hg5, hg6, hg7, hds⟩ h hS
  · subst hb
    exact n24_ok x0b x0n x0c x3 x4 x5 x6 x7 x35 Kn Ke2 Ke1 Ke0 Kr g ⟨hg0, hg3, hg4, hg5, hg6, hg7, hg35, hds⟩ h hS
def Q11 (Kn : T10) (Ke2 : T8) (Ke1 : T6) (Ke0 : T5) (Kr : T0) : XPost
  | .normal, g, h => D10 Kn g h
  | .ret, g, h => D0 Kr g h
  | .exit id, g, h => cond (Nat.beq id 2) (D8 Ke2 g h) (cond (Nat.beq id 1) (D6 Ke1 g h) (cond (Nat.beq id 0) (D5 Ke0 g h) (False)))
  | _, _, _ => False
abbrev n21 (x0b : Option Addr) (x0n : Nat) (x0c : Nat) (x3 : Option Addr) (x4 : Option Addr) (x5 : Int) (x6 : Int) (x7 : Addr) (x35 : Int) (Kn : T8) (Ke2 : T8) (Ke1 : T6) (Ke0 : T5) (Kr : T0) (h : H) : Prop :=
  Spl (x35 = (0 : Int)) (n22 x0b x0n x0c x3 x4 x5 x6 x7 x35 true Kn Ke2 Ke1 Ke0 Kr h) (Spl (x35 = (1 : Int)) (n22 x0b x0n x0c x3 x4 x5 x6 x7 x35 true Kn Ke2 Ke1 Ke0 Kr h) (n22 x0b x0n x0c x3 x4 x5 x6 x7 x35 false Kn Ke2 Ke1 Ke0 Kr h))
theorem n21_ok (x0b : Option Addr) (x0n : Nat) (x0c : Nat) (x3 : Option Addr) (x4 : Option Addr) (x5 : Int) (x6 : Int) (x7 : Addr) (x35 : Int) (Kn : T8) (Ke2 : T8) (Ke1 : T6) (Ke0 : T5) (Kr : T0) (g : Env) (hg : E9 g x0b x0n x0c x3 x4 x5 x6 x7 x35) (h : H) (hS : n21 x0b x0n x0c x3 x4 x5 x6 x7 x35 Kn Ke2 Ke1 Ke0 Kr h) : wpC none Try.prog 153 n20_c1 (Q6 Kn Ke2 Ke1 Ke0 Kr) g h := by
  obtain ⟨hg0, hg3, hg4, hg5, hg6, hg7, hg35, hds⟩ := hg
  refine wpC_seq' (x := n21_c1) (y := n21_c2) (Q' := (Q11 (fun z0b z0n z0c z3 z4 z5 z6 z7 z35 z57 h => n22 z0b z0n z0c z3 z4 z5 z6 z7 z35 z57 Kn Ke2 Ke1 Ke0 Kr h) Ke2 Ke1 Ke0 Kr)) (by kernel_rfl) ?_ ?_
  · refine wpC_of_wpx (by kernel_rfl) (by kernel_rfl) (g' := (((((((⟨g.v, []⟩ : Env).upd (some 0) (.slice x0b x0n x0c)).upd (some 3) (.pointer x3)).upd (some 4) (.pointer x4)).upd (some 5) (.int .i64 x5)).upd (some 6) (.int .i64 x6)).upd (some 7) (.pointer (some x7))).upd (some 35) (.int .u8 x35)) (by rw [env_ds hds, upd_self hg0, upd_self hg3, upd_self hg4, upd_self hg5, upd_self hg6, upd_self hg7, upd_self hg35]) ?_
    have e : (n21 x0b x0n x0c x3 x4 x5 x6 x7 x35 Kn Ke2 Ke1 Ke0 Kr h) = wpx none Try.prog 153 n21_c1 (Q11 (fun z0b z0n z0c z3 z4 z5 z6 z7 z35 z57 h => n22 z0b z0n z0c z3 z4 z5 z6 z7 z35 z57 Kn Ke2 Ke1 Ke0 Kr h) Ke2 Ke1 Ke0 Kr) ((((((((⟨g.v, []⟩ : Env).upd (some 0) (.slice x0b x0n x0c)).upd (some 3) (.pointer x3)).upd (some 4) (.pointer x4)).upd (some 5) (.int .i64 x5)).upd (some 6) (.int .i64 x6)).upd (some 7) (.pointer (some x7))).upd (some 35) (.int .u8 x35)) h := by kernel_rfl
    exact e ▸ hS
  · intro e g' h' hq
    cases e with
    | normal =>
      have hq : D10 (fun z0b z0n z0c z3 z4 z5 z6 z7 z35 z57 h => n22 z0b z0n z0c z3 z4 z5 z6 z7 z35 z57 Kn Ke2 Ke1 Ke0 Kr h) g' h' := hq
      obtain ⟨y0b, y0n, y0c, y3, y4, y5, y6, y7, y35, y57, hg', hq⟩ := D10_ok hq
      exact n22_ok y0b y0n y0c y3 y4 y5 y6 y7 y35 y57 Kn Ke2 Ke1 Ke0 Kr g' hg' h' hq
    | _ => exact hq
abbrev n20 (x0b : Option Addr) (x0n : Nat) (x0c : Nat) (x3 : Option Addr) (x4 : Option Addr) (x5 : Int) (x6 : Int) (x7 : Addr) (x35 : Int) (Kn : T8) (Ke1 : T6) (Ke0 : T5) (Kr : T0) (h : H) : Prop := n21 x0b x0n x0c x3 x4 x5 x6 x7 x35 Kn Kn Ke1 Ke0 Kr h
theorem n20_ok (x0b : Option Addr) (x0n : Nat) (x0c : Nat) (x3 : Option Addr) (x4 : Option Addr) (x5 : Int) (x6 : Int) (x7 : Addr) (x35 : Int) (Kn : T8) (Ke1 : T6) (Ke0 : T5) (Kr : T0) (g : Env) (hg : E9 g x0b x0n x0c x3 x4 x5 x6 x7 x35) (h : H) (hS : n20 x0b x0n x0c x3 x4 x5 x6 x7 x35 Kn Ke1 Ke0 Kr h) : wpC none Try.prog 153 n19_c2 (Q5 Kn Ke1 Ke0 Kr) g h := by
  refine wpC_block' (id := 2) (x := n20_c1) (by kernel_rfl) (n21_ok x0b x0n x0c x3 x4 x5 x6 x7 x35 Kn Kn Ke1 Ke0 Kr g hg h hS) ?_
  intro e g' h' hq
  cases e <;> exact hq
def Q12 (Kn : T9) (Ke1 : T6) (Ke0 : T5) (Kr : T0) : XPost
  | .normal, g, h => D9 Kn g h
  | .ret, g, h => D0 Kr g h
  | .exit id, g, h => cond (Nat.beq id 1) (D6 Ke1 g h) (cond (Nat.beq id 0) (D5 Ke0 g h) (False))
  | _, _, _ => False
abbrev n19 (x0b : Option Addr) (x0n : Nat) (x0c : Nat) (x3 : Option Addr) (x4 : Option Addr) (x5 : Int) (x6 : Int) (x7 : Addr) (Kn : T8) (Ke1 : T6) (Ke0 : T5) (Kr : T0) (h : H) : Prop :=
  ∃ i394, cell h (x7.add 0) = some (.int .u8 i394) ∧ ((8 : Int) ≠ 0 ∧ (n20 x0b x0n x0c x3 x4 x5 x6 x7 (Int.tmod i394 (8 : Int)) Kn Ke1 Ke0 Kr h))
theorem n19_ok (x0b : Option Addr) (x0n : Nat) (x0c : Nat) (x3 : Option Addr) (x4 : Option Addr) (x5 : Int) (x6 : Int) (x7 : Addr) (Kn : T8) (Ke1 : T6) (Ke0 : T5) (Kr : T0) (g : Env) (hg : E7 g x0b x0n x0c x3 x4 x5 x6 x7) (h : H) (hS : n19 x0b x0n x0c x3 x4 x5 x6 x7 Kn Ke1 Ke0 Kr h) : wpC none Try.prog 153 n17_c1 (Q5 Kn Ke1 Ke0 Kr) g h := by
  obtain ⟨hg0, hg3, hg4, hg5, hg6, hg7, hds⟩ := hg
  refine wpC_seq' (x := n19_c1) (y := n19_c2) (Q' := (Q12 (fun z0b z0n z0c z3 z4 z5 z6 z7 z35 h => n20 z0b z0n z0c z3 z4 z5 z6 z7 z35 Kn Ke1 Ke0 Kr h) Ke1 Ke0 Kr)) (by kernel_rfl) ?_ ?_
  · refine wpC_of_wpx (by kernel_rfl) (by kernel_rfl) (g' := ((((((⟨g.v, []⟩ : Env).upd (some 0) (.slice x0b x0n x0c)).upd (some 3) (.pointer x3)).upd (some 4) (.pointer x4)).upd (some 5) (.int .i64 x5)).upd (some 6) (.int .i64 x6)).upd (some 7) (.pointer (some x7))) (by rw [env_ds hds, upd_self hg0, upd_self hg3, upd_self hg4, upd_self hg5, upd_self hg6, upd_self hg7]) ?_
    have e : (n19 x0b x0n x0c x3 x4 x5 x6 x7 Kn Ke1 Ke0 Kr h) = wpx none Try.prog 153 n19_c1 (Q12 (fun z0b z0n z0c z3 z4 z5 z6 z7 z35 h => n20 z0b z0n z0c z3 z4 z5 z6 z7 z35 Kn Ke1 Ke0 Kr h) Ke1 Ke0 Kr) (((((((⟨g.v, []⟩ : Env).upd (some 0) (.slice x0b x0n x0c)).upd (some 3) (.pointer x3)).upd (some 4) (.pointer x4)).upd (some 5) (.int .i64 x5)).upd (some 6) (.int .i64 x6)).upd (some 7) (.pointer (some x7))) h := by kernel_rfl
    exact e ▸ hS
  · intro e g' h' hq
    cases e with
    | normal =>
      have hq : D9 (fun z0b z0n z0c z3 z4 z5 z6 z7 z35 h => n20 z0b z0n z0c z3 z4 z5 z6 z7 z35 Kn Ke1 Ke0 Kr h) g' h' := hq
      obtain ⟨y0b, y0n, y0c, y3, y4, y5, y6, y7, y35, hg', hq⟩ := D9_ok hq
      exact n20_ok y0b y0n y0c y3 y4 y5 y6 y7 y35 Kn Ke1 Ke0 Kr g' hg' h' hq
    | _ => exact hq
abbrev n17 (x0b : Option Addr) (x0n : Nat) (x0c : Nat) (x3 : Option Addr) (x4 : Option Addr) (x5 : Int) (x6 : Int) (x7 : Addr) (Kn : T6) (Ke1 : T6) (Ke0 : T5) (Kr : T0) (h : H) : Prop := n19 x0b x0n x0c x3 x4 x5 x6 x7 (fun z0b z0n z0c z3 z4 z5 z6 z8 h => n18 z0b z0n z0c z3 z4 z5 z6 z8 Kn Ke1 Ke0 Kr h) Ke1 Ke0 Kr h
theorem n17_ok (x0b : Option Addr) (x0n : Nat) (x0c : Nat) (x3 : Option Addr) (x4 : Option Addr) (x5 : Int) (x6 : Int) (x7 : Addr) (Kn : T6) (Ke1 : T6) (Ke0 : T5) (Kr : T0) (g : Env) (hg : E7 g x0b x0n x0c x3 x4 x5 x6 x7) (h : H) (hS : n17 x0b x0n x0c x3 x4 x5 x6 x7 Kn Ke1 Ke0 Kr h) : wpC none Try.prog 153 n16_c2 (Q4 Kn Ke1 Ke0 Kr) g h := by
  refine wpC_seq' (x := n17_c1) (y := n17_c2) (by kernel_rfl) (n19_ok x0b x0n x0c x3 x4 x5 x6 x7 (fun z0b z0n z0c z3 z4 z5 z6 z8 h => n18 z0b z0n z0c z3 z4 z5 z6 z8 Kn Ke1 Ke0 Kr h) Ke1 Ke0 Kr g hg h hS) ?_
  intro e g' h' hq
  cases e with
  | normal =>
    have hq : D8 (fun z0b z0n z0c z3 z4 z5 z6 z8 h => n18 z0b z0n z0c z3 z4 z5 z6 z8 Kn Ke1 Ke0 Kr h) g' h' := hq
    obtain ⟨y0b, y0n, y0c, y3, y4, y5, y6, y8, hg', hq⟩ := D8_ok hq
    exact n18_ok y0b y0n y0c y3 y4 y5 y6 y8 Kn Ke1 Ke0 Kr g' hg' h' hq
  | _ => exact hq
def Q13 (Kn : T7) (Ke1 : T6) (Ke0 : T5) (Kr : T0) : XPost
  | .normal, g, h => D7 Kn g h
  | .ret, g, h => D0 Kr g h
  | .exit id, g, h => cond (Nat.beq id 1) (D6 Ke1 g h) (cond (Nat.beq id 0) (D5 Ke0 g h) (False))
  | _, _, _ => False
abbrev n16 (x0b : Option Addr) (x0n : Nat) (x0c : Nat) (x3 : Option Addr) (x4 : Option Addr) (x5 : Int) (x6 : Int) (x7 : Addr) (Kn : T6) (Ke1 : T6) (Ke0 : T5) (Kr : T0) (h : H) : Prop :=
  n17 x0b x0n x0c x3 x4 x5 x6 x7 Kn Ke1 Ke0 Kr h
theorem n16_ok (x0b : Option Addr) (x0n : Nat) (x0c : Nat) (x3 : Option Addr) (x4 : Option Addr) (x5 : Int) (x6 : Int) (x7 : Addr) (Kn : T6) (Ke1 : T6) (Ke0 : T5) (Kr : T0) (g : Env) (hg : E7 g x0b x0n x0c x3 x4 x5 x6 x7) (h : H) (hS : n16 x0b x0n x0c x3 x4 x5 x6 x7 Kn Ke1 Ke0 Kr h) : wpC none Try.prog 153 n15_c2 (Q4 Kn Ke1 Ke0 Kr) g h := by
  obtain ⟨hg0, hg3, hg4, hg5, hg6, hg7, hds⟩ := hg
  refine wpC_seq' (x := n16_c1) (y := n16_c2) (Q' := (Q13 (fun z0b z0n z0c z3 z4 z5 z6 z7 h => n17 z0b z0n z0c z3 z4 z5 z6 z7 Kn Ke1 Ke0 Kr h) Ke1 Ke0 Kr)) (by kernel_rfl) ?_ ?_
  · refine wpC_of_wpx (by kernel_rfl) (by kernel_rfl) (g' := ((((((⟨g.v, []⟩ : Env).upd (some 0) (.slice x0b x0n x0c)).upd (some 3) (.pointer x3)).upd (some 4) (.pointer x4)).upd (some 5) (.int .i64 x5)).upd (some 6) (.int .i64 x6)).upd (some 7) (.pointer (some x7))) (by rw [env_ds hds, upd_self hg0, upd_self hg3, upd_self hg4, upd_self hg5, upd_self hg6, upd_self hg7]) ?_
    have e : (n16 x0b x0n x0c x3 x4 x5 x6 x7 Kn Ke1 Ke0 Kr h) = wpx none Try.prog 153 n16_c1 (Q13 (fun z0b z0n z0c z3 z4 z5 z6 z7 h => n17 z0b z0n z0c z3 z4 z5 z6 z7 Kn Ke1 Ke0 Kr h) Ke1 Ke0 Kr) (((((((⟨g.v, []⟩ : Env).upd (some 0) (.slice x0b x0n x0c)).upd (some 3) (.pointer x3)).upd (some 4) (.pointer x4)).upd (some 5) (.int .i64 x5)).upd (some 6) (.int .i64 x6)).upd (some 7) (.pointer (some x7))) h := by kernel_rfl
    exact e ▸ hS
  · intro e g' h' hq
    cases e with
    | normal =>
      have hq : D7 (fun z0b z0n z0c z3 z4 z5 z6 z7 h => n17 z0b z0n z0c z3 z4 z5 z6 z7 Kn Ke1 Ke0 Kr h) g' h' := hq
      obtain ⟨y0b, y0n, y0c, y3, y4, y5, y6, y7, hg', hq⟩ := D7_ok hq
      exact n17_ok y0b y0n y0c y3 y4 y5 y6 y7 Kn Ke1 Ke0 Kr g' hg' h' hq
    | _ => exact hq
abbrev n15 (x0b : Option Addr) (x0n : Nat) (x0c : Nat) (x3 : Option Addr) (x4 : Option Addr) (x5 : Int) (x6 : Int) (Kn : T6) (Ke1 : T6) (Ke0 : T5) (Kr : T0) (h : H) : Prop :=
  (0 ≤ x6 ∧ x6 < (x0n : Int)) ∧ (vSome x0b fun a395 => ∃ i396, cell h (((a395.add (Int.toNat x6 * 10))).add 0) = some (.int .u8 i396) ∧ (∃ i397, cell h (((a395.add (Int.toNat x6 * 10))).add 1) = some (.int .u8 i397) ∧ (∃ i398, cell h (((a395.add (Int.toNat x6 * 10))).add 2) = some (.int .u8 i398) ∧ (∃ s399, cell h (((a395.add (Int.toNat x6 * 10))).add 3) = some (S s399) ∧ (∃ s400b s400n s400c, cell h (((a395.add (Int.toNat x6 * 10))).add 4) = some (.slice s400b s400n s400c) ∧ (∃ s401, cell h (((a395.add (Int.toNat x6 * 10))).add 5) = some (S s401) ∧ (∃ s402b s402n s402c, cell h (((a395.add (Int.toNat x6 * 10))).add 6) = some (.slice s402b s402n s402c) ∧ (∃ i403, cell h (((a395.add (Int.toNat x6 * 10))).add 7) = some (.int .i64 i403) ∧ (∃ i404, cell h (((a395.add (Int.toNat x6 * 10))).add 8) = some (.int .i64 i404) ∧ (∃ i405, cell h (((a395.add (Int.toNat x6 * 10))).add 9) = some (.int .i64 i405) ∧ (newx h ⟨[(.int .u8 (0 : Int)), (.int .u8 (0 : Int)), (.int .u8 (0 : Int)), (S ([] : List UInt8)), (.slice none 0 0), (S ([] : List UInt8)), (.slice none 0 0), (.int .i64 (0 : Int)), (.int .i64 (0 : Int)), (.int .i64 (0 : Int))]⟩ 33 fun a406 h407 => stL a406 [(.int .u8 i396), (.int .u8 i397), (.int .u8 i398), (S s399), (.slice s400b s400n s400c), (S s401), (.slice s402b s402n s402c), (.int .i64 i403), (.int .i64 i404), (.int .i64 i405)] 0 h407 fun h408 => n16 x0b x0n x0c x3 x4 x5 x6 a406 Kn Ke1 Ke0 Kr h408)))))))))))
theorem n15_ok (x0b : Option Addr) (x0n : Nat) (x0c : Nat) (x3 : Option Addr) (x4 : Option Addr) (x5 : Int) (x6 : Int) (Kn : T6) (Ke1 : T6) (Ke0 : T5) (Kr : T0) (g : Env) (hg : E6 g x0b x0n x0c x3 x4 x5 x6) (h : H) (hS : n15 x0b x0n x0c x3 x4 x5 x6 Kn Ke1 Ke0 Kr h) : wpC none Try.prog 153 n14_c1 (Q4 Kn Ke1 Ke0 Kr) g h := by
  obtain ⟨hg0, hg3, hg4, hg5, hg6, hds⟩ := hg
  refine wpC_seq' (x := n15_c1) (y := n15_c2) (Q' := (Q13 (fun z0b z0n z0c z3 z4 z5 z6 z7 h => n16 z0b z0n z0c z3 z4 z5 z6 z7 Kn Ke1 Ke0 Kr h) Ke1 Ke0 Kr)) (by kernel_rfl) ?_ ?_
  · refine wpC_of_wpx (by kernel_rfl) (by kernel_rfl) (g' := (((((⟨g.v, []⟩ : Env).upd (some 0) (.slice x0b x0n x0c)).upd (some 3) (.pointer x3)).upd (some 4) (.pointer x4)).upd (some 5) (.int .i64 x5)).upd (some 6) (.int .i64 x6)) (by rw [env_ds hds, upd_self hg0, upd_self hg3, upd_self hg4, upd_self hg5, upd_self hg6]) ?_
    have e : (n15 x0b x0n x0c x3 x4 x5 x6 Kn Ke1 Ke0 Kr h) = wpx none Try.prog 153 n15_c1 (Q13 (fun z0b z0n z0c z3 z4 z5 z6 z7 h => n16 z0b z0n z0c z3 z4 z5 z6 z7 Kn Ke1 Ke0 Kr h) Ke1 Ke0 Kr) ((((((⟨g.v, []⟩ : Env).upd (some 0) (.slice x0b x0n x0c)).upd (some 3) (.pointer x3)).upd (some 4) (.pointer x4)).upd (some 5) (.int .i64 x5)).upd (some 6) (.int .i64 x6)) h := by kernel_rfl
    exact e ▸ hS
  · intro e g' h' hq
    cases e with
    | normal =>
      have hq : D7 (fun z0b z0n z0c z3 z4 z5 z6 z7 h => n16 z0b z0n z0c z3 z4 z5 z6 z7 Kn Ke1 Ke0 Kr h) g' h' := hq
      obtain ⟨y0b, y0n, y0c, y3, y4, y5, y6, y7, hg', hq⟩ := D7_ok hq
      exact n16_ok y0b y0n y0c y3 y4 y5 y6 y7 Kn Ke1 Ke0 Kr g' hg' h' hq
    | _ => exact hq
abbrev n14 (x0b : Option Addr) (x0n : Nat) (x0c : Nat) (x3 : Option Addr) (x4 : Option Addr) (x5 : Int) (x6 : Int) (Kn : T6) (Ke0 : T5) (Kr : T0) (h : H) : Prop := n15 x0b x0n x0c x3 x4 x5 x6 Kn Kn Ke0 Kr h
theorem n14_ok (x0b : Option Addr) (x0n : Nat) (x0c : Nat) (x3 : Option Addr) (x4 : Option Addr) (x5 : Int) (x6 : Int) (Kn : T6) (Ke0 : T5) (Kr : T0) (g : Env) (hg : E6 g x0b x0n x0c x3 x4 x5 x6) (h : H) (hS : n14 x0b x0n x0c x3 x4 x5 x6 Kn Ke0 Kr h) : wpC none Try.prog 153 n12_c1 (Q3 Kn Ke0 Kr) g h := by
  refine wpC_block' (id := 1) (x := n14_c1) (by kernel_rfl) (n15_ok x0b x0n x0c x3 x4 x5 x6 Kn Kn Ke0 Kr g hg h hS) ?_
  intro e g' h' hq
  cases e <;> exact hq
abbrev n12 (x0b : Option Addr) (x0n : Nat) (x0c : Nat) (x3 : Option Addr) (x4 : Option Addr) (x5 : Int) (x6 : Int) (Kn : T6) (Ke0 : T5) (Kr : T0) (h : H) : Prop := n14 x0b x0n x0c x3 x4 x5 x6 (fun z0b z0n z0c z3 z4 z5 z6 h => n13 z0b z0n z0c z3 z4 z5 z6 Kn Ke0 Kr h) Ke0 Kr h
theorem n12_ok (x0b : Option Addr) (x0n : Nat) (x0c : Nat) (x3 : Option Addr) (x4 : Option Addr) (x5 : Int) (x6 : Int) (Kn : T6) (Ke0 : T5) (Kr : T0) (g : Env) (hg : E6 g x0b x0n x0c x3 x4 x5 x6) (h : H) (hS : n12 x0b x0n x0c x3 x4 x5 x6 Kn Ke0 Kr h) : wpC none Try.prog 153 n11_c2 (Q3 Kn Ke0 Kr) g h := by
  refine wpC_seq' (x := n12_c1) (y := n12_c2) (by kernel_rfl) (n14_ok x0b x0n x0c x3 x4 x5 x6 (fun z0b z0n z0c z3 z4 z5 z6 h => n13 z0b z0n z0c z3 z4 z5 z6 Kn Ke0 Kr h) Ke0 Kr g hg h hS) ?_
  intro e g' h' hq
  cases e with
  | normal =>
    have hq : D6 (fun z0b z0n z0c z3 z4 z5 z6 h => n13 z0b z0n z0c z3 z4 z5 z6 Kn Ke0 Kr h) g' h' := hq
    obtain ⟨y0b, y0n, y0c, y3, y4, y5, y6, hg', hq⟩ := D6_ok hq
    exact n13_ok y0b y0n y0c y3 y4 y5 y6 Kn Ke0 Kr g' hg' h' hq
  | _ => exact hq
abbrev n11 (x0b : Option Addr) (x0n : Nat) (x0c : Nat) (x3 : Option Addr) (x4 : Option Addr) (x5 : Int) (x6 : Int) (Kn : T6) (Ke0 : T5) (Kr : T0) (h : H) : Prop :=
  Spl (x6 < (x0n : Int)) (n12 x0b x0n x0c x3 x4 x5 x6 Kn Ke0 Kr h) (Ke0 h)
theorem n11_ok (x0b : Option Addr) (x0n : Nat) (x0c : Nat) (x3 : Option Addr) (x4 : Option Addr) (x5 : Int) (x6 : Int) (Kn : T6) (Ke0 : T5) (Kr : T0) (g : Env) (hg : E6 g x0b x0n x0c x3 x4 x5 x6) (h : H) (hS : n11 x0b x0n x0c x3 x4 x5 x6 Kn Ke0 Kr h) : wpC none Try.prog 153 n10_c1 (Q3 Kn Ke0 Kr) g h := by
  obtain ⟨hg0, hg3, hg4, hg5, hg6, hds⟩ := hg
  refine wpC_seq' (x := n11_c1) (y := n11_c2) (Q' := (Q3 (fun z0b z0n z0c z3 z4 z5 z6 h => n12 z0b z0n z0c z3 z4 z5 z6 Kn Ke0 Kr h) Ke0 Kr)) (by kernel_rfl) ?_ ?_
  · refine wpC_of_wpx (by kernel_rfl) (by kernel_rfl) (g' := (((((⟨g.v, []⟩ : Env).upd (some 0) (.slice x0b x0n x0c)).upd (some 3) (.pointer x3)).upd (some 4) (.pointer x4)).upd (some 5) (.int .i64 x5)).upd (some 6) (.int .i64 x6)) (by rw [env_ds hds, upd_self hg0, upd_self hg3, upd_self hg4, upd_self hg5, upd_self hg6]) ?_
    have e : (n11 x0b x0n x0c x3 x4 x5 x6 Kn Ke0 Kr h) = wpx none Try.prog 153 n11_c1 (Q3 (fun z0b z0n z0c z3 z4 z5 z6 h => n12 z0b z0n z0c z3 z4 z5 z6 Kn Ke0 Kr h) Ke0 Kr) ((((((⟨g.v, []⟩ : Env).upd (some 0) (.slice x0b x0n x0c)).upd (some 3) (.pointer x3)).upd (some 4) (.pointer x4)).upd (some 5) (.int .i64 x5)).upd (some 6) (.int .i64 x6)) h := by kernel_rfl
    exact e ▸ hS
  · intro e g' h' hq
    cases e with
    | normal =>
      have hq : D6 (fun z0b z0n z0c z3 z4 z5 z6 h => n12 z0b z0n z0c z3 z4 z5 z6 Kn Ke0 Kr h) g' h' := hq
      obtain ⟨y0b, y0n, y0c, y3, y4, y5, y6, hg', hq⟩ := D6_ok hq
      exact n12_ok y0b y0n y0c y3 y4 y5 y6 Kn Ke0 Kr g' hg' h' hq
    | _ => exact hq
def n10_L (Kn : T5) (Ke0 : T5) (Kr : T0) : Nat → (Option Addr) → Nat → Nat → (Option Addr) → (Option Addr) → Int → Int → H → Prop
  | 0 => fun _ _ _ _ _ _ _ _ => False
  | N + 1 => fun x0b x0n x0c x3 x4 x5 x6 h => n11 x0b x0n x0c x3 x4 x5 x6 (fun z0b z0n z0c z3 z4 z5 z6 h => n10_L Kn Ke0 Kr N z0b z0n z0c z3 z4 z5 z6 h) Ke0 Kr h
abbrev n10 (x0b : Option Addr) (x0n : Nat) (x0c : Nat) (x3 : Option Addr) (x4 : Option Addr) (x5 : Int) (x6 : Int) (Kn : T5) (Ke0 : T5) (Kr : T0) (h : H) : Prop := ∃ N, n10_L Kn Ke0 Kr N x0b x0n x0c x3 x4 x5 x6 h
theorem n10_ok (x0b : Option Addr) (x0n : Nat) (x0c : Nat) (x3 : Option Addr) (x4 : Option Addr) (x5 : Int) (x6 : Int) (Kn : T5) (Ke0 : T5) (Kr : T0) (g : Env) (hg : E6 g x0b x0n x0c x3 x4 x5 x6) (h : H) (hS : n10 x0b x0n x0c x3 x4 x5 x6 Kn Ke0 Kr h) : wpC none Try.prog 153 n9_c1 (Q2 Kn Ke0 Kr) g h := by
  obtain ⟨N0, hS⟩ := hS
  refine wpC_loop' (x := n10_c1) (by kernel_rfl) (fun k g h => ∃ (x0b : Option Addr) (x0n : Nat) (x0c : Nat) (x3 : Option Addr) (x4 : Option Addr) (x5 : Int) (x6 : Int), E6 g x0b x0n x0c x3 x4 x5 x6 ∧ n10_L Kn Ke0 Kr k x0b x0n x0c x3 x4 x5 x6 h) (fun g h hr => ?_) (fun N g h hr => ?_) N0 ⟨x0b, x0n, x0c, x3, x4, x5, x6, hg, hS⟩
  · obtain ⟨x0b, x0n, x0c, x3, x4, x5, x6, hg, hS⟩ := hr
    exact hS.elim
  · obtain ⟨x0b, x0n, x0c, x3, x4, x5, x6, hg, hS⟩ := hr
    refine (n11_ok x0b x0n x0c x3 x4 x5 x6 (fun z0b z0n z0c z3 z4 z5 z6 h => n10_L Kn Ke0 Kr N z0b z0n z0c z3 z4 z5 z6 h) Ke0 Kr g hg h hS).mono ?_
    intro e g' h' hq
    cases e with
    | normal => exact D6_ok (K := (fun z0b z0n z0c z3 z4 z5 z6 h => n10_L Kn Ke0 Kr N z0b z0n z0c z3 z4 z5 z6 h)) hq
    | _ => exact hq
abbrev n9 (x0b : Option Addr) (x0n : Nat) (x0c : Nat) (x3 : Option Addr) (x4 : Option Addr) (x5 : Int) (x6 : Int) (Kn : T5) (Kr : T0) (h : H) : Prop := n10 x0b x0n x0c x3 x4 x5 x6 Kn Kn Kr h
theorem n9_ok (x0b : Option Addr) (x0n : Nat) (x0c : Nat) (x3 : Option Addr) (x4 : Option Addr) (x5 : Int) (x6 : Int) (Kn : T5) (Kr : T0) (g : Env) (hg : E6 g x0b x0n x0c x3 x4 x5 x6) (h : H) (hS : n9 x0b x0n x0c x3 x4 x5 x6 Kn Kr h) : wpC none Try.prog 153 n8_c2 (Q1 Kn Kr) g h := by
  refine wpC_block' (id := 0) (x := n9_c1) (by kernel_rfl) (n10_ok x0b x0n x0c x3 x4 x5 x6 Kn Kn Kr g hg h hS) ?_
  intro e g' h' hq
  cases e <;> exact hq
def Q14 (Kn : T6) (Kr : T0) : XPost
  | .normal, g, h => D6 Kn g h
  | .ret, g, h => D0 Kr g h
  | _, _, _ => False
abbrev n8 (x0b : Option Addr) (x0n : Nat) (x0c : Nat) (x3 : Option Addr) (x4 : Option Addr) (x5 : Int) (Kn : T5) (Kr : T0) (h : H) : Prop :=
  n9 x0b x0n x0c x3 x4 x5 (0 : Int) Kn Kr h
theorem n8_ok (x0b : Option Addr) (x0n : Nat) (x0c : Nat) (x3 : Option Addr) (x4 : Option Addr) (x5 : Int) (Kn : T5) (Kr : T0) (g : Env) (hg : E4 g x0b x0n x0c x3 x4 x5) (h : H) (hS : n8 x0b x0n x0c x3 x4 x5 Kn Kr h) : wpC none Try.prog 153 n6_c1 (Q1 Kn Kr) g h := by
  obtain ⟨hg0, hg3, hg4, hg5, hds⟩ := hg
  refine wpC_seq' (x := n8_c1) (y := n8_c2) (Q' := (Q14 (fun z0b z0n z0c z3 z4 z5 z6 h => n9 z0b z0n z0c z3 z4 z5 z6 Kn Kr h) Kr)) (by kernel_rfl) ?_ ?_
  · refine wpC_of_wpx (by kernel_rfl) (by kernel_rfl) (g' := ((((⟨g.v, []⟩ : Env).upd (some 0) (.slice x0b x0n x0c)).upd (some 3) (.pointer x3)).upd (some 4) (.pointer x4)).upd (some 5) (.int .i64 x5)) (by rw [env_ds hds, upd_self hg0, upd_self hg3, upd_self hg4, upd_self hg5]) ?_
    have e : (n8 x0b x0n x0c x3 x4 x5 Kn Kr h) = wpx none Try.prog 153 n8_c1 (Q14 (fun z0b z0n z0c z3 z4 z5 z6 h => n9 z0b z0n z0c z3 z4 z5 z6 Kn Kr h) Kr) (((((⟨g.v, []⟩ : Env).upd (some 0) (.slice x0b x0n x0c)).upd (some 3) (.pointer x3)).upd (some 4) (.pointer x4)).upd (some 5) (.int .i64 x5)) h := by kernel_rfl
    exact e ▸ hS
  · intro e g' h' hq
    cases e with
    | normal =>
      have hq : D6 (fun z0b z0n z0c z3 z4 z5 z6 h => n9 z0b z0n z0c z3 z4 z5 z6 Kn Kr h) g' h' := hq
      obtain ⟨y0b, y0n, y0c, y3, y4, y5, y6, hg', hq⟩ := D6_ok hq
      exact n9_ok y0b y0n y0c y3 y4 y5 y6 Kn Kr g' hg' h' hq
    | _ => exact hq
abbrev n6 (x0b : Option Addr) (x0n : Nat) (x0c : Nat) (x3 : Option Addr) (x4 : Option Addr) (x5 : Int) (Kn : T0) (Kr : T0) (h : H) : Prop := n8 x0b x0n x0c x3 x4 x5 (fun  h => n7 Kn Kr h) Kr h
theorem n6_ok (x0b : Option Addr) (x0n : Nat) (x0c : Nat) (x3 : Option Addr) (x4 : Option Addr) (x5 : Int) (Kn : T0) (Kr : T0) (g : Env) (hg : E4 g x0b x0n x0c x3 x4 x5) (h : H) (hS : n6 x0b x0n x0c x3 x4 x5 Kn Kr h) : wpC none Try.prog 153 n5_c2 (Q0 Kn Kr) g h := by
  refine wpC_seq' (x := n6_c1) (y := n6_c2) (by kernel_rfl) (n8_ok x0b x0n x0c x3 x4 x5 (fun  h => n7 Kn Kr h) Kr g hg h hS) ?_
  intro e g' h' hq
  cases e with
  | normal =>
    have hq : D5 (fun  h => n7 Kn Kr h) g' h' := hq
    obtain ⟨hg', hq⟩ := D5_ok hq
    exact n7_ok  Kn Kr g' hg' h' hq
  | _ => exact hq
def Q15 (Kn : T4) (Kr : T0) : XPost
  | .normal, g, h => D4 Kn g h
  | .ret, g, h => D0 Kr g h
  | _, _, _ => False
abbrev n5 (x0b : Option Addr) (x0n : Nat) (x0c : Nat) (x3 : Option Addr) (x4 : Option Addr) (Kn : T0) (Kr : T0) (h : H) : Prop :=
  n6 x0b x0n x0c x3 x4 (0 : Int) Kn Kr h
theorem n5_ok (x0b : Option Addr) (x0n : Nat) (x0c : Nat) (x3 : Option Addr) (x4 : Option Addr) (Kn : T0) (Kr : T0) (g : Env) (hg : E3 g x0b x0n x0c x3 x4) (h : H) (hS : n5 x0b x0n x0c x3 x4 Kn Kr h) : wpC none Try.prog 153 n4_c2 (Q0 Kn Kr) g h := by
  obtain ⟨hg0, hg3, hg4, hds⟩ := hg
  refine wpC_seq' (x := n5_c1) (y := n5_c2) (Q' := (Q15 (fun z0b z0n z0c z3 z4 z5 h => n6 z0b z0n z0c z3 z4 z5 Kn Kr h) Kr)) (by kernel_rfl) ?_ ?_
  · refine wpC_of_wpx (by kernel_rfl) (by kernel_rfl) (g' := (((⟨g.v, []⟩ : Env).upd (some 0) (.slice x0b x0n x0c)).upd (some 3) (.pointer x3)).upd (some 4) (.pointer x4)) (by rw [env_ds hds, upd_self hg0, upd_self hg3, upd_self hg4]) ?_
    have e : (n5 x0b x0n x0c x3 x4 Kn Kr h) = wpx none Try.prog 153 n5_c1 (Q15 (fun z0b z0n z0c z3 z4 z5 h => n6 z0b z0n z0c z3 z4 z5 Kn Kr h) Kr) ((((⟨g.v, []⟩ : Env).upd (some 0) (.slice x0b x0n x0c)).upd (some 3) (.pointer x3)).upd (some 4) (.pointer x4)) h := by kernel_rfl
    exact e ▸ hS
  · intro e g' h' hq
    cases e with
    | normal =>
      have hq : D4 (fun z0b z0n z0c z3 z4 z5 h => n6 z0b z0n z0c z3 z4 z5 Kn Kr h) g' h' := hq
      obtain ⟨y0b, y0n, y0c, y3, y4, y5, hg', hq⟩ := D4_ok hq
      exact n6_ok y0b y0n y0c y3 y4 y5 Kn Kr g' hg' h' hq
    | _ => exact hq
def Q16 (Kn : T3) (Kr : T0) : XPost
  | .normal, g, h => D3 Kn g h
  | .ret, g, h => D0 Kr g h
  | _, _, _ => False
abbrev n4 (x0b : Option Addr) (x0n : Nat) (x0c : Nat) (x3 : Option Addr) (Kn : T0) (Kr : T0) (h : H) : Prop :=
  HCalls Try.prog 17 ⟨[]⟩ h fun v409 h410 => vPtr v409 fun p411 => n5 x0b x0n x0c x3 p411 Kn Kr h410
theorem n4_ok (x0b : Option Addr) (x0n : Nat) (x0c : Nat) (x3 : Option Addr) (Kn : T0) (Kr : T0) (g : Env) (hg : E2 g x0b x0n x0c x3) (h : H) (hS : n4 x0b x0n x0c x3 Kn Kr h) : wpC none Try.prog 153 n3_c2 (Q0 Kn Kr) g h := by
  obtain ⟨hg0, hg3, hds⟩ := hg
  refine wpC_seq' (x := n4_c1) (y := n4_c2) (Q' := (Q16 (fun z0b z0n z0c z3 z4 h => n5 z0b z0n z0c z3 z4 Kn Kr h) Kr)) (by kernel_rfl) ?_ ?_
  · refine wpC_of_wpx (by kernel_rfl) (by kernel_rfl) (g' := ((⟨g.v, []⟩ : Env).upd (some 0) (.slice x0b x0n x0c)).upd (some 3) (.pointer x3)) (by rw [env_ds hds, upd_self hg0, upd_self hg3]) ?_
    have e : (n4 x0b x0n x0c x3 Kn Kr h) = wpx none Try.prog 153 n4_c1 (Q16 (fun z0b z0n z0c z3 z4 h => n5 z0b z0n z0c z3 z4 Kn Kr h) Kr) (((⟨g.v, []⟩ : Env).upd (some 0) (.slice x0b x0n x0c)).upd (some 3) (.pointer x3)) h := by kernel_rfl
    exact e ▸ hS
  · intro e g' h' hq
    cases e with
    | normal =>
      have hq : D3 (fun z0b z0n z0c z3 z4 h => n5 z0b z0n z0c z3 z4 Kn Kr h) g' h' := hq
      obtain ⟨y0b, y0n, y0c, y3, y4, hg', hq⟩ := D3_ok hq
      exact n5_ok y0b y0n y0c y3 y4 Kn Kr g' hg' h' hq
    | _ => exact hq
def Q17 (Kn : T2) (Kr : T0) : XPost
  | .normal, g, h => D2 Kn g h
  | .ret, g, h => D0 Kr g h
  | _, _, _ => False
abbrev n3 (x0b : Option Addr) (x0n : Nat) (x0c : Nat) (Kn : T0) (Kr : T0) (h : H) : Prop :=
  HCalls Try.prog 9 ⟨[]⟩ h fun v412 h413 => vPtr v412 fun p414 => n4 x0b x0n x0c p414 Kn Kr h413
theorem n3_ok (x0b : Option Addr) (x0n : Nat) (x0c : Nat) (Kn : T0) (Kr : T0) (g : Env) (hg : E1 g x0b x0n x0c) (h : H) (hS : n3 x0b x0n x0c Kn Kr h) : wpC none Try.prog 153 n2_c2 (Q0 Kn Kr) g h := by
  obtain ⟨hg0, hds⟩ := hg
  refine wpC_seq' (x := n3_c1) (y := n3_c2) (Q' := (Q17 (fun z0b z0n z0c z3 h => n4 z0b z0n z0c z3 Kn Kr h) Kr)) (by kernel_rfl) ?_ ?_
  · refine wpC_of_wpx (by kernel_rfl) (by kernel_rfl) (g' := (⟨g.v, []⟩ : Env).upd (some 0) (.slice x0b x0n x0c)) (by rw [env_ds hds, upd_self hg0]) ?_
    have e : (n3 x0b x0n x0c Kn Kr h) = wpx none Try.prog 153 n3_c1 (Q17 (fun z0b z0n z0c z3 h => n4 z0b z0n z0c z3 Kn Kr h) Kr) ((⟨g.v, []⟩ : Env).upd (some 0) (.slice x0b x0n x0c)) h := by kernel_rfl
    exact e ▸ hS
  · intro e g' h' hq
    cases e with
    | normal =>
      have hq : D2 (fun z0b z0n z0c z3 h => n4 z0b z0n z0c z3 Kn Kr h) g' h' := hq
      obtain ⟨y0b, y0n, y0c, y3, hg', hq⟩ := D2_ok hq
      exact n4_ok y0b y0n y0c y3 Kn Kr g' hg' h' hq
    | _ => exact hq
def Q18 (Kn : T1) (Kr : T0) : XPost
  | .normal, g, h => D1 Kn g h
  | .ret, g, h => D0 Kr g h
  | _, _, _ => False
abbrev n2 (x0b : Option Addr) (x0n : Nat) (x0c : Nat) (Kn : T0) (Kr : T0) (h : H) : Prop :=
  HCalls Try.prog 7 ⟨[(.slice x0b x0n x0c)]⟩ h fun v415 h416 => vBool v415 fun b417 => cond b417 (HCalls Try.prog 8 ⟨[]⟩ h416 fun v418 h419 => vBool v418 fun b420 => cond b420 (Kr true h419) (Kr false h419)) (HCalls Try.prog 8 ⟨[]⟩ h416 fun v421 h422 => vBool v421 fun b423 => cond b423 (n3 x0b x0n x0c Kn Kr h422) (HCalls Try.prog 8 ⟨[]⟩ h422 fun v424 h425 => vBool v424 fun b426 => cond b426 (Kr true h425) (Kr false h425)))
theorem n2_ok (x0b : Option Addr) (x0n : Nat) (x0c : Nat) (Kn : T0) (Kr : T0) (g : Env) (hg : E1 g x0b x0n x0c) (h : H) (hS : n2 x0b x0n x0c Kn Kr h) : wpC none Try.prog 153 n1_c2 (Q0 Kn Kr) g h := by
  obtain ⟨hg0, hds⟩ := hg
  refine wpC_seq' (x := n2_c1) (y := n2_c2) (Q' := (Q18 (fun z0b z0n z0c h => n3 z0b z0n z0c Kn Kr h) Kr)) (by kernel_rfl) ?_ ?_
  · refine wpC_of_wpx (by kernel_rfl) (by kernel_rfl) (g' := (⟨g.v, []⟩ : Env).upd (some 0) (.slice x0b x0n x0c)) (by rw [env_ds hds, upd_self hg0]) ?_
    have e : (n2 x0b x0n x0c Kn Kr h) = wpx none Try.prog 153 n2_c1 (Q18 (fun z0b z0n z0c h => n3 z0b z0n z0c Kn Kr h) Kr) ((⟨g.v, []⟩ : Env).upd (some 0) (.slice x0b x0n x0c)) h := by kernel_rfl
    exact e ▸ hS
  · intro e g' h' hq
    cases e with
    | normal =>
      have hq : D1 (fun z0b z0n z0c h => n3 z0b z0n z0c Kn Kr h) g' h' := hq
      obtain ⟨y0b, y0n, y0c, hg', hq⟩ := D1_ok hq
      exact n3_ok y0b y0n y0c Kn Kr g' hg' h' hq
    | _ => exact hq
abbrev n1 (x0b : Option Addr) (x0n : Nat) (x0c : Nat) (Kn : T0) (Kr : T0) (h : H) : Prop :=
  n2 x0b x0n x0c Kn Kr h
theorem n1_ok (x0b : Option Addr) (x0n : Nat) (x0c : Nat) (Kn : T0) (Kr : T0) (g : Env) (hg : E1 g x0b x0n x0c) (h : H) (hS : n1 x0b x0n x0c Kn Kr h) : wpC none Try.prog 153 code (Q0 Kn Kr) g h := by
  obtain ⟨hg0, hds⟩ := hg
  refine wpC_seq' (x := n1_c1) (y := n1_c2) (Q' := (Q18 (fun z0b z0n z0c h => n2 z0b z0n z0c Kn Kr h) Kr)) (by kernel_rfl) ?_ ?_
  · refine wpC_of_wpx (by kernel_rfl) (by kernel_rfl) (g' := (⟨g.v, []⟩ : Env).upd (some 0) (.slice x0b x0n x0c)) (by rw [env_ds hds, upd_self hg0]) ?_
    have e : (n1 x0b x0n x0c Kn Kr h) = wpx none Try.prog 153 n1_c1 (Q18 (fun z0b z0n z0c h => n2 z0b z0n z0c Kn Kr h) Kr) ((⟨g.v, []⟩ : Env).upd (some 0) (.slice x0b x0n x0c)) h := by kernel_rfl
    exact e ▸ hS
  · intro e g' h' hq
    cases e with
    | normal =>
      have hq : D1 (fun z0b z0n z0c h => n2 z0b z0n z0c Kn Kr h) g' h' := hq
      obtain ⟨y0b, y0n, y0c, hg', hq⟩ := D1_ok hq
      exact n2_ok y0b y0n y0c Kn Kr g' hg' h' hq
    | _ => exact hq
/-- WHAT tympan/tympanlaw10.DomDoes ASKS -/
abbrev asks (x0b : Option Addr) (x0n : Nat) (x0c : Nat) (K : Value → H → Prop) (h : H) : Prop := n1 x0b x0n x0c (fun y2 h => K (.bool y2) h) (fun y2 h => K (.bool y2) h) h
theorem ok (x0b : Option Addr) (x0n : Nat) (x0c : Nat) (K : Value → H → Prop) (h : H) (hS : asks x0b x0n x0c K h) : HCalls Try.prog 4 ⟨[(.slice x0b x0n x0c)]⟩ h K := by
  refine calls_of_wpC (c := code) Try.func4 (by kernel_rfl) (Nat.le_of_ble_eq_true (by kernel_rfl)) ?_
  refine (n1_ok x0b x0n x0c (fun y2 h => K (.bool y2) h) (fun y2 h => K (.bool y2) h) (env0 [(.slice x0b x0n x0c)]) ⟨rfl, rfl⟩ h hS).mono ?_
  intro e g' h' hq
  cases e with
  | normal =>
    have hq : D0 (fun y2 h => K (.bool y2) h) g' h' := hq
    obtain ⟨y2, ⟨hg2, hd⟩, hq⟩ := D0_ok hq
    show leaveX g'.ds h' _
    rw [hd]
    show K (g'.v 2) h'
    rw [hg2]
    exact hq
  | ret =>
    have hq : D0 (fun y2 h => K (.bool y2) h) g' h' := hq
    obtain ⟨y2, ⟨hg2, hd⟩, hq⟩ := D0_ok hq
    show leaveX g'.ds h' _
    rw [hd]
    show K (g'.v 2) h'
    rw [hg2]
    exact hq
  | _ => exact hq
end Sx.l10_DomDoes

/-! ### tympan/tympanlaw10.DomSame -/
namespace Sx.l10_DomSame
noncomputable def code : Code := bodyOf Try.f5
abbrev T0 := Bool → H → Prop
def E0 (g : Env) (x4 : Bool) : Prop := g.v 4 = (.bool x4) ∧ g.ds = []
def D0 (K : T0) (g : Env) (h : H) : Prop := nilDs g.ds (vBool (g.v 4) fun b1 => K b1 h)
theorem D0_ok {K : T0} {g : Env} {h : H} (hq : D0 K g h) : ∃ (x4 : Bool), E0 g x4 ∧ K x4 h := by
  obtain ⟨hd, hq⟩ := nilDs_ok hq
  obtain ⟨y3, e2, q4⟩ := vBool_ok hq
  exact ⟨y3, ⟨e2, hd⟩, q4⟩
def Q0 (Kn : T0) (Kr : T0) : XPost
  | .normal, g, h => D0 Kn g h
  | .ret, g, h => D0 Kr g h
  | _, _, _ => False
abbrev T1 := (Option Addr) → Nat → Nat → (Option Addr) → Nat → Nat → H → Prop
def E1 (g : Env) (x0b : Option Addr) (x0n : Nat) (x0c : Nat) (x1b : Option Addr) (x1n : Nat) (x1c : Nat) : Prop := g.v 0 = (.slice x0b x0n x0c) ∧ g.v 1 = (.slice x1b x1n x1c) ∧ g.ds = []
def D1 (K : T1) (g : Env) (h : H) : Prop := nilDs g.ds (vSlice (g.v 0) fun s5b s5n s5c => vSlice (g.v 1) fun s6b s6n s6c => K s5b s5n s5c s6b s6n s6c h)
theorem D1_ok {K : T1} {g : Env} {h : H} (hq : D1 K g h) : ∃ (x0b : Option Addr) (x0n : Nat) (x0c : Nat) (x1b : Option Addr) (x1n : Nat) (x1c : Nat), E1 g x0b x0n x0c x1b x1n x1c ∧ K x0b x0n x0c x1b x1n x1c h := by
  obtain ⟨hd, hq⟩ := nilDs_ok hq
  obtain ⟨y8b, y8n, y8c, e7, q9⟩ := vSlice_ok hq
  obtain ⟨y11b, y11n, y11c, e10, q12⟩ := vSlice_ok q9
  exact ⟨y8b, y8n, y8c, y11b, y11n, y11c, ⟨e7, e10, hd⟩, q12⟩
noncomputable def n1_c1 : Code := cFst code
noncomputable def n1_c2 : Code := cSnd code
noncomputable def n2_c1 : Code := cFst n1_c2
noncomputable def n2_c2 : Code := cSnd n1_c2
noncomputable def n3_c1 : Code := cFst n2_c2
noncomputable def n3_c2 : Code := cSnd n2_c2
abbrev T2 := (Option Addr) → Nat → Nat → (Option Addr) → Nat → Nat → (Option Addr) → Nat → Nat → H → Prop
def E2 (g : Env) (x0b : Option Addr) (x0n : Nat) (x0c : Nat) (x1b : Option Addr) (x1n : Nat) (x1c : Nat) (x5b : Option Addr) (x5n : Nat) (x5c : Nat) : Prop := g.v 0 = (.slice x0b x0n x0c) ∧ g.v 1 = (.slice x1b x1n x1c) ∧ g.v 5 = (.slice x5b x5n x5c) ∧ g.ds = []
def D2 (K : T2) (g : Env) (h : H) : Prop := nilDs g.ds (vSlice (g.v 0) fun s13b s13n s13c => vSlice (g.v 1) fun s14b s14n s14c => vSlice (g.v 5) fun s15b s15n s15c => K s13b s13n s13c s14b s14n s14c s15b s15n s15c h)
theorem D2_ok {K : T2} {g : Env} {h : H} (hq : D2 K g h) : ∃ (x0b : Option Addr) (x0n : Nat) (x0c : Nat) (x1b : Option Addr) (x1n : Nat) (x1c : Nat) (x5b : Option Addr) (x5n : Nat) (x5c : Nat), E2 g x0b x0n x0c x1b x1n x1c x5b x5n x5c ∧ K x0b x0n x0c x1b x1n x1c x5b x5n x5c h := by
  obtain ⟨hd, hq⟩ := nilDs_ok hq
  obtain ⟨y17b, y17n, y17c, e16, q18⟩ := vSlice_ok hq
  obtain ⟨y20b, y20n, y20c, e19, q21⟩ := vSlice_ok q18
  obtain ⟨y23b, y23n, y23c, e22, q24⟩ := vSlice_ok q21
  exact ⟨y17b, y17n, y17c, y20b, y20n, y20c, y23b, y23n, y23c, ⟨e16, e19, e22, hd⟩, q24⟩
noncomputable def n4_c1 : Code := cFst n3_c2
noncomputable def n4_c2 : Code := cSnd n3_c2
abbrev T3 := (Option Addr) → Nat → Nat → (Option Addr) → Nat → Nat → (Option Addr) → Nat → Nat → (Option Addr) → Nat → Nat → H → Prop
def E3 (g : Env) (x0b : Option Addr) (x0n : Nat) (x0c : Nat) (x1b : Option Addr) (x1n : Nat) (x1c : Nat) (x5b : Option Addr) (x5n : Nat) (x5c : Nat) (x6b : Option Addr) (x6n : Nat) (x6c : Nat) : Prop := g.v 0 = (.slice x0b x0n x0c) ∧ g.v 1 = (.slice x1b x1n x1c) ∧ g.v 5 = (.slice x5b x5n x5c) ∧ g.v 6 = (.slice x6b x6n x6c) ∧ g.ds = []
def D3 (K : T3) (g : Env) (h : H) : Prop := nilDs g.ds (vSlice (g.v 0) fun s25b s25n s25c => vSlice (g.v 1) fun s26b s26n s26c => vSlice (g.v 5) fun s27b s27n s27c => vSlice (g.v 6) fun s28b s28n s28c => K s25b s25n s25c s26b s26n s26c s27b s27n s27c s28b s28n s28c h)
theorem D3_ok {K : T3} {g : Env} {h : H} (hq : D3 K g h) : ∃ (x0b : Option Addr) (x0n : Nat) (x0c : Nat) (x1b : Option Addr) (x1n : Nat) (x1c : Nat) (x5b : Option Addr) (x5n : Nat) (x5c : Nat) (x6b : Option Addr) (x6n : Nat) (x6c : Nat), E3 g x0b x0n x0c x1b x1n x1c x5b x5n x5c x6b x6n x6c ∧ K x0b x0n x0c x1b x1n x1c x5b x5n x5c x6b x6n x6c h := by
  obtain ⟨hd, hq⟩ := nilDs_ok hq
  obtain ⟨y30b, y30n, y30c, e29, q31⟩ := vSlice_ok hq
  obtain ⟨y33b, y33n, y33c, e32, q34⟩ := vSlice_ok q31
  obtain ⟨y36b, y36n, y36c, e35, q37⟩ := vSlice_ok q34
  obtain ⟨y39b, y39n, y39c, e38, q40⟩ := vSlice_ok q37
  exact ⟨y30b, y30n, y30c, y33b, y33n, y33c, y36b, y36n, y36c, y39b, y39n, y39c, ⟨e29, e32, e35, e38, hd⟩, q40⟩
noncomputable def n5_c1 : Code := cFst n4_c2
noncomputable def n5_c2 : Code := cSnd n4_c2
abbrev T4 := (Option Addr) → Nat → Nat → (Option Addr) → Nat → Nat → (Option Addr) → Nat → Nat → (Option Addr) → Nat → Nat → Bool → H → Prop
def E4 (g : Env) (x0b : Option Addr) (x0n : Nat) (x0c : Nat) (x1b : Option Addr) (x1n : Nat) (x1c : Nat) (x5b : Option Addr) (x5n : Nat) (x5c : Nat) (x6b : Option Addr) (x6n : Nat) (x6c : Nat) (x7 : Bool) : Prop := g.v 0 = (.slice x0b x0n x0c) ∧ g.v 1 = (.slice x1b x1n x1c) ∧ g.v 5 = (.slice x5b x5n x5c) ∧ g.v 6 = (.slice x6b x6n x6c) ∧ g.v 7 = (.bool x7) ∧ g.ds = []
def D4 (K : T4) (g : Env) (h : H) : Prop := nilDs g.ds (vSlice (g.v 0) fun s41b s41n s41c => vSlice (g.v 1) fun s42b s42n s42c => vSlice (g.v 5) fun s43b s43n s43c => vSlice (g.v 6) fun s44b s44n s44c => vBool (g.v 7) fun b45 => K s41b s41n s41c s42b s42n s42c s43b s43n s43c s44b s44n s44c b45 h)
theorem D4_ok {K : T4} {g : Env} {h : H} (hq : D4 K g h) : ∃ (x0b : Option Addr) (x0n : Nat) (x0c : Nat) (x1b : Option Addr) (x1n : Nat) (x1c : Nat) (x5b : Option Addr) (x5n : Nat) (x5c : Nat) (x6b : Option Addr) (x6n : Nat) (x6c : Nat) (x7 : Bool), E4 g x0b x0n x0c x1b x1n x1c x5b x5n x5c x6b x6n x6c x7 ∧ K x0b x0n x0c x1b x1n x1c x5b x5n x5c x6b x6n x6c x7 h := by
  obtain ⟨hd, hq⟩ := nilDs_ok hq
  obtain ⟨y47b, y47n, y47c, e46, q48⟩ := vSlice_ok hq
  obtain ⟨y50b, y50n, y50c, e49, q51⟩ := vSlice_ok q48
  obtain ⟨y53b, y53n, y53c, e52, q54⟩ := vSlice_ok q51
  obtain ⟨y56b, y56n, y56c, e55, q57⟩ := vSlice_ok q54
  obtain ⟨y59, e58, q60⟩ := vBool_ok q57
  exact ⟨y47b, y47n, y47c, y50b, y50n, y50c, y53b, y53n, y53c, y56b, y56n, y56c, y59, ⟨e46, e49, e52, e55, e58, hd⟩, q60⟩
abbrev n6 (x0b : Option Addr) (x0n : Nat) (x0c : Nat) (x1b : Option Addr) (x1n : Nat) (x1c : Nat) (x5b : Option Addr) (x5n : Nat) (x5c : Nat) (x6b : Option Addr) (x6n : Nat) (x6c : Nat) (x7 : Bool) (Kn : T0) (Kr : T0) (h : H) : Prop :=
  HCalls Try.prog 8 ⟨[]⟩ h fun v61 h62 => vBool v61 fun b63 => cond b63 (cond x7 (HCalls Try.prog 32 ⟨[(.slice x5b x5n x5c)]⟩ h62 fun v64 h65 => vStr v64 fun s66 => HCalls Try.prog 33 ⟨[(.slice x0b x0n x0c)]⟩ h65 fun v67 h68 => vStr v67 fun s69 => Spl (s66 = s69) (HCalls Try.prog 16 ⟨[(.slice x5b x5n x5c), (.slice x0b x0n x0c)]⟩ h68 fun v70 h71 => vBool v70 fun b72 => cond b72 (HCalls Try.prog 16 ⟨[(.slice x6b x6n x6c), (.slice x1b x1n x1c)]⟩ h71 fun v73 h74 => vBool v73 fun b75 => cond b75 (Kr true h74) (Kr false h74)) (Kr false h71)) (Kr false h68)) (Kr false h62)) (Kr false h62)
theorem n6_ok (x0b : Option Addr) (x0n : Nat) (x0c : Nat) (x1b : Option Addr) (x1n : Nat) (x1c : Nat) (x5b : Option Addr) (x5n : Nat) (x5c : Nat) (x6b : Option Addr) (x6n : Nat) (x6c : Nat) (x7 : Bool) (Kn : T0) (Kr : T0) (g : Env) (hg : E4 g x0b x0n x0c x1b x1n x1c x5b x5n x5c x6b x6n x6c x7) (h : H) (hS : n6 x0b x0n x0c x1b x1n x1c x5b x5n x5c x6b x6n x6c x7 Kn Kr h) : wpC none Try.prog 62 n5_c2 (Q0 Kn Kr) g h := by
  obtain ⟨hg0, hg1, hg5, hg6, hg7, hds⟩ := hg
  refine wpC_of_wpx (by kernel_rfl) (by kernel_rfl) (g' := (((((⟨g.v, []⟩ : Env).upd (some 0) (.slice x0b x0n x0c)).upd (some 1) (.slice x1b x1n x1c)).upd (some 5) (.slice x5b x5n x5c)).upd (some 6) (.slice x6b x6n x6c)).upd (some 7) (.bool x7)) (by rw [env_ds hds, upd_self hg0, upd_self hg1, upd_self hg5, upd_self hg6, upd_self hg7]) ?_
  have e : (n6 x0b x0n x0c x1b x1n x1c x5b x5n x5c x6b x6n x6c x7 Kn Kr h) = wpx none Try.prog 62 n5_c2 (Q0 Kn Kr) ((((((⟨g.v, []⟩ : Env).upd (some 0) (.slice x0b x0n x0c)).upd (some 1) (.slice x1b x1n x1c)).upd (some 5) (.slice x5b x5n x5c)).upd (some 6) (.slice x6b x6n x6c)).upd (some 7) (.bool x7)) h := by kernel_rfl
  exact e ▸ hS
def Q1 (Kn : T4) (Kr : T0) : XPost
  | .normal, g, h => D4 Kn g h
  | .ret, g, h => D0 Kr g h
  | _, _, _ => False
abbrev n5 (x0b : Option Addr) (x0n : Nat) (x0c : Nat) (x1b : Option Addr) (x1n : Nat) (x1c : Nat) (x5b : Option Addr) (x5n : Nat) (x5c : Nat) (x6b : Option Addr) (x6n : Nat) (x6c : Nat) (Kn : T0) (Kr : T0) (h : H) : Prop :=
  HCalls Try.prog 30 ⟨[(.slice x5b x5n x5c), (.slice x6b x6n x6c)]⟩ h fun v76 h77 => vBool v76 fun b78 => cond b78 (HCalls Try.prog 31 ⟨[(.slice x0b x0n x0c), (.slice x1b x1n x1c)]⟩ h77 fun v79 h80 => vBool v79 fun b81 => cond b81 (HCalls Try.prog 30 ⟨[(.slice x6b x6n x6c), (.slice x5b x5n x5c)]⟩ h80 fun v82 h83 => vBool v82 fun b84 => cond b84 (HCalls Try.prog 31 ⟨[(.slice x1b x1n x1c), (.slice x0b x0n x0c)]⟩ h83 fun v85 h86 => vBool v85 fun b87 => cond b87 (HCalls Try.prog 30 ⟨[(.slice x5b x5n x5c), (.slice x5b x5n x5c)]⟩ h86 fun v88 h89 => vBool v88 fun b90 => cond b90 (n6 x0b x0n x0c x1b x1n x1c x5b x5n x5c x6b x6n x6c true Kn Kr h89) (n6 x0b x0n x0c x1b x1n x1c x5b x5n x5c x6b x6n x6c false Kn Kr h89)) (n6 x0b x0n x0c x1b x1n x1c x5b x5n x5c x6b x6n x6c false Kn Kr h86)) (HCalls Try.prog 31 ⟨[(.slice x1b x1n x1c), (.slice x0b x0n x0c)]⟩ h83 fun v91 h92 => vBool v91 fun b93 => cond b93 (n6 x0b x0n x0c x1b x1n x1c x5b x5n x5c x6b x6n x6c false Kn Kr h92) (HCalls Try.prog 30 ⟨[(.slice x5b x5n x5c), (.slice x5b x5n x5c)]⟩ h92 fun v94 h95 => vBool v94 fun b96 => cond b96 (n6 x0b x0n x0c x1b x1n x1c x5b x5n x5c x6b x6n x6c true Kn Kr h95) (n6 x0b x0n x0c x1b x1n x1c x5b x5n x5c x6b x6n x6c false Kn Kr h95)))) (n6 x0b x0n x0c x1b x1n x1c x5b x5n x5c x6b x6n x6c false Kn Kr h80)) (HCalls Try.prog 31 ⟨[(.slice x0b x0n x0c), (.slice x1b x1n x1c)]⟩ h77 fun v97 h98 => vBool v97 fun b99 => cond b99 (n6 x0b x0n x0c x1b x1n x1c x5b x5n x5c x6b x6n x6c false Kn Kr h98) (HCalls Try.prog 30 ⟨[(.slice x6b x6n x6c), (.slice x5b x5n x5c)]⟩ h98 fun v100 h101 => vBool v100 fun b102 => cond b102 (HCalls Try.prog 31 ⟨[(.slice x1b x1n x1c), (.slice x0b x0n x0c)]⟩ h101 fun v103 h104 => vBool v103 fun b105 => cond b105 (HCalls Try.prog 30 ⟨[(.slice x5b x5n x5c), (.slice x5b x5n x5c)]⟩ h104 fun v106 h107 => vBool v106 fun b108 => cond b108 (n6 x0b x0n x0c x1b x1n x1c x5b x5n x5c x6b x6n x6c true Kn Kr h107) (n6 x0b x0n x0c x1b x1n x1c x5b x5n x5c x6b x6n x6c false Kn Kr h107)) (n6 x0b x0n x0c x1b x1n x1c x5b x5n x5c x6b x6n x6c false Kn Kr h104)) (HCalls Try.prog 31 ⟨[(.slice x1b x1n x1c), (.slice x0b x0n x0c)]⟩ h101 fun v109 h110 => vBool v109 fun b111 => cond b111 (n6 x0b x0n x0c x1b x1n x1c x5b x5n x5c x6b x6n x6c false Kn Kr h110) (HCalls Try.prog 30 ⟨[(.slice x5b x5n x5c), (.slice x5b x5n x5c)]⟩ h110 fun v112 h113 => vBool v112 fun b114 => cond b114 (n6 x0b x0n x0c x1b x1n x1c x5b x5n x5c x6b x6n x6c true Kn Kr h113) (n6 x0b x0n x0c x1b x1n x1c x5b x5n x5c x6b x6n x6c false Kn Kr h113)))))
theorem n5_ok (x0b : Option Addr) (x0n : Nat) (x0c : Nat) (x1b : Option Addr) (x1n : Nat) (x1c : Nat) (x5b : Option Addr) (x5n : Nat) (x5c : Nat) (x6b : Option Addr) (x6n : Nat) (x6c : Nat) (Kn : T0) (Kr : T0) (g : Env) (hg : E3 g x0b x0n x0c x1b x1n x1c x5b x5n x5c x6b x6n x6c) (h : H) (hS : n5 x0b x0n x0c x1b x1n x1c x5b x5n x5c x6b x6n x6c Kn Kr h) : wpC none Try.prog 62 n4_c2 (Q0 Kn Kr) g h := by
  obtain ⟨hg0, hg1, hg5, hg6, hds⟩ := hg
  refine wpC_seq' (x := n5_c1) (y := n5_c2) (Q' := (Q1 (fun z0b z0n z0c z1b z1n z1c z5b z5n z5c z6b z6n z6c z7 h => n6 z0b z0n z0c z1b z1n z1c z5b z5n z5c z6b z6n z6c z7 Kn Kr h) Kr)) (by kernel_rfl) ?_ ?_
  · refine wpC_of_wpx (by kernel_rfl) (by kernel_rfl) (g' := ((((⟨g.v, []⟩ : Env).upd (some 0) (.slice x0b x0n x0c)).upd (some 1) (.slice x1b x1n x1c)).upd (some 5) (.slice x5b x5n x5c)).upd (some 6) (.slice x6b x6n x6c)) (by rw [env_ds hds, upd_self hg0, upd_self hg1, upd_self hg5, upd_self hg6]) ?_
    have e : (n5 x0b x0n x0c x1b x1n x1c x5b x5n x5c x6b x6n x6c Kn Kr h) = wpx none Try.prog 62 n5_c1 (Q1 (fun z0b z0n z0c z1b z1n z1c z5b z5n z5c z6b z6n z6c z7 h => n6 z0b z0n z0c z1b z1n z1c z5b z5n z5c z6b z6n z6c z7 Kn Kr h) Kr) (((((⟨g.v, []⟩ : Env).upd (some 0) (.slice x0b x0n x0c)).upd (some 1) (.slice x1b x1n x1c)).upd (some 5) (.slice x5b x5n x5c)).upd (some 6) (.slice x6b x6n x6c)) h := by kernel_rfl
    exact e ▸ hS
  · intro e g' h' hq
    cases e with
    | normal =>
      have hq : D4 (fun z0b z0n z0c z1b z1n z1c z5b z5n z5c z6b z6n z6c z7 h => n6 z0b z0n z0c z1b z1n z1c z5b z5n z5c z6b z6n z6c z7 Kn Kr h) g' h' := hq
      obtain ⟨y0b, y0n, y0c, y1b, y1n, y1c, y5b, y5n, y5c, y6b, y6n, y6c, y7, hg', hq⟩ := D4_ok hq
      exact n6_ok y0b y0n y0c y1b y1n y1c y5b y5n y5c y6b y6n y6c y7 Kn Kr g' hg' h' hq
    | _ => exact hq
def Q2 (Kn : T3) (Kr : T0) : XPost
  | .normal, g, h => D3 Kn g h
  | .ret, g, h => D0 Kr g h
  | _, _, _ => False
abbrev n4 (x0b : Option Addr) (x0n : Nat) (x0c : Nat) (x1b : Option Addr) (x1n : Nat) (x1c : Nat) (x5b : Option Addr) (x5n : Nat) (x5c : Nat) (Kn : T0) (Kr : T0) (h : H) : Prop :=
  HCalls Try.prog 13 ⟨[(.slice x1b x1n x1c)]⟩ h fun v115 h116 => vSlice v115 fun s117b s117n s117c => n5 x0b x0n x0c x1b x1n x1c x5b x5n x5c s117b s117n s117c Kn Kr h116
theorem n4_ok (x0b : Option Addr) (x0n : Nat) (x0c : Nat) (x1b : Option Addr) (x1n : Nat) (x1c : Nat) (x5b : Option Addr) (x5n : Nat) (x5c : Nat) (Kn : T0) (Kr : T0) (g : Env) (hg : E2 g x0b x0n x0c x1b x1n x1c x5b x5n x5c) (h : H) (hS : n4 x0b x0n x0c x1b x1n x1c x5b x5n x5c Kn Kr h) : wpC none Try.prog 62 n3_c2 (Q0 Kn Kr) g h := by
  obtain ⟨hg0, hg1, hg5, hds⟩ := hg
  refine wpC_seq' (x := n4_c1) (y := n4_c2) (Q' := (Q2 (fun z0b z0n z0c z1b z1n z1c z5b z5n z5c z6b z6n z6c h => n5 z0b z0n z0c z1b z1n z1c z5b z5n z5c z6b z6n z6c Kn Kr h) Kr)) (by kernel_rfl) ?_ ?_
  · refine wpC_of_wpx (by kernel_rfl) (by kernel_rfl) (g' := (((⟨g.v, []⟩ : Env).upd (some 0) (.slice x0b x0n x0c)).upd (some 1) (.slice x1b x1n x1c)).upd (some 5) (.slice x5b x5n x5c)) (by rw [env_ds hds, upd_self hg0, upd_self hg1, upd_self hg5]) ?_
    have e : (n4 x0b x0n x0c x1b x1n x1c x5b x5n x5c Kn Kr h) = wpx none Try.prog 62 n4_c1 (Q2 (fun z0b z0n z0c z1b z1n z1c z5b z5n z5c z6b z6n z6c h => n5 z0b z0n z0c z1b z1n z1c z5b z5n z5c z6b z6n z6c Kn Kr h) Kr) ((((⟨g.v, []⟩ : Env).upd (some 0) (.slice x0b x0n x0c)).upd (some 1) (.slice x1b x1n x1c)).upd (some 5) (.slice x5b x5n x5c)) h := by kernel_rfl
    exact e ▸ hS
  · intro e g' h' hq
    cases e with
    | normal =>
      have hq : D3 (fun z0b z0n z0c z1b z1n z1c z5b z5n z5c z6b z6n z6c h => n5 z0b z0n z0c z1b z1n z1c z5b z5n z5c z6b z6n z6c Kn Kr h) g' h' := hq
      obtain ⟨y0b, y0n, y0c, y1b, y1n, y1c, y5b, y5n, y5c, y6b, y6n, y6c, hg', hq⟩ := D3_ok hq
      exact n5_ok y0b y0n y0c y1b y1n y1c y5b y5n y5c y6b y6n y6c Kn Kr g' hg' h' hq
    | _ => exact hq
def Q3 (Kn : T2) (Kr : T0) : XPost
  | .normal, g, h => D2 Kn g h
  | .ret, g, h => D0 Kr g h
  | _, _, _ => False
abbrev n3 (x0b : Option Addr) (x0n : Nat) (x0c : Nat) (x1b : Option Addr) (x1n : Nat) (x1c : Nat) (Kn : T0) (Kr : T0) (h : H) : Prop :=
  HCalls Try.prog 13 ⟨[(.slice x0b x0n x0c)]⟩ h fun v118 h119 => vSlice v118 fun s120b s120n s120c => n4 x0b x0n x0c x1b x1n x1c s120b s120n s120c Kn Kr h119
theorem n3_ok (x0b : Option Addr) (x0n : Nat) (x0c : Nat) (x1b : Option Addr) (x1n : Nat) (x1c : Nat) (Kn : T0) (Kr : T0) (g : Env) (hg : E1 g x0b x0n x0c x1b x1n x1c) (h : H) (hS : n3 x0b x0n x0c x1b x1n x1c Kn Kr h) : wpC none Try.prog 62 n2_c2 (Q0 Kn Kr) g h := by
  obtain ⟨hg0, hg1, hds⟩ := hg
  refine wpC_seq' (x := n3_c1) (y := n3_c2) (Q' := (Q3 (fun z0b z0n z0c z1b z1n z1c z5b z5n z5c h => n4 z0b z0n z0c z1b z1n z1c z5b z5n z5c Kn Kr h) Kr)) (by kernel_rfl) ?_ ?_
  · refine wpC_of_wpx (by kernel_rfl) (by kernel_rfl) (g' := ((⟨g.v, []⟩ : Env).upd (some 0) (.slice x0b x0n x0c)).upd (some 1) (.slice x1b x1n x1c)) (by rw [env_ds hds, upd_self hg0, upd_self hg1]) ?_
    have e : (n3 x0b x0n x0c x1b x1n x1c Kn Kr h) = wpx none Try.prog 62 n3_c1 (Q3 (fun z0b z0n z0c z1b z1n z1c z5b z5n z5c h => n4 z0b z0n z0c z1b z1n z1c z5b z5n z5c Kn Kr h) Kr) (((⟨g.v, []⟩ : Env).upd (some 0) (.slice x0b x0n x0c)).upd (some 1) (.slice x1b x1n x1c)) h := by kernel_rfl
    exact e ▸ hS
  · intro e g' h' hq
    cases e with
    | normal =>
      have hq : D2 (fun z0b z0n z0c z1b z1n z1c z5b z5n z5c h => n4 z0b z0n z0c z1b z1n z1c z5b z5n z5c Kn Kr h) g' h' := hq
      obtain ⟨y0b, y0n, y0c, y1b, y1n, y1c, y5b, y5n, y5c, hg', hq⟩ := D2_ok hq
      exact n4_ok y0b y0n y0c y1b y1n y1c y5b y5n y5c Kn Kr g' hg' h' hq
    | _ => exact hq
def Q4 (Kn : T1) (Kr : T0) : XPost
  | .normal, g, h => D1 Kn g h
  | .ret, g, h => D0 Kr g h
  | _, _, _ => False
abbrev n2 (x0b : Option Addr) (x0n : Nat) (x0c : Nat) (x1b : Option Addr) (x1n : Nat) (x1c : Nat) (Kn : T0) (Kr : T0) (h : H) : Prop :=
  HCalls Try.prog 29 ⟨[(.slice x0b x0n x0c), (.int .i64 (0 : Int)), (.int .i64 (600 : Int))]⟩ h fun v121 h122 => vInt .i64 v121 fun i123 => Spl (i123 > (600 : Int)) (Kr true h122) (HCalls Try.prog 29 ⟨[(.slice x1b x1n x1c), (.int .i64 (0 : Int)), (.int .i64 (600 : Int))]⟩ h122 fun v124 h125 => vInt .i64 v124 fun i126 => Spl (i126 > (600 : Int)) (Kr true h125) (n3 x0b x0n x0c x1b x1n x1c Kn Kr h125))
theorem n2_ok (x0b : Option Addr) (x0n : Nat) (x0c : Nat) (x1b : Option Addr) (x1n : Nat) (x1c : Nat) (Kn : T0) (Kr : T0) (g : Env) (hg : E1 g x0b x0n x0c x1b x1n x1c) (h : H) (hS : n2 x0b x0n x0c x1b x1n x1c Kn Kr h) : wpC none Try.prog 62 n1_c2 (Q0 Kn Kr) g h := by
  obtain ⟨hg0, hg1, hds⟩ := hg
  refine wpC_seq' (x := n2_c1) (y := n2_c2) (Q' := (Q4 (fun z0b z0n z0c z1b z1n z1c h => n3 z0b z0n z0c z1b z1n z1c Kn Kr h) Kr)) (by kernel_rfl) ?_ ?_
  · refine wpC_of_wpx (by kernel_rfl) (by kernel_rfl) (g' := ((⟨g.v, []⟩ : Env).upd (some 0) (.slice x0b x0n x0c)).upd (some 1) (.slice x1b x1n x1c)) (by rw [env_ds hds, upd_self hg0, upd_self hg1]) ?_
    have e : (n2 x0b x0n x0c x1b x1n x1c Kn Kr h) = wpx none Try.prog 62 n2_c1 (Q4 (fun z0b z0n z0c z1b z1n z1c h => n3 z0b z0n z0c z1b z1n z1c Kn Kr h) Kr) (((⟨g.v, []⟩ : Env).upd (some 0) (.slice x0b x0n x0c)).upd (some 1) (.slice x1b x1n x1c)) h := by kernel_rfl
    exact e ▸ hS
  · intro e g' h' hq
    cases e with
    | normal =>
      have hq : D1 (fun z0b z0n z0c z1b z1n z1c h => n3 z0b z0n z0c z1b z1n z1c Kn Kr h) g' h' := hq
      obtain ⟨y0b, y0n, y0c, y1b, y1n, y1c, hg', hq⟩ := D1_ok hq
      exact n3_ok y0b y0n y0c y1b y1n y1c Kn Kr g' hg' h' hq
    | _ => exact hq
abbrev n1 (x0b : Option Addr) (x0n : Nat) (x0c : Nat) (x1b : Option Addr) (x1n : Nat) (x1c : Nat) (Kn : T0) (Kr : T0) (h : H) : Prop :=
  n2 x0b x0n x0c x1b x1n x1c Kn Kr h
theorem n1_ok (x0b : Option Addr) (x0n : Nat) (x0c : Nat) (x1b : Option Addr) (x1n : Nat) (x1c : Nat) (Kn : T0) (Kr : T0) (g : Env) (hg : E1 g x0b x0n x0c x1b x1n x1c) (h : H) (hS : n1 x0b x0n x0c x1b x1n x1c Kn Kr h) : wpC none Try.prog 62 code (Q0 Kn Kr) g h := by
  obtain ⟨hg0, hg1, hds⟩ := hg
  refine wpC_seq' (x := n1_c1) (y := n1_c2) (Q' := (Q4 (fun z0b z0n z0c z1b z1n z1c h => n2 z0b z0n z0c z1b z1n z1c Kn Kr h) Kr)) (by kernel_rfl) ?_ ?_
  · refine wpC_of_wpx (by kernel_rfl) (by kernel_rfl) (g' := ((⟨g.v, []⟩ : Env).upd (some 0) (.slice x0b x0n x0c)).upd (some 1) (.slice x1b x1n x1c)) (by rw [env_ds hds, upd_self hg0, upd_self hg1]) ?_
    have e : (n1 x0b x0n x0c x1b x1n x1c Kn Kr h) = wpx none Try.prog 62 n1_c1 (Q4 (fun z0b z0n z0c z1b z1n z1c h => n2 z0b z0n z0c z1b z1n z1c Kn Kr h) Kr) (((⟨g.v, []⟩ : Env).upd (some 0) (.slice x0b x0n x0c)).upd (some 1) (.slice x1b x1n x1c)) h := by kernel_rfl
    exact e ▸ hS
  · intro e g' h' hq
    cases e with
    | normal =>
      have hq : D1 (fun z0b z0n z0c z1b z1n z1c h => n2 z0b z0n z0c z1b z1n z1c Kn Kr h) g' h' := hq
      obtain ⟨y0b, y0n, y0c, y1b, y1n, y1c, hg', hq⟩ := D1_ok hq
      exact n2_ok y0b y0n y0c y1b y1n y1c Kn Kr g' hg' h' hq
    | _ => exact hq
/-- WHAT tympan/tympanlaw10.DomSame ASKS -/
abbrev asks (x0b : Option Addr) (x0n : Nat) (x0c : Nat) (x1b : Option Addr) (x1n : Nat) (x1c : Nat) (K : Value → H → Prop) (h : H) : Prop := n1 x0b x0n x0c x1b x1n x1c (fun y4 h => K (.bool y4) h) (fun y4 h => K (.bool y4) h) h
theorem ok (x0b : Option Addr) (x0n : Nat) (x0c : Nat) (x1b : Option Addr) (x1n : Nat) (x1c : Nat) (K : Value → H → Prop) (h : H) (hS : asks x0b x0n x0c x1b x1n x1c K h) : HCalls Try.prog 5 ⟨[(.slice x0b x0n x0c), (.slice x1b x1n x1c)]⟩ h K := by
  refine calls_of_wpC (c := code) Try.func5 (by kernel_rfl) (Nat.le_of_ble_eq_true (by kernel_rfl)) ?_
  refine (n1_ok x0b x0n x0c x1b x1n x1c (fun y4 h => K (.bool y4) h) (fun y4 h => K (.bool y4) h) (env0 [(.slice x0b x0n x0c), (.slice x1b x1n x1c)]) ⟨rfl, rfl, rfl⟩ h hS).mono ?_
  intro e g' h' hq
  cases e with
  | normal =>
    have hq : D0 (fun y4 h => K (.bool y4) h) g' h' := hq
    obtain ⟨y4, ⟨hg4, hd⟩, hq⟩ := D0_ok hq
    show leaveX g'.ds h' _
    rw [hd]
    show K (g'.v 4) h'
    rw [hg4]
    exact hq
  | ret =>
    have hq : D0 (fun y4 h => K (.bool y4) h) g' h' := hq
    obtain ⟨y4, ⟨hg4, hd⟩, hq⟩ := D0_ok hq
    show leaveX g'.ds h' _
    rw [hd]
    show K (g'.v 4) h'
    rw [hg4]
    exact hq
  | _ => exact hq
end Sx.l10_DomSame

/-! ### tympan/tympanlaw10.DomBack -/
namespace Sx.l10_DomBack
noncomputable def code : Code := bodyOf Try.f6
abbrev T0 := Bool → H → Prop
def E0 (g : Env) (x4 : Bool) : Prop := g.v 4 = (.bool x4) ∧ g.ds = []
def D0 (K : T0) (g : Env) (h : H) : Prop := nilDs g.ds (vBool (g.v 4) fun b1 => K b1 h)
theorem D0_ok {K : T0} {g : Env} {h : H} (hq : D0 K g h) : ∃ (x4 : Bool), E0 g x4 ∧ K x4 h := by
  obtain ⟨hd, hq⟩ := nilDs_ok hq
  obtain ⟨y3, e2, q4⟩ := vBool_ok hq
  exact ⟨y3, ⟨e2, hd⟩, q4⟩
def Q0 (Kn : T0) (Kr : T0) : XPost
  | .normal, g, h => D0 Kn g h
  | .ret, g, h => D0 Kr g h
  | _, _, _ => False
abbrev T1 := (Option Addr) → Nat → Nat → Int → Int → (List UInt8) → (Option Addr) → Nat → Nat → (List UInt8) → (Option Addr) → Nat → Nat → H → Prop
def E1 (g : Env) (x0b : Option Addr) (x0n : Nat) (x0c : Nat) (x1_0 : Int) (x1_1 : Int) (x1_2 : List UInt8) (x1_3b : Option Addr) (x1_3n : Nat) (x1_3c : Nat) (x1_4 : List UInt8) (x1_5b : Option Addr) (x1_5n : Nat) (x1_5c : Nat) : Prop := g.v 0 = (.slice x0b x0n x0c) ∧ g.v 1 = (.agg ⟨[(.int .u8 x1_0), (.int .u8 x1_1), (S x1_2), (.slice x1_3b x1_3n x1_3c), (S x1_4), (.slice x1_5b x1_5n x1_5c)]⟩) ∧ g.ds = []
def D1 (K : T1) (g : Env) (h : H) : Prop := nilDs g.ds (vSlice (g.v 0) fun s5b s5n s5c => vAgg (g.v 1) fun l6 => uncons l6 fun e7 l8 => vInt .u8 e7 fun i9 => uncons l8 fun e10 l11 => vInt .u8 e10 fun i12 => uncons l11 fun e13 l14 => vStr e13 fun s15 => uncons l14 fun e16 l17 => vSlice e16 fun s18b s18n s18c => uncons l17 fun e19 l20 => vStr e19 fun s21 => uncons l20 fun e22 l23 => vSlice e22 fun s24b s24n s24c => unnil l23 (K s5b s5n s5c i9 i12 s15 s18b s18n s18c s21 s24b s24n s24c h))
theorem D1_ok {K : T1} {g : Env} {h : H} (hq : D1 K g h) : ∃ (x0b : Option Addr) (x0n : Nat) (x0c : Nat) (x1_0 : Int) (x1_1 : Int) (x1_2 : List UInt8) (x1_3b : Option Addr) (x1_3n : Nat) (x1_3c : Nat) (x1_4 : List UInt8) (x1_5b : Option Addr) (x1_5n : Nat) (x1_5c : Nat), E1 g x0b x0n x0c x1_0 x1_1 x1_2 x1_3b x1_3n x1_3c x1_4 x1_5b x1_5n x1_5c ∧ K x0b x0n x0c x1_0 x1_1 x1_2 x1_3b x1_3n x1_3c x1_4 x1_5b x1_5n x1_5c h := by
  obtain ⟨hd, hq⟩ := nilDs_ok hq
  obtain ⟨y26b, y26n, y26c, e25, q27⟩ := vSlice_ok hq
  obtain ⟨l29, e28, q30⟩ := vAgg_ok q27
  obtain ⟨u31, l32, rfl, q33⟩ := uncons_ok q30
  obtain ⟨y34, rfl, q35⟩ := vInt_ok q33
  obtain ⟨u36, l37, rfl, q38⟩ := uncons_ok q35
  obtain ⟨y39, rfl, q40⟩ := vInt_ok q38
  obtain ⟨u41, l42, rfl, q43⟩ := uncons_ok q40
  obtain ⟨y44, rfl, q45⟩ := vStr_ok q43
  obtain ⟨u46, l47, rfl, q48⟩ := uncons_ok q45
  obtain ⟨y49b, y49n, y49c, rfl, q50⟩ := vSlice_ok q48
  obtain ⟨u51, l52, rfl, q53⟩ := uncons_ok q50
  obtain ⟨y54, rfl, q55⟩ := vStr_ok q53
  obtain ⟨u56, l57, rfl, q58⟩ := uncons_ok q55
  obtain ⟨y59b, y59n, y59c, rfl, q60⟩ := vSlice_ok q58
  obtain ⟨rfl, q61⟩ := unnil_ok q60
  exact ⟨y26b, y26n, y26c, y34, y39, y44, y49b, y49n, y49c, y54, y59b, y59n, y59c, ⟨e25, e28, hd⟩, q61⟩
noncomputable def n1_c1 : Code := cFst code
noncomputable def n1_c2 : Code := cSnd code
abbrev T2 := (Option Addr) → Nat → Nat → Addr → H → Prop
def E2 (g : Env) (x0b : Option Addr) (x0n : Nat) (x0c : Nat) (x3 : Addr) : Prop := g.v 0 = (.slice x0b x0n x0c) ∧ g.v 3 = (.pointer (some x3)) ∧ g.ds = []
def D2 (K : T2) (g : Env) (h : H) : Prop := nilDs g.ds (vSlice (g.v 0) fun s62b s62n s62c => vAddr (g.v 3) fun a63 => K s62b s62n s62c a63 h)
theorem D2_ok {K : T2} {g : Env} {h : H} (hq : D2 K g h) : ∃ (x0b : Option Addr) (x0n : Nat) (x0c : Nat) (x3 : Addr), E2 g x0b x0n x0c x3 ∧ K x0b x0n x0c x3 h := by
  obtain ⟨hd, hq⟩ := nilDs_ok hq
  obtain ⟨y65b, y65n, y65c, e64, q66⟩ := vSlice_ok hq
  obtain ⟨y68, e67, q69⟩ := vAddr_ok q66
  exact ⟨y65b, y65n, y65c, y68, ⟨e64, e67, hd⟩, q69⟩
noncomputable def n2_c1 : Code := cFst n1_c2
noncomputable def n2_c2 : Code := cSnd n1_c2
noncomputable def n3_c1 : Code := cFst n2_c2
noncomputable def n3_c2 : Code := cSnd n2_c2
abbrev T3 := (Option Addr) → Nat → Nat → Addr → (Option Addr) → H → Prop
def E3 (g : Env) (x0b : Option Addr) (x0n : Nat) (x0c : Nat) (x3 : Addr) (x5 : Option Addr) : Prop := g.v 0 = (.slice x0b x0n x0c) ∧ g.v 3 = (.pointer (some x3)) ∧ g.v 5 = (.pointer x5) ∧ g.ds = []
def D3 (K : T3) (g : Env) (h : H) : Prop := nilDs g.ds (vSlice (g.v 0) fun s70b s70n s70c => vAddr (g.v 3) fun a71 => vPtr (g.v 5) fun p72 => K s70b s70n s70c a71 p72 h)
theorem D3_ok {K : T3} {g : Env} {h : H} (hq : D3 K g h) : ∃ (x0b : Option Addr) (x0n : Nat) (x0c : Nat) (x3 : Addr) (x5 : Option Addr), E3 g x0b x0n x0c x3 x5 ∧ K x0b x0n x0c x3 x5 h := by
  obtain ⟨hd, hq⟩ := nilDs_ok hq
  obtain ⟨y74b, y74n, y74c, e73, q75⟩ := vSlice_ok hq
  obtain ⟨y77, e76, q78⟩ := vAddr_ok q75
  obtain ⟨y80, e79, q81⟩ := vPtr_ok q78
  exact ⟨y74b, y74n, y74c, y77, y80, ⟨e73, e76, e79, hd⟩, q81⟩
noncomputable def n4_c1 : Code := cFst n3_c2
noncomputable def n4_c2 : Code := cSnd n3_c2
abbrev T4 := Addr → (Option Addr) → H → Prop
def E4 (g : Env) (x3 : Addr) (x5 : Option Addr) : Prop := g.v 3 = (.pointer (some x3)) ∧ g.v 5 = (.pointer x5) ∧ g.ds = []
def D4 (K : T4) (g : Env) (h : H) : Prop := nilDs g.ds (vAddr (g.v 3) fun a82 => vPtr (g.v 5) fun p83 => K a82 p83 h)
theorem D4_ok {K : T4} {g : Env} {h : H} (hq : D4 K g h) : ∃ (x3 : Addr) (x5 : Option Addr), E4 g x3 x5 ∧ K x3 x5 h := by
  obtain ⟨hd, hq⟩ := nilDs_ok hq
  obtain ⟨y85, e84, q86⟩ := vAddr_ok hq
  obtain ⟨y88, e87, q89⟩ := vPtr_ok q86
  exact ⟨y85, y88, ⟨e84, e87, hd⟩, q89⟩
noncomputable def n5_c1 : Code := cFst n4_c2
noncomputable def n5_c2 : Code := cSnd n4_c2
abbrev T5 := Addr → (Option Addr) → (Option Addr) → Nat → Nat → H → Prop
def E5 (g : Env) (x3 : Addr) (x5 : Option Addr) (x8b : Option Addr) (x8n : Nat) (x8c : Nat) : Prop := g.v 3 = (.pointer (some x3)) ∧ g.v 5 = (.pointer x5) ∧ g.v 8 = (.slice x8b x8n x8c) ∧ g.ds = []
def D5 (K : T5) (g : Env) (h : H) : Prop := nilDs g.ds (vAddr (g.v 3) fun a90 => vPtr (g.v 5) fun p91 => vSlice (g.v 8) fun s92b s92n s92c => K a90 p91 s92b s92n s92c h)
theorem D5_ok {K : T5} {g : Env} {h : H} (hq : D5 K g h) : ∃ (x3 : Addr) (x5 : Option Addr) (x8b : Option Addr) (x8n : Nat) (x8c : Nat), E5 g x3 x5 x8b x8n x8c ∧ K x3 x5 x8b x8n x8c h := by
  obtain ⟨hd, hq⟩ := nilDs_ok hq
  obtain ⟨y94, e93, q95⟩ := vAddr_ok hq
  obtain ⟨y97, e96, q98⟩ := vPtr_ok q95
  obtain ⟨y100b, y100n, y100c, e99, q101⟩ := vSlice_ok q98
  exact ⟨y94, y97, y100b, y100n, y100c, ⟨e93, e96, e99, hd⟩, q101⟩
noncomputable def n6_c1 : Code := cFst n5_c2
noncomputable def n6_c2 : Code := cSnd n5_c2
abbrev T6 := Addr → (Option Addr) → (Option Addr) → Nat → Nat → Int → H → Prop
def E6 (g : Env) (x3 : Addr) (x5 : Option Addr) (x8b : Option Addr) (x8n : Nat) (x8c : Nat) (x9 : Int) : Prop := g.v 3 = (.pointer (some x3)) ∧ g.v 5 = (.pointer x5) ∧ g.v 8 = (.slice x8b x8n x8c) ∧ g.v 9 = (.int .i64 x9) ∧ g.ds = []
def D6 (K : T6) (g : Env) (h : H) : Prop := nilDs g.ds (vAddr (g.v 3) fun a102 => vPtr (g.v 5) fun p103 => vSlice (g.v 8) fun s104b s104n s104c => vInt .i64 (g.v 9) fun i105 => K a102 p103 s104b s104n s104c i105 h)
theorem D6_ok {K : T6} {g : Env} {h : H} (hq : D6 K g h) : ∃ (x3 : Addr) (x5 : Option Addr) (x8b : Option Addr) (x8n : Nat) (x8c : Nat) (x9 : Int), E6 g x3 x5 x8b x8n x8c x9 ∧ K x3 x5 x8b x8n x8c x9 h := by
  obtain ⟨hd, hq⟩ := nilDs_ok hq
  obtain ⟨y107, e106, q108⟩ := vAddr_ok hq
  obtain ⟨y110, e109, q111⟩ := vPtr_ok q108
  obtain ⟨y113b, y113n, y113c, e112, q114⟩ := vSlice_ok q111
  obtain ⟨y116, e115, q117⟩ := vInt_ok q114
  exact ⟨y107, y110, y113b, y113n, y113c, y116, ⟨e106, e109, e112, e115, hd⟩, q117⟩
noncomputable def n7_c1 : Code := cFst n6_c2
noncomputable def n7_c2 : Code := cSnd n6_c2
abbrev T7 := (Option Addr) → (Option Addr) → Nat → Nat → Int → H → Prop
def E7 (g : Env) (x5 : Option Addr) (x8b : Option Addr) (x8n : Nat) (x8c : Nat) (x9 : Int) : Prop := g.v 5 = (.pointer x5) ∧ g.v 8 = (.slice x8b x8n x8c) ∧ g.v 9 = (.int .i64 x9) ∧ g.ds = []
def D7 (K : T7) (g : Env) (h : H) : Prop := nilDs g.ds (vPtr (g.v 5) fun p118 => vSlice (g.v 8) fun s119b s119n s119c => vInt .i64 (g.v 9) fun i120 => K p118 s119b s119n s119c i120 h)
theorem D7_ok {K : T7} {g : Env} {h : H} (hq : D7 K g h) : ∃ (x5 : Option Addr) (x8b : Option Addr) (x8n : Nat) (x8c : Nat) (x9 : Int), E7 g x5 x8b x8n x8c x9 ∧ K x5 x8b x8n x8c x9 h := by
  obtain ⟨hd, hq⟩ := nilDs_ok hq
  obtain ⟨y122, e121, q123⟩ := vPtr_ok hq
  obtain ⟨y125b, y125n, y125c, e124, q126⟩ := vSlice_ok q123
  obtain ⟨y128, e127, q129⟩ := vInt_ok q126
  exact ⟨y122, y125b, y125n, y125c, y128, ⟨e121, e124, e127, hd⟩, q129⟩
noncomputable def n8_c1 : Code := cFst n7_c2
noncomputable def n8_c2 : Code := cSnd n7_c2
abbrev T8 := (Option Addr) → (Option Addr) → Nat → Nat → Int → Int → H → Prop
def E8 (g : Env) (x5 : Option Addr) (x8b : Option Addr) (x8n : Nat) (x8c : Nat) (x9 : Int) (x10 : Int) : Prop := g.v 5 = (.pointer x5) ∧ g.v 8 = (.slice x8b x8n x8c) ∧ g.v 9 = (.int .i64 x9) ∧ g.v 10 = (.int .i64 x10) ∧ g.ds = []
def D8 (K : T8) (g : Env) (h : H) : Prop := nilDs g.ds (vPtr (g.v 5) fun p130 => vSlice (g.v 8) fun s131b s131n s131c => vInt .i64 (g.v 9) fun i132 => vInt .i64 (g.v 10) fun i133 => K p130 s131b s131n s131c i132 i133 h)
theorem D8_ok {K : T8} {g : Env} {h : H} (hq : D8 K g h) : ∃ (x5 : Option Addr) (x8b : Option Addr) (x8n : Nat) (x8c : Nat) (x9 : Int) (x10 : Int), E8 g x5 x8b x8n x8c x9 x10 ∧ K x5 x8b x8n x8c x9 x10 h := by
  obtain ⟨hd, hq⟩ := nilDs_ok hq
  obtain ⟨y135, e134, q136⟩ := vPtr_ok hq
  obtain ⟨y138b, y138n, y138c, e137, q139⟩ := vSlice_ok q136
  obtain ⟨y141, e140, q142⟩ := vInt_ok q139
  obtain ⟨y144, e143, q145⟩ := vInt_ok q142
  exact ⟨y135, y138b, y138n, y138c, y141, y144, ⟨e134, e137, e140, e143, hd⟩, q145⟩
noncomputable def n9_c1 : Code := cFst n8_c2
noncomputable def n9_c2 : Code := cSnd n8_c2
abbrev T9 := (Option Addr) → (Option Addr) → Nat → Nat → Int → Int → (Option Addr) → Nat → Nat → H → Prop
def E9 (g : Env) (x5 : Option Addr) (x8b : Option Addr) (x8n : Nat) (x8c : Nat) (x9 : Int) (x10 : Int) (x11b : Option Addr) (x11n : Nat) (x11c : Nat) : Prop := g.v 5 = (.pointer x5) ∧ g.v 8 = (.slice x8b x8n x8c) ∧ g.v 9 = (.int .i64 x9) ∧ g.v 10 = (.int .i64 x10) ∧ g.v 11 = (.slice x11b x11n x11c) ∧ g.ds = []
def D9 (K : T9) (g : Env) (h : H) : Prop := nilDs g.ds (vPtr (g.v 5) fun p146 => vSlice (g.v 8) fun s147b s147n s147c => vInt .i64 (g.v 9) fun i148 => vInt .i64 (g.v 10) fun i149 => vSlice (g.v 11) fun s150b s150n s150c => K p146 s147b s147n s147c i148 i149 s150b s150n s150c h)
theorem D9_ok {K : T9} {g : Env} {h : H} (hq : D9 K g h) : ∃ (x5 : Option Addr) (x8b : Option Addr) (x8n : Nat) (x8c : Nat) (x9 : Int) (x10 : Int) (x11b : Option Addr) (x11n : Nat) (x11c : Nat), E9 g x5 x8b x8n x8c x9 x10 x11b x11n x11c ∧ K x5 x8b x8n x8c x9 x10 x11b x11n x11c h := by
  obtain ⟨hd, hq⟩ := nilDs_ok hq
  obtain ⟨y152, e151, q153⟩ := vPtr_ok hq
  obtain ⟨y155b, y155n, y155c, e154, q156⟩ := vSlice_ok q153
  obtain ⟨y158, e157, q159⟩ := vInt_ok q156
  obtain ⟨y161, e160, q162⟩ := vInt_ok q159
  obtain ⟨y164b, y164n, y164c, e163, q165⟩ := vSlice_ok q162
  exact ⟨y152, y155b, y155n, y155c, y158, y161, y164b, y164n, y164c, ⟨e151, e154, e157, e160, e163, hd⟩, q165⟩
noncomputable def n10_c1 : Code := cFst n9_c2
noncomputable def n10_c2 : Code := cSnd n9_c2
abbrev T10 := (Option Addr) → (Option Addr) → Nat → Nat → Int → Int → (Option Addr) → Nat → Nat → Bool → H → Prop
def E10 (g : Env) (x5 : Option Addr) (x8b : Option Addr) (x8n : Nat) (x8c : Nat) (x9 : Int) (x10 : Int) (x11b : Option Addr) (x11n : Nat) (x11c : Nat) (x12 : Bool) : Prop := g.v 5 = (.pointer x5) ∧ g.v 8 = (.slice x8b x8n x8c) ∧ g.v 9 = (.int .i64 x9) ∧ g.v 10 = (.int .i64 x10) ∧ g.v 11 = (.slice x11b x11n x11c) ∧ g.v 12 = (.bool x12) ∧ g.ds = []
def D10 (K : T10) (g : Env) (h : H) : Prop := nilDs g.ds (vPtr (g.v 5) fun p166 => vSlice (g.v 8) fun s167b s167n s167c => vInt .i64 (g.v 9) fun i168 => vInt .i64 (g.v 10) fun i169 => vSlice (g.v 11) fun s170b s170n s170c => vBool (g.v 12) fun b171 => K p166 s167b s167n s167c i168 i169 s170b s170n s170c b171 h)
theorem D10_ok {K : T10} {g : Env} {h : H} (hq : D10 K g h) : ∃ (x5 : Option Addr) (x8b : Option Addr) (x8n : Nat) (x8c : Nat) (x9 : Int) (x10 : Int) (x11b : Option Addr) (x11n : Nat) (x11c : Nat) (x12 : Bool), E10 g x5 x8b x8n x8c x9 x10 x11b x11n x11c x12 ∧ K x5 x8b x8n x8c x9 x10 x11b x11n x11c x12 h := by
  obtain ⟨hd, hq⟩ := nilDs_ok hq
  obtain ⟨y173, e172, q174⟩ := vPtr_ok hq
  obtain ⟨y176b, y176n, y176c, e175, q177⟩ := vSlice_ok q174
  obtain ⟨y179, e178, q180⟩ := vInt_ok q177
  obtain ⟨y182, e181, q183⟩ := vInt_ok q180
  obtain ⟨y185b, y185n, y185c, e184, q186⟩ := vSlice_ok q183
  obtain ⟨y188, e187, q189⟩ := vBool_ok q186
  exact ⟨y173, y176b, y176n, y176c, y179, y182, y185b, y185n, y185c, y188, ⟨e172, e175, e178, e181, e184, e187, hd⟩, q189⟩
noncomputable def n11_c1 : Code := cFst n10_c2
noncomputable def n11_c2 : Code := cSnd n10_c2
abbrev T11 := (Option Addr) → (Option Addr) → Nat → Nat → Int → Int → (Option Addr) → Nat → Nat → Bool → (Option Addr) → Nat → Nat → H → Prop
def E11 (g : Env) (x5 : Option Addr) (x8b : Option Addr) (x8n : Nat) (x8c : Nat) (x9 : Int) (x10 : Int) (x11b : Option Addr) (x11n : Nat) (x11c : Nat) (x12 : Bool) (x13b : Option Addr) (x13n : Nat) (x13c : Nat) : Prop := g.v 5 = (.pointer x5) ∧ g.v 8 = (.slice x8b x8n x8c) ∧ g.v 9 = (.int .i64 x9) ∧ g.v 10 = (.int .i64 x10) ∧ g.v 11 = (.slice x11b x11n x11c) ∧ g.v 12 = (.bool x12) ∧ g.v 13 = (.slice x13b x13n x13c) ∧ g.ds = []
def D11 (K : T11) (g : Env) (h : H) : Prop := nilDs g.ds (vPtr (g.v 5) fun p190 => vSlice (g.v 8) fun s191b s191n s191c => vInt .i64 (g.v 9) fun i192 => vInt .i64 (g.v 10) fun i193 => vSlice (g.v 11) fun s194b s194n s194c => vBool (g.v 12) fun b195 => vSlice (g.v 13) fun s196b s196n s196c => K p190 s191b s191n s191c i192 i193 s194b s194n s194c b195 s196b s196n s196c h)
theorem D11_ok {K : T11} {g : Env} {h : H} (hq : D11 K g h) : ∃ (x5 : Option Addr) (x8b : Option Addr) (x8n : Nat) (x8c : Nat) (x9 : Int) (x10 : Int) (x11b : Option Addr) (x11n : Nat) (x11c : Nat) (x12 : Bool) (x13b : Option Addr) (x13n : Nat) (x13c : Nat), E11 g x5 x8b x8n x8c x9 x10 x11b x11n x11c x12 x13b x13n x13c ∧ K x5 x8b x8n x8c x9 x10 x11b x11n x11c x12 x13b x13n x13c h := by
  obtain ⟨hd, hq⟩ := nilDs_ok hq
  obtain ⟨y198, e197, q199⟩ := vPtr_ok hq
  obtain ⟨y201b, y201n, y201c, e200, q202⟩ := vSlice_ok q199
  obtain ⟨y204, e203, q205⟩ := vInt_ok q202
  obtain ⟨y207, e206, q208⟩ := vInt_ok q205
  obtain ⟨y210b, y210n, y210c, e209, q211⟩ := vSlice_ok q208
  obtain ⟨y213, e212, q214⟩ := vBool_ok q211
  obtain ⟨y216b, y216n, y216c, e215, q217⟩ := vSlice_ok q214
  exact ⟨y198, y201b, y201n, y201c, y204, y207, y210b, y210n, y210c, y213, y216b, y216n, y216c, ⟨e197, e200, e203, e206, e209, e212, e215, hd⟩, q217⟩
noncomputable def n12_c1 : Code := cFst n11_c2
noncomputable def n12_c2 : Code := cSnd n11_c2
abbrev T12 := (Option Addr) → (Option Addr) → Nat → Nat → Int → Int → (Option Addr) → Nat → Nat → Bool → (Option Addr) → Nat → Nat → Bool → H → Prop
def E12 (g : Env) (x5 : Option Addr) (x8b : Option Addr) (x8n : Nat) (x8c : Nat) (x9 : Int) (x10 : Int) (x11b : Option Addr) (x11n : Nat) (x11c : Nat) (x12 : Bool) (x13b : Option Addr) (x13n : Nat) (x13c : Nat) (x14 : Bool) : Prop := g.v 5 = (.pointer x5) ∧ g.v 8 = (.slice x8b x8n x8c) ∧ g.v 9 = (.int .i64 x9) ∧ g.v 10 = (.int .i64 x10) ∧ g.v 11 = (.slice x11b x11n x11c) ∧ g.v 12 = (.bool x12) ∧ g.v 13 = (.slice x13b x13n x13c) ∧ g.v 14 = (.bool x14) ∧ g.ds = []
def D12 (K : T12) (g : Env) (h : H) : Prop := nilDs g.ds (vPtr (g.v 5) fun p218 => vSlice (g.v 8) fun s219b s219n s219c => vInt .i64 (g.v 9) fun i220 => vInt .i64 (g.v 10) fun i221 => vSlice (g.v 11) fun s222b s222n s222c => vBool (g.v 12) fun b223 => vSlice (g.v 13) fun s224b s224n s224c => vBool (g.v 14) fun b225 => K p218 s219b s219n s219c i220 i221 s222b s222n s222c b223 s224b s224n s224c b225 h)
theorem D12_ok {K : T12} {g : Env} {h : H} (hq : D12 K g h) : ∃ (x5 : Option Addr) (x8b : Option Addr) (x8n : Nat) (x8c : Nat) (x9 : Int) (x10 : Int) (x11b : Option Addr) (x11n : Nat) (x11c : Nat) (x12 : Bool) (x13b : Option Addr) (x13n : Nat) (x13c : Nat) (x14 : Bool), E12 g x5 x8b x8n x8c x9 x10 x11b x11n x11c x12 x13b x13n x13c x14 ∧ K x5 x8b x8n x8c x9 x10 x11b x11n x11c x12 x13b x13n x13c x14 h := by
  obtain ⟨hd, hq⟩ := nilDs_ok hq
  obtain ⟨y227, e226, q228⟩ := vPtr_ok hq
  obtain ⟨y230b, y230n, y230c, e229, q231⟩ := vSlice_ok q228
  obtain ⟨y233, e232, q234⟩ := vInt_ok q231
  obtain ⟨y236, e235, q237⟩ := vInt_ok q234
  obtain ⟨y239b, y239n, y239c, e238, q240⟩ := vSlice_ok q237
  obtain ⟨y242, e241, q243⟩ := vBool_ok q240
  obtain ⟨y245b, y245n, y245c, e244, q246⟩ := vSlice_ok q243
  obtain ⟨y248, e247, q249⟩ := vBool_ok q246
  exact ⟨y227, y230b, y230n, y230c, y233, y236, y239b, y239n, y239c, y242, y245b, y245n, y245c, y248, ⟨e226, e229, e232, e235, e238, e241, e244, e247, hd⟩, q249⟩
noncomputable def n13_c1 : Code := cFst n12_c2
noncomputable def n13_c2 : Code := cSnd n12_c2
abbrev T13 := (Option Addr) → (Option Addr) → Nat → Nat → Int → Int → (Option Addr) → Nat → Nat → Bool → (Option Addr) → Nat → Nat → Bool → (Option Addr) → Nat → Nat → H → Prop
def E13 (g : Env) (x5 : Option Addr) (x8b : Option Addr) (x8n : Nat) (x8c : Nat) (x9 : Int) (x10 : Int) (x11b : Option Addr) (x11n : Nat) (x11c : Nat) (x12 : Bool) (x13b : Option Addr) (x13n : Nat) (x13c : Nat) (x14 : Bool) (x15b : Option Addr) (x15n : Nat) (x15c : Nat) : Prop := g.v 5 = (.pointer x5) ∧ g.v 8 = (.slice x8b x8n x8c) ∧ g.v 9 = (.int .i64 x9) ∧ g.v 10 = (.int .i64 x10) ∧ g.v 11 = (.slice x11b x11n x11c) ∧ g.v 12 = (.bool x12) ∧ g.v 13 = (.slice x13b x13n x13c) ∧ g.v 14 = (.bool x14) ∧ g.v 15 = (.slice x15b x15n x15c) ∧ g.ds = []
def D13 (K : T13) (g : Env) (h : H) : Prop := nilDs g.ds (vPtr (g.v 5) fun p250 => vSlice (g.v 8) fun s251b s251n s251c => vInt .i64 (g.v 9) fun i252 => vInt .i64 (g.v 10) fun i253 => vSlice (g.v 11) fun s254b s254n s254c => vBool (g.v 12) fun b255 => vSlice (g.v 13) fun s256b s256n s256c => vBool (g.v 14) fun b257 => vSlice (g.v 15) fun s258b s258n s258c => K p250 s251b s251n s251c i252 i253 s254b s254n s254c b255 s256b s256n s256c b257 s258b s258n s258c h)
theorem D13_ok {K : T13} {g : Env} {h : H} (hq : D13 K g h) : ∃ (x5 : Option Addr) (x8b : Option Addr) (x8n : Nat) (x8c : Nat) (x9 : Int) (x10 : Int) (x11b : Option Addr) (x11n : Nat) (x11c : Nat) (x12 : Bool) (x13b : Option Addr) (x13n : Nat) (x13c : Nat) (x14 : Bool) (x15b : Option Addr) (x15n : Nat) (x15c : Nat), E13 g x5 x8b x8n x8c x9 x10 x11b x11n x11c x12 x13b x13n x13c x14 x15b x15n x15c ∧ K x5 x8b x8n x8c x9 x10 x11b x11n x11c x12 x13b x13n x13c x14 x15b x15n x15c h := by
  obtain ⟨hd, hq⟩ := nilDs_ok hq
  obtain ⟨y260, e259, q261⟩ := vPtr_ok hq
  obtain ⟨y263b, y263n, y263c, e262, q264⟩ := vSlice_ok q261
  obtain ⟨y266, e265, q267⟩ := vInt_ok q264
  obtain ⟨y269, e268, q270⟩ := vInt_ok q267
  obtain ⟨y272b, y272n, y272c, e271, q273⟩ := vSlice_ok q270
  obtain ⟨y275, e274, q276⟩ := vBool_ok q273
  obtain ⟨y278b, y278n, y278c, e277, q279⟩ := vSlice_ok q276
  obtain ⟨y281, e280, q282⟩ := vBool_ok q279
  obtain ⟨y284b, y284n, y284c, e283, q285⟩ := vSlice_ok q282
  exact ⟨y260, y263b, y263n, y263c, y266, y269, y272b, y272n, y272c, y275, y278b, y278n, y278c, y281, y284b, y284n, y284c, ⟨e259, e262, e265, e268, e271, e274, e277, e280, e283, hd⟩, q285⟩
noncomputable def n14_c1 : Code := cFst n13_c2
noncomputable def n14_c2 : Code := cSnd n13_c2
abbrev T14 := (Option Addr) → (Option Addr) → Nat → Nat → Int → (Option Addr) → Nat → Nat → Bool → (Option Addr) → Nat → Nat → Bool → (Option Addr) → Nat → Nat → Bool → H → Prop
def E14 (g : Env) (x5 : Option Addr) (x8b : Option Addr) (x8n : Nat) (x8c : Nat) (x10 : Int) (x11b : Option Addr) (x11n : Nat) (x11c : Nat) (x12 : Bool) (x13b : Option Addr) (x13n : Nat) (x13c : Nat) (x14 : Bool) (x15b : Option Addr) (x15n : Nat) (x15c : Nat) (x16 : Bool) : Prop := g.v 5 = (.pointer x5) ∧ g.v 8 = (.slice x8b x8n x8c) ∧ g.v 10 = (.int .i64 x10) ∧ g.v 11 = (.slice x11b x11n x11c) ∧ g.v 12 = (.bool x12) ∧ g.v 13 = (.slice x13b x13n x13c) ∧ g.v 14 = (.bool x14) ∧ g.v 15 = (.slice x15b x15n x15c) ∧ g.v 16 = (.bool x16) ∧ g.ds = []
def D14 (K : T14) (g : Env) (h : H) : Prop := nilDs g.ds (vPtr (g.v 5) fun p286 => vSlice (g.v 8) fun s287b s287n s287c => vInt .i64 (g.v 10) fun i288 => vSlice (g.v 11) fun s289b s289n s289c => vBool (g.v 12) fun b290 => vSlice (g.v 13) fun s291b s291n s291c => vBool (g.v 14) fun b292 => vSlice (g.v 15) fun s293b s293n s293c => vBool (g.v 16) fun b294 => K p286 s287b s287n s287c i288 s289b s289n s289c b290 s291b s291n s291c b292 s293b s293n s293c b294 h)
theorem D14_ok {K : T14} {g : Env} {h : H} (hq : D14 K g h) : ∃ (x5 : Option Addr) (x8b : Option Addr) (x8n : Nat) (x8c : Nat) (x10 : Int) (x11b : Option Addr) (x11n : Nat) (x11c : Nat) (x12 : Bool) (x13b : Option Addr) (x13n : Nat) (x13c : Nat) (x14 : Bool) (x15b : Option Addr) (x15n : Nat) (x15c : Nat) (x16 : Bool), E14 g x5 x8b x8n x8c x10 x11b x11n x11c x12 x13b x13n x13c x14 x15b x15n x15c x16 ∧ K x5 x8b x8n x8c x10 x11b x11n x11c x12 x13b x13n x13c x14 x15b x15n x15c x16 h := by
  obtain ⟨hd, hq⟩ := nilDs_ok hq
  obtain ⟨y296, e295, q297⟩ := vPtr_ok hq
  obtain ⟨y299b, y299n, y299c, e298, q300⟩ := vSlice_ok q297
  obtain ⟨y302, e301, q303⟩ := vInt_ok q300
  obtain ⟨y305b, y305n, y305c, e304, q306⟩ := vSlice_ok q303
  obtain ⟨y308, e307, q309⟩ := vBool_ok q306
  obtain ⟨y311b, y311n, y311c, e310, q312⟩ := vSlice_ok q309
  obtain ⟨y314, e313, q315⟩ := vBool_ok q312
  obtain ⟨y317b, y317n, y317c, e316, q318⟩ := vSlice_ok q315
  obtain ⟨y320, e319, q321⟩ := vBool_ok q318
  exact ⟨y296, y299b, y299n, y299c, y302, y305b, y305n, y305c, y308, y311b, y311n, y311c, y314, y317b, y317n, y317c, y320, ⟨e295, e298, e301, e304, e307, e310, e313, e316, e319, hd⟩, q321⟩
noncomputable def n15_c1 : Code := cFst n14_c2
noncomputable def n15_c2 : Code := cSnd n14_c2
abbrev T15 := (Option Addr) → (Option Addr) → Nat → Nat → (Option Addr) → Nat → Nat → Bool → (Option Addr) → Nat → Nat → Bool → (Option Addr) → Nat → Nat → Bool → Bool → H → Prop
def E15 (g : Env) (x5 : Option Addr) (x8b : Option Addr) (x8n : Nat) (x8c : Nat) (x11b : Option Addr) (x11n : Nat) (x11c : Nat) (x12 : Bool) (x13b : Option Addr) (x13n : Nat) (x13c : Nat) (x14 : Bool) (x15b : Option Addr) (x15n : Nat) (x15c : Nat) (x16 : Bool) (x17 : Bool) : Prop := g.v 5 = (.pointer x5) ∧ g.v 8 = (.slice x8b x8n x8c) ∧ g.v 11 = (.slice x11b x11n x11c) ∧ g.v 12 = (.bool x12) ∧ g.v 13 = (.slice x13b x13n x13c) ∧ g.v 14 = (.bool x14) ∧ g.v 15 = (.slice x15b x15n x15c) ∧ g.v 16 = (.bool x16) ∧ g.v 17 = (.bool x17) ∧ g.ds = []
def D15 (K : T15) (g : Env) (h : H) : Prop := nilDs g.ds (vPtr (g.v 5) fun p322 => vSlice (g.v 8) fun s323b s323n s323c => vSlice (g.v 11) fun s324b s324n s324c => vBool (g.v 12) fun b325 => vSlice (g.v 13) fun s326b s326n s326c => vBool (g.v 14) fun b327 => vSlice (g.v 15) fun s328b s328n s328c => vBool (g.v 16) fun b329 => vBool (g.v 17) fun b330 => K p322 s323b s323n s323c s324b s324n s324c b325 s326b s326n s326c b327 s328b s328n s328c b329 b330 h)
theorem D15_ok {K : T15} {g : Env} {h : H} (hq : D15 K g h) : ∃ (x5 : Option Addr) (x8b : Option Addr) (x8n : Nat) (x8c : Nat) (x11b : Option Addr) (x11n : Nat) (x11c : Nat) (x12 : Bool) (x13b : Option Addr) (x13n : Nat) (x13c : Nat) (x14 : Bool) (x15b : Option Addr) (x15n : Nat) (x15c : Nat) (x16 : Bool) (x17 : Bool), E15 g x5 x8b x8n x8c x11b x11n x11c x12 x13b x13n x13c x14 x15b x15n x15c x16 x17 ∧ K x5 x8b x8n x8c x11b x11n x11c x12 x13b x13n x13c x14 x15b x15n x15c x16 x17 h := by
  obtain ⟨hd, hq⟩ := nilDs_ok hq
  obtain ⟨y332, e331, q333⟩ := vPtr_ok hq
  obtain ⟨y335b, y335n, y335c, e334, q336⟩ := vSlice_ok q333
  obtain ⟨y338b, y338n, y338c, e337, q339⟩ := vSlice_ok q336
  obtain ⟨y341, e340, q342⟩ := vBool_ok q339
  obtain ⟨y344b, y344n, y344c, e343, q345⟩ := vSlice_ok q342
  obtain ⟨y347, e346, q348⟩ := vBool_ok q345
  obtain ⟨y350b, y350n, y350c, e349, q351⟩ := vSlice_ok q348
  obtain ⟨y353, e352, q354⟩ := vBool_ok q351
  obtain ⟨y356, e355, q357⟩ := vBool_ok q354
  exact ⟨y332, y335b, y335n, y335c, y338b, y338n, y338c, y341, y344b, y344n, y344c, y347, y350b, y350n, y350c, y353, y356, ⟨e331, e334, e337, e340, e343, e346, e349, e352, e355, hd⟩, q357⟩
abbrev n16 (x5 : Option Addr) (x8b : Option Addr) (x8n : Nat) (x8c : Nat) (x11b : Option Addr) (x11n : Nat) (x11c : Nat) (x12 : Bool) (x13b : Option Addr) (x13n : Nat) (x13c : Nat) (x14 : Bool) (x15b : Option Addr) (x15n : Nat) (x15c : Nat) (x16 : Bool) (x17 : Bool) (Kn : T0) (Kr : T0) (h : H) : Prop :=
  cond x12 (cond x14 (cond x16 (cond x17 (Rng .i64 ((x8n : Int) + (1 : Int)) ∧ (Spl ((x13n : Int) = ((x8n : Int) + (1 : Int))) (Rng .i64 ((x8n : Int) + (2 : Int)) ∧ (Spl ((x15n : Int) = ((x8n : Int) + (2 : Int))) (Rng .i64 ((x8n : Int) + (1 : Int)) ∧ ((0 ≤ (x8n : Int) ∧ (x8n : Int) ≤ ((x8n : Int) + (1 : Int)) ∧ ((x8n : Int) + (1 : Int)) ≤ (x15c : Int)) ∧ (Rng .i64 ((x8n : Int) + (1 : Int)) ∧ ((0 ≤ ((x8n : Int) + (1 : Int)) ∧ ((x8n : Int) + (1 : Int)) ≤ (x15n : Int) ∧ (x15n : Int) ≤ (x15c : Int)) ∧ (HCalls Try.prog 30 ⟨[(.slice (if x15c = Int.toNat (x8n : Int) then x15b else Option.map (fun q => q.add (Int.toNat (x8n : Int) * 6)) x15b) (Int.toNat ((x8n : Int) + (1 : Int)) - Int.toNat (x8n : Int)) (x15c - Int.toNat (x8n : Int))), (.slice (if x15c = Int.toNat ((x8n : Int) + (1 : Int)) then x15b else Option.map (fun q => q.add (Int.toNat ((x8n : Int) + (1 : Int)) * 6)) x15b) (Int.toNat (x15n : Int) - Int.toNat ((x8n : Int) + (1 : Int))) (x15c - Int.toNat ((x8n : Int) + (1 : Int))))]⟩ h fun v358 h359 => vBool v358 fun b360 => cond b360 (HCalls Try.prog 16 ⟨[(.slice x8b x8n x8c), (.slice x11b x11n x11c)]⟩ h359 fun v361 h362 => vBool v361 fun b363 => cond b363 ((0 ≤ (0 : Int) ∧ (0 : Int) ≤ (x8n : Int) ∧ (x8n : Int) ≤ (x13c : Int)) ∧ (HCalls Try.prog 16 ⟨[(.slice (if x13c = Int.toNat (0 : Int) then x13b else Option.map (fun q => q.add (Int.toNat (0 : Int) * 6)) x13b) (Int.toNat (x8n : Int) - Int.toNat (0 : Int)) (x13c - Int.toNat (0 : Int))), (.slice x8b x8n x8c)]⟩ h362 fun v364 h365 => vBool v364 fun b366 => cond b366 (HCalls Try.prog 12 ⟨[(.pointer x5), (.int .i64 (0 : Int))]⟩ h365 fun v367 h368 => vSlice v367 fun s369b s369n s369c => HCalls Try.prog 16 ⟨[(.slice s369b s369n s369c), (.slice x8b x8n x8c)]⟩ h368 fun v370 h371 => vBool v370 fun b372 => cond b372 (Kr true h371) (Kr false h371)) (Kr false h365))) (Kr false h362)) (Kr false h359)))))) (Kr false h))) (Kr false h))) (Kr false h)) (Kr false h)) (Kr false h)) (Kr false h)
theorem n16_ok (x5 : Option Addr) (x8b : Option Addr) (x8n : Nat) (x8c : Nat) (x11b : Option Addr) (x11n : Nat) (x11c : Nat) (x12 : Bool) (x13b : Option Addr) (x13n : Nat) (x13c : Nat) (x14 : Bool) (x15b : Option Addr) (x15n : Nat) (x15c : Nat) (x16 : Bool) (x17 : Bool) (Kn : T0) (Kr : T0) (g : Env) (hg : E15 g x5 x8b x8n x8c x11b x11n x11c x12 x13b x13n x13c x14 x15b x15n x15c x16 x17) (h : H) (hS : n16 x5 x8b x8n x8c x11b x11n x11c x12 x13b x13n x13c x14 x15b x15n x15c x16 x17 Kn Kr h) : wpC none Try.prog 154 n15_c2 (Q0 Kn Kr) g h := by
  obtain ⟨hg5, hg8, hg11, hg12, hg13, hg14, hg15, hg16, hg17, hds⟩ := hg
  refine wpC_of_wpx (by kernel_rfl) (by kernel_rfl) (g' := (((((((((⟨g.v, []⟩ : Env).upd (some 5) (.pointer x5)).upd (some 8) (.slice x8b x8n x8c)).upd (some 11) (.slice x11b x11n x11c)).upd (some 12) (.bool x12)).upd (some 13) (.slice x13b x13n x13c)).upd (some 14) (.bool x14)).upd (some 15) (.slice x15b x15n x15c)).upd (some 16) (.bool x16)).upd (some 17) (.bool x17)) (by rw [env_ds hds, upd_self hg5, upd_self hg8, upd_self hg11, upd_self hg12, upd_self hg13, upd_self hg14, upd_self hg15, upd_self hg16, upd_self hg17]) ?_
  have e : (n16 x5 x8b x8n x8c x11b x11n x11c x12 x13b x13n x13c x14 x15b x15n x15c x16 x17 Kn Kr h) = wpx none Try.prog 154 n15_c2 (Q0 Kn Kr) ((((((((((⟨g.v, []⟩ : Env).upd (some 5) (.pointer x5)).upd (some 8) (.slice x8b x8n x8c)).upd (some 11) (.slice x11b x11n x11c)).upd (some 12) (.bool x12)).upd (some 13) (.slice x13b x13n x13c)).upd (some 14) (.bool x14)).upd (some 15) (.slice x15b x15n x15c)).upd (some 16) (.bool x16)).upd (some 17) (.bool x17)) h := by kernel_rfl
  exact e ▸ hS
def Q1 (Kn : T15) (Kr : T0) : XPost
  | .normal, g, h => D15 Kn g h
  | .ret, g, h => D0 Kr g h
  | _, _, _ => False
abbrev n15 (x5 : Option Addr) (x8b : Option Addr) (x8n : Nat) (x8c : Nat) (x10 : Int) (x11b : Option Addr) (x11n : Nat) (x11c : Nat) (x12 : Bool) (x13b : Option Addr) (x13n : Nat) (x13c : Nat) (x14 : Bool) (x15b : Option Addr) (x15n : Nat) (x15c : Nat) (x16 : Bool) (Kn : T0) (Kr : T0) (h : H) : Prop :=
  HCalls Try.prog 22 ⟨[(.pointer x5), (.int .i64 x10)]⟩ h fun v373 h374 => vBool v373 fun b375 => cond b375 (n16 x5 x8b x8n x8c x11b x11n x11c x12 x13b x13n x13c x14 x15b x15n x15c x16 true Kn Kr h374) (n16 x5 x8b x8n x8c x11b x11n x11c x12 x13b x13n x13c x14 x15b x15n x15c x16 false Kn Kr h374)
theorem n15_ok (x5 : Option Addr) (x8b : Option Addr) (x8n : Nat) (x8c : Nat) (x10 : Int) (x11b : Option Addr) (x11n : Nat) (x11c : Nat) (x12 : Bool) (x13b : Option Addr) (x13n : Nat) (x13c : Nat) (x14 : Bool) (x15b : Option Addr) (x15n : Nat) (x15c : Nat) (x16 : Bool) (Kn : T0) (Kr : T0) (g : Env) (hg : E14 g x5 x8b x8n x8c x10 x11b x11n x11c x12 x13b x13n x13c x14 x15b x15n x15c x16) (h : H) (hS : n15 x5 x8b x8n x8c x10 x11b x11n x11c x12 x13b x13n x13c x14 x15b x15n x15c x16 Kn Kr h) : wpC none Try.prog 154 n14_c2 (Q0 Kn Kr) g h := by
  obtain ⟨hg5, hg8, hg10, hg11, hg12, hg13, hg14, hg15, hg16, hds⟩ := hg
  refine wpC_seq' (x := n15_c1) (y := n15_c2) (Q' := (Q1 (fun z5 z8b z8n z8c z11b z11n z11c z12 z13b z13n z13c z14 z15b z15n z15c z16 z17 h => n16 z5 z8b z8n z8c z11b z11n z11c z12 z13b z13n z13c z14 z15b z15n z15c z16 z17 Kn Kr h) Kr)) (by kernel_rfl) ?_ ?_
  · refine wpC_of_wpx (by kernel_rfl) (by kernel_rfl) (g' := (((((((((⟨g.v, []⟩ : Env).upd (some 5) (.pointer x5)).upd (some 8) (.slice x8b x8n x8c)).upd (some 10) (.int .i64 x10)).upd (some 11) (.slice x11b x11n x11c)).upd (some 12) (.bool x12)).upd (some 13) (.slice x13b x13n x13c)).upd (some 14) (.bool x14)).upd (some 15) (.slice x15b x15n x15c)).upd (some 16) (.bool x16)) (by rw [env_ds hds, upd_self hg5, upd_self hg8, upd_self hg10, upd_self hg11, upd_self hg12, upd_self hg13, upd_self hg14, upd_self hg15, upd_self hg16]) ?_
    have e : (n15 x5 x8b x8n x8c x10 x11b x11n x11c x12 x13b x13n x13c x14 x15b x15n x15c x16 Kn Kr h) = wpx none Try.prog 154 n15_c1 (Q1 (fun z5 z8b z8n z8c z11b z11n z11c z12 z13b z13n z13c z14 z15b z15n z15c z16 z17 h => n16 z5 z8b z8n z8c z11b z11n z11c z12 z13b z13n z13c z14 z15b z15n z15c z16 z17 Kn Kr h) Kr) ((((((((((⟨g.v, []⟩ : Env).upd (some 5) (.pointer x5)).upd (some 8) (.slice x8b x8n x8c)).upd (some 10) (.int .i64 x10)).upd (some 11) (.slice x11b x11n x11c)).upd (some 12) (.bool x12)).upd (some 13) (.slice x13b x13n x13c)).upd (some 14) (.bool x14)).upd (some 15) (.slice x15b x15n x15c)).upd (some 16) (.bool x16)) h := by kernel_rfl
    exact e ▸ hS
  · intro e g' h' hq
    cases e with
    | normal =>
      have hq : D15 (fun z5 z8b z8n z8c z11b z11n z11c z12 z13b z13n z13c z14 z15b z15n z15c z16 z17 h => n16 z5 z8b z8n z8c z11b z11n z11c z12 z13b z13n z13c z14 z15b z15n z15c z16 z17 Kn Kr h) g' h' := hq
      obtain ⟨y5, y8b, y8n, y8c, y11b, y11n, y11c, y12, y13b, y13n, y13c, y14, y15b, y15n, y15c, y16, y17, hg', hq⟩ := D15_ok hq
      exact n16_ok y5 y8b y8n y8c y11b y11n y11c y12 y13b y13n y13c y14 y15b y15n y15c y16 y17 Kn Kr g' hg' h' hq
    | _ => exact hq
def Q2 (Kn : T14) (Kr : T0) : XPost
  | .normal, g, h => D14 Kn g h
  | .ret, g, h => D0 Kr g h
  | _, _, _ => False
abbrev n14 (x5 : Option Addr) (x8b : Option Addr) (x8n : Nat) (x8c : Nat) (x9 : Int) (x10 : Int) (x11b : Option Addr) (x11n : Nat) (x11c : Nat) (x12 : Bool) (x13b : Option Addr) (x13n : Nat) (x13c : Nat) (x14 : Bool) (x15b : Option Addr) (x15n : Nat) (x15c : Nat) (Kn : T0) (Kr : T0) (h : H) : Prop :=
  HCalls Try.prog 22 ⟨[(.pointer x5), (.int .i64 x9)]⟩ h fun v376 h377 => vBool v376 fun b378 => cond b378 (n15 x5 x8b x8n x8c x10 x11b x11n x11c x12 x13b x13n x13c x14 x15b x15n x15c true Kn Kr h377) (n15 x5 x8b x8n x8c x10 x11b x11n x11c x12 x13b x13n x13c x14 x15b x15n x15c false Kn Kr h377)
theorem n14_ok (x5 : Option Addr) (x8b : Option Addr) (x8n : Nat) (x8c : Nat) (x9 : Int) (x10 : Int) (x11b : Option Addr) (x11n : Nat) (x11c : Nat) (x12 : Bool) (x13b : Option Addr) (x13n : Nat) (x13c : Nat) (x14 : Bool) (x15b : Option Addr) (x15n : Nat) (x15c : Nat) (Kn : T0) (Kr : T0) (g : Env) (hg : E13 g x5 x8b x8n x8c x9 x10 x11b x11n x11c x12 x13b x13n x13c x14 x15b x15n x15c) (h : H) (hS : n14 x5 x8b x8n x8c x9 x10 x11b x11n x11c x12 x13b x13n x13c x14 x15b x15n x15c Kn Kr h) : wpC none Try.prog 154 n13_c2 (Q0 Kn Kr) g h := by
  obtain ⟨hg5, hg8, hg9, hg10, hg11, hg12, hg13, hg14, hg15, hds⟩ := hg
  refine wpC_seq' (x := n14_c1) (y := n14_c2) (Q' := (Q2 (fun z5 z8b z8n z8c z10 z11b z11n z11c z12 z13b z13n z13c z14 z15b z15n z15c z16 h => n15 z5 z8b z8n z8c z10 z11b z11n z11c z12 z13b z13n z13c z14 z15b z15n z15c z16 Kn Kr h) Kr)) (by kernel_rfl) ?_ ?_
  · refine wpC_of_wpx (by kernel_rfl) (by kernel_rfl) (g' := (((((((((⟨g.v, []⟩ : Env).upd (some 5) (.pointer x5)).upd (some 8) (.slice x8b x8n x8c)).upd (some 9) (.int .i64 x9)).upd (some 10) (.int .i64 x10)).upd (some 11) (.slice x11b x11n x11c)).upd (some 12) (.bool x12)).upd (some 13) (.slice x13b x13n x13c)).upd (some 14) (.bool x14)).upd (some 15) (.slice x15b x15n x15c)) (by rw [env_ds hds, upd_self hg5, upd_self hg8, upd_self hg9, upd_self hg10, upd_self hg11, upd_self hg12, upd_self hg13, upd_self hg14, upd_self hg15]) ?_
    have e : (n14 x5 x8b x8n x8c x9 x10 x11b x11n x11c x12 x13b x13n x13c x14 x15b x15n x15c Kn Kr h) = wpx none Try.prog 154 n14_c1 (Q2 (fun z5 z8b z8n z8c z10 z11b z11n z11c z12 z13b z13n z13c z14 z15b z15n z15c z16 h => n15 z5 z8b z8n z8c z10 z11b z11n z11c z12 z13b z13n z13c z14 z15b z15n z15c z16 Kn Kr h) Kr) ((((((((((⟨g.v, []⟩ : Env).upd (some 5) (.pointer x5)).upd (some 8) (.slice x8b x8n x8c)).upd (some 9) (.int .i64 x9)).upd (some 10) (.int .i64 x10)).upd (some 11) (.slice x11b x11n x11c)).upd (some 12) (.bool x12)).upd (some 13) (.slice x13b x13n x13c)).upd (some 14) (.bool x14)).upd (some 15) (.slice x15b x15n x15c)) h := by kernel_rfl
    exact e ▸ hS
  · intro e g' h' hq
    cases e with
    | normal =>
      have hq : D14 (fun z5 z8b z8n z8c z10 z11b z11n z11c z12 z13b z13n z13c z14 z15b z15n z15c z16 h => n15 z5 z8b z8n z8c z10 z11b z11n z11c z12 z13b z13n z13c z14 z15b z15n z15c z16 Kn Kr h) g' h' := hq
      obtain ⟨y5, y8b, y8n, y8c, y10, y11b, y11n, y11c, y12, y13b, y13n, y13c, y14, y15b, y15n, y15c, y16, hg', hq⟩ := D14_ok hq
      exact n15_ok y5 y8b y8n y8c y10 y11b y11n y11c y12 y13b y13n y13c y14 y15b y15n y15c y16 Kn Kr g' hg' h' hq
    | _ => exact hq
def Q3 (Kn : T13) (Kr : T0) : XPost
  | .normal, g, h => D13 Kn g h
  | .ret, g, h => D0 Kr g h
  | _, _, _ => False
abbrev n13 (x5 : Option Addr) (x8b : Option Addr) (x8n : Nat) (x8c : Nat) (x9 : Int) (x10 : Int) (x11b : Option Addr) (x11n : Nat) (x11c : Nat) (x12 : Bool) (x13b : Option Addr) (x13n : Nat) (x13c : Nat) (x14 : Bool) (Kn : T0) (Kr : T0) (h : H) : Prop :=
  HCalls Try.prog 12 ⟨[(.pointer x5), (.int .i64 (0 : Int))]⟩ h fun v379 h380 => vSlice v379 fun s381b s381n s381c => n14 x5 x8b x8n x8c x9 x10 x11b x11n x11c x12 x13b x13n x13c x14 s381b s381n s381c Kn Kr h380
theorem n13_ok (x5 : Option Addr) (x8b : Option Addr) (x8n : Nat) (x8c : Nat) (x9 : Int) (x10 : Int) (x11b : Option Addr) (x11n : Nat) (x11c : Nat) (x12 : Bool) (x13b : Option Addr) (x13n : Nat) (x13c : Nat) (x14 : Bool) (Kn : T0) (Kr : T0) (g : Env) (hg : E12 g x5 x8b x8n x8c x9 x10 x11b x11n x11c x12 x13b x13n x13c x14) (h : H) (hS : n13 x5 x8b x8n x8c x9 x10 x11b x11n x11c x12 x13b x13n x13c x14 Kn Kr h) : wpC none Try.prog 154 n12_c2 (Q0 Kn Kr) g h := by
  obtain ⟨hg5, hg8, hg9, hg10, hg11, hg12, hg13, hg14, hds⟩ := hg
  refine wpC_seq' (x := n13_c1) (y := n13_c2) (Q' := (Q3 (fun z5 z8b z8n z8c z9 z10 z11b z11n z11c z12 z13b z13n z13c z14 z15b z15n z15c h => n14 z5 z8b z8n z8c z9 z10 z11b z11n z11c z12 z13b z13n z13c z14 z15b z15n z15c Kn Kr h) Kr)) (by kernel_rfl) ?_ ?_
  · refine wpC_of_wpx (by kernel_rfl) (by kernel_rfl) (g' := ((((((((⟨g.v, []⟩ : Env).upd (some 5) (.pointer x5)).upd (some 8) (.slice x8b x8n x8c)).upd (some 9) (.int .i64 x9)).upd (some 10) (.int .i64 x10)).upd (some 11) (.slice x11b x11n x11c)).upd (some 12) (.bool x12)).upd (some 13) (.slice x13b x13n x13c)).upd (some 14) (.bool x14)) (by rw [env_ds hds, upd_self hg5, upd_self hg8, upd_self hg9, upd_self hg10, upd_self hg11, upd_self hg12, upd_self hg13, upd_self hg14]) ?_
    have e : (n13 x5 x8b x8n x8c x9 x10 x11b x11n x11c x12 x13b x13n x13c x14 Kn Kr h) = wpx none Try.prog 154 n13_c1 (Q3 (fun z5 z8b z8n z8c z9 z10 z11b z11n z11c z12 z13b z13n z13c z14 z15b z15n z15c h => n14 z5 z8b z8n z8c z9 z10 z11b z11n z11c z12 z13b z13n z13c z14 z15b z15n z15c Kn Kr h) Kr) (((((((((⟨g.v, []⟩ : Env).upd (some 5) (.pointer x5)).upd (some 8) (.slice x8b x8n x8c)).upd (some 9) (.int .i64 x9)).upd (some 10) (.int .i64 x10)).upd (some 11) (.slice x11b x11n x11c)).upd (some 12) (.bool x12)).upd (some 13) (.slice x13b x13n x13c)).upd (some 14) (.bool x14)) h := by kernel_rfl
    exact e ▸ hS
  · intro e g' h' hq
    cases e with
    | normal =>
      have hq : D13 (fun z5 z8b z8n z8c z9 z10 z11b z11n z11c z12 z13b z13n z13c z14 z15b z15n z15c h => n14 z5 z8b z8n z8c z9 z10 z11b z11n z11c z12 z13b z13n z13c z14 z15b z15n z15c Kn Kr h) g' h' := hq
      obtain ⟨y5, y8b, y8n, y8c, y9, y10, y11b, y11n, y11c, y12, y13b, y13n, y13c, y14, y15b, y15n, y15c, hg', hq⟩ := D13_ok hq
      exact n14_ok y5 y8b y8n y8c y9 y10 y11b y11n y11c y12 y13b y13n y13c y14 y15b y15n y15c Kn Kr g' hg' h' hq
    | _ => exact hq
def Q4 (Kn : T12) (Kr : T0) : XPost
  | .normal, g, h => D12 Kn g h
  | .ret, g, h => D0 Kr g h
  | _, _, _ => False
abbrev n12 (x5 : Option Addr) (x8b : Option Addr) (x8n : Nat) (x8c : Nat) (x9 : Int) (x10 : Int) (x11b : Option Addr) (x11n : Nat) (x11c : Nat) (x12 : Bool) (x13b : Option Addr) (x13n : Nat) (x13c : Nat) (Kn : T0) (Kr : T0) (h : H) : Prop :=
  HCalls Try.prog 11 ⟨[(.pointer x5), (.int .i64 (0 : Int)), (.int .i64 x9), (.int .i64 x10)]⟩ h fun v382 h383 => vBool v382 fun b384 => cond b384 (n13 x5 x8b x8n x8c x9 x10 x11b x11n x11c x12 x13b x13n x13c true Kn Kr h383) (n13 x5 x8b x8n x8c x9 x10 x11b x11n x11c x12 x13b x13n x13c false Kn Kr h383)
theorem n12_ok (x5 : Option Addr) (x8b : Option Addr) (x8n : Nat) (x8c : Nat) (x9 : Int) (x10 : Int) (x11b : Option Addr) (x11n : Nat) (x11c : Nat) (x12 : Bool) (x13b : Option Addr) (x13n : Nat) (x13c : Nat) (Kn : T0) (Kr : T0) (g : Env) (hg : E11 g x5 x8b x8n x8c x9 x10 x11b x11n x11c x12 x13b x13n x13c) (h : H) (hS : n12 x5 x8b x8n x8c x9 x10 x11b x11n x11c x12 x13b x13n x13c Kn Kr h) : wpC none Try.prog 154 n11_c2 (Q0 Kn Kr) g h := by
  obtain ⟨hg5, hg8, hg9, hg10, hg11, hg12, hg13, hds⟩ := hg
  refine wpC_seq' (x := n12_c1) (y := n12_c2) (Q' := (Q4 (fun z5 z8b z8n z8c z9 z10 z11b z11n z11c z12 z13b z13n z13c z14 h => n13 z5 z8b z8n z8c z9 z10 z11b z11n z11c z12 z13b z13n z13c z14 Kn Kr h) Kr)) (by kernel_rfl) ?_ ?_
  · refine wpC_of_wpx (by kernel_rfl) (by kernel_rfl) (g' := (((((((⟨g.v, []⟩ : Env).upd (some 5) (.pointer x5)).upd (some 8) (.slice x8b x8n x8c)).upd (some 9) (.int .i64 x9)).upd (some 10) (.int .i64 x10)).upd (some 11) (.slice x11b x11n x11c)).upd (some 12) (.bool x12)).upd (some 13) (.slice x13b x13n x13c)) (by rw [env_ds hds, upd_self hg5, upd_self hg8, upd_self hg9, upd_self hg10, upd_self hg11, upd_self hg12, upd_self hg13]) ?_
    have e : (n12 x5 x8b x8n x8c x9 x10 x11b x11n x11c x12 x13b x13n x13c Kn Kr h) = wpx none Try.prog 154 n12_c1 (Q4 (fun z5 z8b z8n z8c z9 z10 z11b z11n z11c z12 z13b z13n z13c z14 h => n13 z5 z8b z8n z8c z9 z10 z11b z11n z11c z12 z13b z13n z13c z14 Kn Kr h) Kr) ((((((((⟨g.v, []⟩ : Env).upd (some 5) (.pointer x5)).upd (some 8) (.slice x8b x8n x8c)).upd (some 9) (.int .i64 x9)).upd (some 10) (.int .i64 x10)).upd (some 11) (.slice x11b x11n x11c)).upd (some 12) (.bool x12)).upd (some 13) (.slice x13b x13n x13c)) h := by kernel_rfl
    exact e ▸ hS
  · intro e g' h' hq
    cases e with
    | normal =>
      have hq : D12 (fun z5 z8b z8n z8c z9 z10 z11b z11n z11c z12 z13b z13n z13c z14 h => n13 z5 z8b z8n z8c z9 z10 z11b z11n z11c z12 z13b z13n z13c z14 Kn Kr h) g' h' := hq
      obtain ⟨y5, y8b, y8n, y8c, y9, y10, y11b, y11n, y11c, y12, y13b, y13n, y13c, y14, hg', hq⟩ := D12_ok hq
      exact n13_ok y5 y8b y8n y8c y9 y10 y11b y11n y11c y12 y13b y13n y13c y14 Kn Kr g' hg' h' hq
    | _ => exact hq
def Q5 (Kn : T11) (Kr : T0) : XPost
  | .normal, g, h => D11 Kn g h
  | .ret, g, h => D0 Kr g h
  | _, _, _ => False
abbrev n11 (x5 : Option Addr) (x8b : Option Addr) (x8n : Nat) (x8c : Nat) (x9 : Int) (x10 : Int) (x11b : Option Addr) (x11n : Nat) (x11c : Nat) (x12 : Bool) (Kn : T0) (Kr : T0) (h : H) : Prop :=
  HCalls Try.prog 12 ⟨[(.pointer x5), (.int .i64 (0 : Int))]⟩ h fun v385 h386 => vSlice v385 fun s387b s387n s387c => n12 x5 x8b x8n x8c x9 x10 x11b x11n x11c x12 s387b s387n s387c Kn Kr h386
theorem n11_ok (x5 : Option Addr) (x8b : Option Addr) (x8n : Nat) (x8c : Nat) (x9 : Int) (x10 : Int) (x11b : Option Addr) (x11n : Nat) (x11c : Nat) (x12 : Bool) (Kn : T0) (Kr : T0) (g : Env) (hg : E10 g x5 x8b x8n x8c x9 x10 x11b x11n x11c x12) (h : H) (hS : n11 x5 x8b x8n x8c x9 x10 x11b x11n x11c x12 Kn Kr h) : wpC none Try.prog 154 n10_c2 (Q0 Kn Kr) g h := by
  obtain ⟨hg5, hg8, hg9, hg10, hg11, hg12, hds⟩ := hg
  refine wpC_seq' (x := n11_c1) (y := n11_c2) (Q' := (Q5 (fun z5 z8b z8n z8c z9 z10 z11b z11n z11c z12 z13b z13n z13c h => n12 z5 z8b z8n z8c z9 z10 z11b z11n z11c z12 z13b z13n z13c Kn Kr h) Kr)) (by kernel_rfl) ?_ ?_
  · refine wpC_of_wpx (by kernel_rfl) (by kernel_rfl) (g' := ((((((⟨g.v, []⟩ : Env).upd (some 5) (.pointer x5)).upd (some 8) (.slice x8b x8n x8c)).upd (some 9) (.int .i64 x9)).upd (some 10) (.int .i64 x10)).upd (some 11) (.slice x11b x11n x11c)).upd (some 12) (.bool x12)) (by rw [env_ds hds, upd_self hg5, upd_self hg8, upd_self hg9, upd_self hg10, upd_self hg11, upd_self hg12]) ?_
    have e : (n11 x5 x8b x8n x8c x9 x10 x11b x11n x11c x12 Kn Kr h) = wpx none Try.prog 154 n11_c1 (Q5 (fun z5 z8b z8n z8c z9 z10 z11b z11n z11c z12 z13b z13n z13c h => n12 z5 z8b z8n z8c z9 z10 z11b z11n z11c z12 z13b z13n z13c Kn Kr h) Kr) (((((((⟨g.v, []⟩ : Env).upd (some 5) (.pointer x5)).upd (some 8) (.slice x8b x8n x8c)).upd (some 9) (.int .i64 x9)).upd (some 10) (.int .i64 x10)).upd (some 11) (.slice x11b x11n x11c)).upd (some 12) (.bool x12)) h := by kernel_rfl
    exact e ▸ hS
  · intro e g' h' hq
    cases e with
    | normal =>
      have hq : D11 (fun z5 z8b z8n z8c z9 z10 z11b z11n z11c z12 z13b z13n z13c h => n12 z5 z8b z8n z8c z9 z10 z11b z11n z11c z12 z13b z13n z13c Kn Kr h) g' h' := hq
      obtain ⟨y5, y8b, y8n, y8c, y9, y10, y11b, y11n, y11c, y12, y13b, y13n, y13c, hg', hq⟩ := D11_ok hq
      exact n12_ok y5 y8b y8n y8c y9 y10 y11b y11n y11c y12 y13b y13n y13c Kn Kr g' hg' h' hq
    | _ => exact hq
def Q6 (Kn : T10) (Kr : T0) : XPost
  | .normal, g, h => D10 Kn g h
  | .ret, g, h => D0 Kr g h
  | _, _, _ => False
abbrev n10 (x5 : Option Addr) (x8b : Option Addr) (x8n : Nat) (x8c : Nat) (x9 : Int) (x10 : Int) (x11b : Option Addr) (x11n : Nat) (x11c : Nat) (Kn : T0) (Kr : T0) (h : H) : Prop :=
  HCalls Try.prog 11 ⟨[(.pointer x5), (.int .i64 (0 : Int)), (.int .i64 (-1 : Int)), (.int .i64 x9)]⟩ h fun v388 h389 => vBool v388 fun b390 => cond b390 (n11 x5 x8b x8n x8c x9 x10 x11b x11n x11c true Kn Kr h389) (n11 x5 x8b x8n x8c x9 x10 x11b x11n x11c false Kn Kr h389)
theorem n10_ok (x5 : Option Addr) (x8b : Option Addr) (x8n : Nat) (x8c : Nat) (x9 : Int) (x10 : Int) (x11b : Option Addr) (x11n : Nat) (x11c : Nat) (Kn : T0) (Kr : T0) (g : Env) (hg : E9 g x5 x8b x8n x8c x9 x10 x11b x11n x11c) (h : H) (hS : n10 x5 x8b x8n x8c x9 x10 x11b x11n x11c Kn Kr h) : wpC none Try.prog 154 n9_c2 (Q0 Kn Kr) g h := by
  obtain ⟨hg5, hg8, hg9, hg10, hg11, hds⟩ := hg
  refine wpC_seq' (x := n10_c1) (y := n10_c2) (Q' := (Q6 (fun z5 z8b z8n z8c z9 z10 z11b z11n z11c z12 h => n11 z5 z8b z8n z8c z9 z10 z11b z11n z11c z12 Kn Kr h) Kr)) (by kernel_rfl) ?_ ?_
  · refine wpC_of_wpx (by kernel_rfl) (by kernel_rfl) (g' := (((((⟨g.v, []⟩ : Env).upd (some 5) (.pointer x5)).upd (some 8) (.slice x8b x8n x8c)).upd (some 9) (.int .i64 x9)).upd (some 10) (.int .i64 x10)).upd (some 11) (.slice x11b x11n x11c)) (by rw [env_ds hds, upd_self hg5, upd_self hg8, upd_self hg9, upd_self hg10, upd_self hg11]) ?_
    have e : (n10 x5 x8b x8n x8c x9 x10 x11b x11n x11c Kn Kr h) = wpx none Try.prog 154 n10_c1 (Q6 (fun z5 z8b z8n z8c z9 z10 z11b z11n z11c z12 h => n11 z5 z8b z8n z8c z9 z10 z11b z11n z11c z12 Kn Kr h) Kr) ((((((⟨g.v, []⟩ : Env).upd (some 5) (.pointer x5)).upd (some 8) (.slice x8b x8n x8c)).upd (some 9) (.int .i64 x9)).upd (some 10) (.int .i64 x10)).upd (some 11) (.slice x11b x11n x11c)) h := by kernel_rfl
    exact e ▸ hS
  · intro e g' h' hq
    cases e with
    | normal =>
      have hq : D10 (fun z5 z8b z8n z8c z9 z10 z11b z11n z11c z12 h => n11 z5 z8b z8n z8c z9 z10 z11b z11n z11c z12 Kn Kr h) g' h' := hq
      obtain ⟨y5, y8b, y8n, y8c, y9, y10, y11b, y11n, y11c, y12, hg', hq⟩ := D10_ok hq
      exact n11_ok y5 y8b y8n y8c y9 y10 y11b y11n y11c y12 Kn Kr g' hg' h' hq
    | _ => exact hq
def Q7 (Kn : T9) (Kr : T0) : XPost
  | .normal, g, h => D9 Kn g h
  | .ret, g, h => D0 Kr g h
  | _, _, _ => False
abbrev n9 (x5 : Option Addr) (x8b : Option Addr) (x8n : Nat) (x8c : Nat) (x9 : Int) (x10 : Int) (Kn : T0) (Kr : T0) (h : H) : Prop :=
  HCalls Try.prog 12 ⟨[(.pointer x5), (.int .i64 (0 : Int))]⟩ h fun v391 h392 => vSlice v391 fun s393b s393n s393c => n10 x5 x8b x8n x8c x9 x10 s393b s393n s393c Kn Kr h392
theorem n9_ok (x5 : Option Addr) (x8b : Option Addr) (x8n : Nat) (x8c : Nat) (x9 : Int) (x10 : Int) (Kn : T0) (Kr : T0) (g : Env) (hg : E8 g x5 x8b x8n x8c x9 x10) (h : H) (hS : n9 x5 x8b x8n x8c x9 x10 Kn Kr h) : wpC none Try.prog 154 n8_c2 (Q0 Kn Kr) g h := by
  obtain ⟨hg5, hg8, hg9, hg10, hds⟩ := hg
  refine wpC_seq' (x := n9_c1) (y := n9_c2) (Q' := (Q7 (fun z5 z8b z8n z8c z9 z10 z11b z11n z11c h => n10 z5 z8b z8n z8c z9 z10 z11b z11n z11c Kn Kr h) Kr)) (by kernel_rfl) ?_ ?_
  · refine wpC_of_wpx (by kernel_rfl) (by kernel_rfl) (g' := ((((⟨g.v, []⟩ : Env).upd (some 5) (.pointer x5)).upd (some 8) (.slice x8b x8n x8c)).upd (some 9) (.int .i64 x9)).upd (some 10) (.int .i64 x10)) (by rw [env_ds hds, upd_self hg5, upd_self hg8, upd_self hg9, upd_self hg10]) ?_
    have e : (n9 x5 x8b x8n x8c x9 x10 Kn Kr h) = wpx none Try.prog 154 n9_c1 (Q7 (fun z5 z8b z8n z8c z9 z10 z11b z11n z11c h => n10 z5 z8b z8n z8c z9 z10 z11b z11n z11c Kn Kr h) Kr) (((((⟨g.v, []⟩ : Env).upd (some 5) (.pointer x5)).upd (some 8) (.slice x8b x8n x8c)).upd (some 9) (.int .i64 x9)).upd (some 10) (.int .i64 x10)) h := by kernel_rfl
    exact e ▸ hS
  · intro e g' h' hq
    cases e with
    | normal =>
      have hq : D9 (fun z5 z8b z8n z8c z9 z10 z11b z11n z11c h => n10 z5 z8b z8n z8c z9 z10 z11b z11n z11c Kn Kr h) g' h' := hq
      obtain ⟨y5, y8b, y8n, y8c, y9, y10, y11b, y11n, y11c, hg', hq⟩ := D9_ok hq
      exact n10_ok y5 y8b y8n y8c y9 y10 y11b y11n y11c Kn Kr g' hg' h' hq
    | _ => exact hq
def Q8 (Kn : T8) (Kr : T0) : XPost
  | .normal, g, h => D8 Kn g h
  | .ret, g, h => D0 Kr g h
  | _, _, _ => False
abbrev n8 (x5 : Option Addr) (x8b : Option Addr) (x8n : Nat) (x8c : Nat) (x9 : Int) (Kn : T0) (Kr : T0) (h : H) : Prop :=
  HCalls Try.prog 19 ⟨[(.pointer x5), (.int .i64 x9)]⟩ h fun v394 h395 => vInt .i64 v394 fun i396 => n9 x5 x8b x8n x8c x9 i396 Kn Kr h395
theorem n8_ok (x5 : Option Addr) (x8b : Option Addr) (x8n : Nat) (x8c : Nat) (x9 : Int) (Kn : T0) (Kr : T0) (g : Env) (hg : E7 g x5 x8b x8n x8c x9) (h : H) (hS : n8 x5 x8b x8n x8c x9 Kn Kr h) : wpC none Try.prog 154 n7_c2 (Q0 Kn Kr) g h := by
  obtain ⟨hg5, hg8, hg9, hds⟩ := hg
  refine wpC_seq' (x := n8_c1) (y := n8_c2) (Q' := (Q8 (fun z5 z8b z8n z8c z9 z10 h => n9 z5 z8b z8n z8c z9 z10 Kn Kr h) Kr)) (by kernel_rfl) ?_ ?_
  · refine wpC_of_wpx (by kernel_rfl) (by kernel_rfl) (g' := (((⟨g.v, []⟩ : Env).upd (some 5) (.pointer x5)).upd (some 8) (.slice x8b x8n x8c)).upd (some 9) (.int .i64 x9)) (by rw [env_ds hds, upd_self hg5, upd_self hg8, upd_self hg9]) ?_
    have e : (n8 x5 x8b x8n x8c x9 Kn Kr h) = wpx none Try.prog 154 n8_c1 (Q8 (fun z5 z8b z8n z8c z9 z10 h => n9 z5 z8b z8n z8c z9 z10 Kn Kr h) Kr) ((((⟨g.v, []⟩ : Env).upd (some 5) (.pointer x5)).upd (some 8) (.slice x8b x8n x8c)).upd (some 9) (.int .i64 x9)) h := by kernel_rfl
    exact e ▸ hS
  · intro e g' h' hq
    cases e with
    | normal =>
      have hq : D8 (fun z5 z8b z8n z8c z9 z10 h => n9 z5 z8b z8n z8c z9 z10 Kn Kr h) g' h' := hq
      obtain ⟨y5, y8b, y8n, y8c, y9, y10, hg', hq⟩ := D8_ok hq
      exact n9_ok y5 y8b y8n y8c y9 y10 Kn Kr g' hg' h' hq
    | _ => exact hq
def Q9 (Kn : T7) (Kr : T0) : XPost
  | .normal, g, h => D7 Kn g h
  | .ret, g, h => D0 Kr g h
  | _, _, _ => False
abbrev n7 (x3 : Addr) (x5 : Option Addr) (x8b : Option Addr) (x8n : Nat) (x8c : Nat) (x9 : Int) (Kn : T0) (Kr : T0) (h : H) : Prop :=
  Spl (x9 < (0 : Int)) (∃ i397, cell h (x3.add 0) = some (.int .u8 i397) ∧ (Spl (i397 < (1 : Int)) (Kr true h) (∃ i398, cell h (x3.add 0) = some (.int .u8 i398) ∧ (Spl (i398 > (3 : Int)) (Kr true h) (Kr false h))))) (n8 x5 x8b x8n x8c x9 Kn Kr h)
theorem n7_ok (x3 : Addr) (x5 : Option Addr) (x8b : Option Addr) (x8n : Nat) (x8c : Nat) (x9 : Int) (Kn : T0) (Kr : T0) (g : Env) (hg : E6 g x3 x5 x8b x8n x8c x9) (h : H) (hS : n7 x3 x5 x8b x8n x8c x9 Kn Kr h) : wpC none Try.prog 154 n6_c2 (Q0 Kn Kr) g h := by
  obtain ⟨hg3, hg5, hg8, hg9, hds⟩ := hg
  refine wpC_seq' (x := n7_c1) (y := n7_c2) (Q' := (Q9 (fun z5 z8b z8n z8c z9 h => n8 z5 z8b z8n z8c z9 Kn Kr h) Kr)) (by kernel_rfl) ?_ ?_
  · refine wpC_of_wpx (by kernel_rfl) (by kernel_rfl) (g' := ((((⟨g.v, []⟩ : Env).upd (some 3) (.pointer (some x3))).upd (some 5) (.pointer x5)).upd (some 8) (.slice x8b x8n x8c)).upd (some 9) (.int .i64 x9)) (by rw [env_ds hds, upd_self hg3, upd_self hg5, upd_self hg8, upd_self hg9]) ?_
    have e : (n7 x3 x5 x8b x8n x8c x9 Kn Kr h) = wpx none Try.prog 154 n7_c1 (Q9 (fun z5 z8b z8n z8c z9 h => n8 z5 z8b z8n z8c z9 Kn Kr h) Kr) (((((⟨g.v, []⟩ : Env).upd (some 3) (.pointer (some x3))).upd (some 5) (.pointer x5)).upd (some 8) (.slice x8b x8n x8c)).upd (some 9) (.int .i64 x9)) h := by kernel_rfl
    exact e ▸ hS
  · intro e g' h' hq
    cases e with
    | normal =>
      have hq : D7 (fun z5 z8b z8n z8c z9 h => n8 z5 z8b z8n z8c z9 Kn Kr h) g' h' := hq
      obtain ⟨y5, y8b, y8n, y8c, y9, hg', hq⟩ := D7_ok hq
      exact n8_ok y5 y8b y8n y8c y9 Kn Kr g' hg' h' hq
    | _ => exact hq
def Q10 (Kn : T6) (Kr : T0) : XPost
  | .normal, g, h => D6 Kn g h
  | .ret, g, h => D0 Kr g h
  | _, _, _ => False
abbrev n6 (x3 : Addr) (x5 : Option Addr) (x8b : Option Addr) (x8n : Nat) (x8c : Nat) (Kn : T0) (Kr : T0) (h : H) : Prop :=
  ∃ i399, cell h ((x3).add 0) = some (.int .u8 i399) ∧ (∃ i400, cell h ((x3).add 1) = some (.int .u8 i400) ∧ (∃ s401, cell h ((x3).add 2) = some (S s401) ∧ (∃ s402b s402n s402c, cell h ((x3).add 3) = some (.slice s402b s402n s402c) ∧ (∃ s403, cell h ((x3).add 4) = some (S s403) ∧ (∃ s404b s404n s404c, cell h ((x3).add 5) = some (.slice s404b s404n s404c) ∧ (HCalls Try.prog 10 ⟨[(.pointer x5), (.agg ⟨[(.int .u8 i399), (.int .u8 i400), (S s401), (.slice s402b s402n s402c), (S s403), (.slice s404b s404n s404c)]⟩)]⟩ h fun v405 h406 => vInt .i64 v405 fun i407 => n7 x3 x5 x8b x8n x8c i407 Kn Kr h406))))))
theorem n6_ok (x3 : Addr) (x5 : Option Addr) (x8b : Option Addr) (x8n : Nat) (x8c : Nat) (Kn : T0) (Kr : T0) (g : Env) (hg : E5 g x3 x5 x8b x8n x8c) (h : H) (hS : n6 x3 x5 x8b x8n x8c Kn Kr h) : wpC none Try.prog 154 n5_c2 (Q0 Kn Kr) g h := by
  obtain ⟨hg3, hg5, hg8, hds⟩ := hg
  refine wpC_seq' (x := n6_c1) (y := n6_c2) (Q' := (Q10 (fun z3 z5 z8b z8n z8c z9 h => n7 z3 z5 z8b z8n z8c z9 Kn Kr h) Kr)) (by kernel_rfl) ?_ ?_
  · refine wpC_of_wpx (by kernel_rfl) (by kernel_rfl) (g' := (((⟨g.v, []⟩ : Env).upd (some 3) (.pointer (some x3))).upd (some 5) (.pointer x5)).upd (some 8) (.slice x8b x8n x8c)) (by rw [env_ds hds, upd_self hg3, upd_self hg5, upd_self hg8]) ?_
    have e : (n6 x3 x5 x8b x8n x8c Kn Kr h) = wpx none Try.prog 154 n6_c1 (Q10 (fun z3 z5 z8b z8n z8c z9 h => n7 z3 z5 z8b z8n z8c z9 Kn Kr h) Kr) ((((⟨g.v, []⟩ : Env).upd (some 3) (.pointer (some x3))).upd (some 5) (.pointer x5)).upd (some 8) (.slice x8b x8n x8c)) h := by kernel_rfl
    exact e ▸ hS
  · intro e g' h' hq
    cases e with
    | normal =>
      have hq : D6 (fun z3 z5 z8b z8n z8c z9 h => n7 z3 z5 z8b z8n z8c z9 Kn Kr h) g' h' := hq
      obtain ⟨y3, y5, y8b, y8n, y8c, y9, hg', hq⟩ := D6_ok hq
      exact n7_ok y3 y5 y8b y8n y8c y9 Kn Kr g' hg' h' hq
    | _ => exact hq
def Q11 (Kn : T5) (Kr : T0) : XPost
  | .normal, g, h => D5 Kn g h
  | .ret, g, h => D0 Kr g h
  | _, _, _ => False
abbrev n5 (x3 : Addr) (x5 : Option Addr) (Kn : T0) (Kr : T0) (h : H) : Prop :=
  HCalls Try.prog 12 ⟨[(.pointer x5), (.int .i64 (0 : Int))]⟩ h fun v408 h409 => vSlice v408 fun s410b s410n s410c => n6 x3 x5 s410b s410n s410c Kn Kr h409
theorem n5_ok (x3 : Addr) (x5 : Option Addr) (Kn : T0) (Kr : T0) (g : Env) (hg : E4 g x3 x5) (h : H) (hS : n5 x3 x5 Kn Kr h) : wpC none Try.prog 154 n4_c2 (Q0 Kn Kr) g h := by
  obtain ⟨hg3, hg5, hds⟩ := hg
  refine wpC_seq' (x := n5_c1) (y := n5_c2) (Q' := (Q11 (fun z3 z5 z8b z8n z8c h => n6 z3 z5 z8b z8n z8c Kn Kr h) Kr)) (by kernel_rfl) ?_ ?_
  · refine wpC_of_wpx (by kernel_rfl) (by kernel_rfl) (g' := ((⟨g.v, []⟩ : Env).upd (some 3) (.pointer (some x3))).upd (some 5) (.pointer x5)) (by rw [env_ds hds, upd_self hg3, upd_self hg5]) ?_
    have e : (n5 x3 x5 Kn Kr h) = wpx none Try.prog 154 n5_c1 (Q11 (fun z3 z5 z8b z8n z8c h => n6 z3 z5 z8b z8n z8c Kn Kr h) Kr) (((⟨g.v, []⟩ : Env).upd (some 3) (.pointer (some x3))).upd (some 5) (.pointer x5)) h := by kernel_rfl
    exact e ▸ hS
  · intro e g' h' hq
    cases e with
    | normal =>
      have hq : D5 (fun z3 z5 z8b z8n z8c h => n6 z3 z5 z8b z8n z8c Kn Kr h) g' h' := hq
      obtain ⟨y3, y5, y8b, y8n, y8c, hg', hq⟩ := D5_ok hq
      exact n6_ok y3 y5 y8b y8n y8c Kn Kr g' hg' h' hq
    | _ => exact hq
def Q12 (Kn : T4) (Kr : T0) : XPost
  | .normal, g, h => D4 Kn g h
  | .ret, g, h => D0 Kr g h
  | _, _, _ => False
noncomputable def n17_c1 : Code := cFst n4_c1
noncomputable def n17_c2 : Code := cSnd n4_c1
abbrev T16 := (Option Addr) → Nat → Nat → Addr → (Option Addr) → Int → H → Prop
def E16 (g : Env) (x0b : Option Addr) (x0n : Nat) (x0c : Nat) (x3 : Addr) (x5 : Option Addr) (x6 : Int) : Prop := g.v 0 = (.slice x0b x0n x0c) ∧ g.v 3 = (.pointer (some x3)) ∧ g.v 5 = (.pointer x5) ∧ g.v 6 = (.int .i64 x6) ∧ g.ds = []
def D16 (K : T16) (g : Env) (h : H) : Prop := nilDs g.ds (vSlice (g.v 0) fun s411b s411n s411c => vAddr (g.v 3) fun a412 => vPtr (g.v 5) fun p413 => vInt .i64 (g.v 6) fun i414 => K s411b s411n s411c a412 p413 i414 h)
theorem D16_ok {K : T16} {g : Env} {h : H} (hq : D16 K g h) : ∃ (x0b : Option Addr) (x0n : Nat) (x0c : Nat) (x3 : Addr) (x5 : Option Addr) (x6 : Int), E16 g x0b x0n x0c x3 x5 x6 ∧ K x0b x0n x0c x3 x5 x6 h := by
  obtain ⟨hd, hq⟩ := nilDs_ok hq
  obtain ⟨y416b, y416n, y416c, e415, q417⟩ := vSlice_ok hq
  obtain ⟨y419, e418, q420⟩ := vAddr_ok q417
  obtain ⟨y422, e421, q423⟩ := vPtr_ok q420
  obtain ⟨y425, e424, q426⟩ := vInt_ok q423
  exact ⟨y416b, y416n, y416c, y419, y422, y425, ⟨e415, e418, e421, e424, hd⟩, q426⟩
noncomputable def n18_c1 : Code := cFst n17_c2
def Q13 (Kn : T4) (Ke0 : T4) (Kr : T0) : XPost
  | .normal, g, h => D4 Kn g h
  | .ret, g, h => D0 Kr g h
  | .exit id, g, h => cond (Nat.beq id 0) (D4 Ke0 g h) (False)
  | _, _, _ => False
noncomputable def n19_c1 : Code := cFst n18_c1
def Q14 (Kn : T16) (Ke0 : T4) (Kr : T0) : XPost
  | .normal, g, h => D16 Kn g h
  | .ret, g, h => D0 Kr g h
  | .exit id, g, h => cond (Nat.beq id 0) (D4 Ke0 g h) (False)
  | _, _, _ => False
def n19_L (Kn : T4) (Ke0 : T4) (Kr : T0) : Nat → (Option Addr) → Nat → Nat → Addr → (Option Addr) → Int → H → Prop
  | 0 => fun _ _ _ _ _ _ _ => False
  | N + 1 => fun x0b x0n x0c x3 x5 x6 h => Spl (x6 < (x0n : Int)) ((0 ≤ x6 ∧ x6 < (x0n : Int)) ∧ (vSome x0b fun a427 => ∃ i428, cell h ((((a427.add (Int.toNat x6 * 10)).add 1)).add 0) = some (.int .u8 i428) ∧ (∃ i429, cell h ((((a427.add (Int.toNat x6 * 10)).add 1)).add 1) = some (.int .u8 i429) ∧ (∃ s430, cell h ((((a427.add (Int.toNat x6 * 10)).add 1)).add 2) = some (S s430) ∧ (∃ s431b s431n s431c, cell h ((((a427.add (Int.toNat x6 * 10)).add 1)).add 3) = some (.slice s431b s431n s431c) ∧ (∃ s432, cell h ((((a427.add (Int.toNat x6 * 10)).add 1)).add 4) = some (S s432) ∧ (∃ s433b s433n s433c, cell h ((((a427.add (Int.toNat x6 * 10)).add 1)).add 5) = some (.slice s433b s433n s433c) ∧ (HCalls Try.prog 10 ⟨[(.pointer x5), (.agg ⟨[(.int .u8 i428), (.int .u8 i429), (S s430), (.slice s431b s431n s431c), (S s432), (.slice s433b s433n s433c)]⟩)]⟩ h fun v434 h435 => vInt .i64 v434 fun i436 => (0 ≤ x6 ∧ x6 < (x0n : Int)) ∧ (vSome x0b fun a437 => ∃ i438, cell h435 ((a437.add (Int.toNat x6 * 10)).add 7) = some (.int .i64 i438) ∧ (Rng .i64 (x6 + (1 : Int)) ∧ ((x6 + (1 : Int)) ≠ 0 ∧ (HCalls Try.prog 11 ⟨[(.pointer x5), (.int .i64 (Int.tmod (if (0 : Int) > i438 then (0 : Int) else i438) (x6 + (1 : Int)))), (.int .i64 (-1 : Int)), (.int .i64 i436)]⟩ h435 fun v439 h440 => vBool v439 fun b441 => cond b441 (Rng .i64 (x6 + (1 : Int)) ∧ (n19_L Kn Ke0 Kr N x0b x0n x0c x3 x5 (x6 + (1 : Int)) h440)) (Rng .i64 (x6 + (1 : Int)) ∧ (n19_L Kn Ke0 Kr N x0b x0n x0c x3 x5 (x6 + (1 : Int)) h440)))))))))))))) (Ke0 x3 x5 h)
abbrev n19 (x0b : Option Addr) (x0n : Nat) (x0c : Nat) (x3 : Addr) (x5 : Option Addr) (x6 : Int) (Kn : T4) (Ke0 : T4) (Kr : T0) (h : H) : Prop := ∃ N, n19_L Kn Ke0 Kr N x0b x0n x0c x3 x5 x6 h
theorem n19_ok (x0b : Option Addr) (x0n : Nat) (x0c : Nat) (x3 : Addr) (x5 : Option Addr) (x6 : Int) (Kn : T4) (Ke0 : T4) (Kr : T0) (g : Env) (hg : E16 g x0b x0n x0c x3 x5 x6) (h : H) (hS : n19 x0b x0n x0c x3 x5 x6 Kn Ke0 Kr h) : wpC none Try.prog 154 n18_c1 (Q13 Kn Ke0 Kr) g h := by
  obtain ⟨N0, hS⟩ := hS
  refine wpC_loop' (x := n19_c1) (by kernel_rfl) (fun k g h => ∃ (x0b : Option Addr) (x0n : Nat) (x0c : Nat) (x3 : Addr) (x5 : Option Addr) (x6 : Int), E16 g x0b x0n x0c x3 x5 x6 ∧ n19_L Kn Ke0 Kr k x0b x0n x0c x3 x5 x6 h) (fun g h hr => ?_) (fun N g h hr => ?_) N0 ⟨x0b, x0n, x0c, x3, x5, x6, hg, hS⟩
  · obtain ⟨x0b, x0n, x0c, x3, x5, x6, hg, hS⟩ := hr
    exact hS.elim
  · obtain ⟨x0b, x0n, x0c, x3, x5, x6, hg, hS⟩ := hr
    have hw : wpC none Try.prog 154 n19_c1 (Q14 (fun z0b z0n z0c z3 z5 z6 h => n19_L Kn Ke0 Kr N z0b z0n z0c z3 z5 z6 h) Ke0 Kr) g h := by
      obtain ⟨hg0, hg3, hg5, hg6, hds⟩ := hg
      refine wpC_of_wpx (by kernel_rfl) (by kernel_rfl) (g' := ((((⟨g.v, []⟩ : Env).upd (some 0) (.slice x0b x0n x0c)).upd (some 3) (.pointer (some x3))).upd (some 5) (.pointer x5)).upd (some 6) (.int .i64 x6)) (by rw [env_ds hds, upd_self hg0, upd_self hg3, upd_self hg5, upd_self hg6]) ?_
      have e : (n19_L Kn Ke0 Kr (N + 1) x0b x0n x0c x3 x5 x6 h) = wpx none Try.prog 154 n19_c1 (Q14 (fun z0b z0n z0c z3 z5 z6 h => n19_L Kn Ke0 Kr N z0b z0n z0c z3 z5 z6 h) Ke0 Kr) (((((⟨g.v, []⟩ : Env).upd (some 0) (.slice x0b x0n x0c)).upd (some 3) (.pointer (some x3))).upd (some 5) (.pointer x5)).upd (some 6) (.int .i64 x6)) h := by kernel_rfl
      exact e ▸ hS
    refine hw.mono ?_
    intro e g' h' hq
    cases e with
    | normal => exact D16_ok (K := (fun z0b z0n z0c z3 z5 z6 h => n19_L Kn Ke0 Kr N z0b z0n z0c z3 z5 z6 h)) hq
    | _ => exact hq
abbrev n18 (x0b : Option Addr) (x0n : Nat) (x0c : Nat) (x3 : Addr) (x5 : Option Addr) (x6 : Int) (Kn : T4) (Kr : T0) (h : H) : Prop := n19 x0b x0n x0c x3 x5 x6 Kn Kn Kr h
theorem n18_ok (x0b : Option Addr) (x0n : Nat) (x0c : Nat) (x3 : Addr) (x5 : Option Addr) (x6 : Int) (Kn : T4) (Kr : T0) (g : Env) (hg : E16 g x0b x0n x0c x3 x5 x6) (h : H) (hS : n18 x0b x0n x0c x3 x5 x6 Kn Kr h) : wpC none Try.prog 154 n17_c2 (Q12 Kn Kr) g h := by
  refine wpC_block' (id := 0) (x := n18_c1) (by kernel_rfl) (n19_ok x0b x0n x0c x3 x5 x6 Kn Kn Kr g hg h hS) ?_
  intro e g' h' hq
  cases e <;> exact hq
def Q15 (Kn : T16) (Kr : T0) : XPost
  | .normal, g, h => D16 Kn g h
  | .ret, g, h => D0 Kr g h
  | _, _, _ => False
abbrev n17 (x0b : Option Addr) (x0n : Nat) (x0c : Nat) (x3 : Addr) (x5 : Option Addr) (Kn : T4) (Kr : T0) (h : H) : Prop :=
  n18 x0b x0n x0c x3 x5 (0 : Int) Kn Kr h
theorem n17_ok (x0b : Option Addr) (x0n : Nat) (x0c : Nat) (x3 : Addr) (x5 : Option Addr) (Kn : T4) (Kr : T0) (g : Env) (hg : E3 g x0b x0n x0c x3 x5) (h : H) (hS : n17 x0b x0n x0c x3 x5 Kn Kr h) : wpC none Try.prog 154 n4_c1 (Q12 Kn Kr) g h := by
  obtain ⟨hg0, hg3, hg5, hds⟩ := hg
  refine wpC_seq' (x := n17_c1) (y := n17_c2) (Q' := (Q15 (fun z0b z0n z0c z3 z5 z6 h => n18 z0b z0n z0c z3 z5 z6 Kn Kr h) Kr)) (by kernel_rfl) ?_ ?_
  · refine wpC_of_wpx (by kernel_rfl) (by kernel_rfl) (g' := (((⟨g.v, []⟩ : Env).upd (some 0) (.slice x0b x0n x0c)).upd (some 3) (.pointer (some x3))).upd (some 5) (.pointer x5)) (by rw [env_ds hds, upd_self hg0, upd_self hg3, upd_self hg5]) ?_
    have e : (n17 x0b x0n x0c x3 x5 Kn Kr h) = wpx none Try.prog 154 n17_c1 (Q15 (fun z0b z0n z0c z3 z5 z6 h => n18 z0b z0n z0c z3 z5 z6 Kn Kr h) Kr) ((((⟨g.v, []⟩ : Env).upd (some 0) (.slice x0b x0n x0c)).upd (some 3) (.pointer (some x3))).upd (some 5) (.pointer x5)) h := by kernel_rfl
    exact e ▸ hS
  · intro e g' h' hq
    cases e with
    | normal =>
      have hq : D16 (fun z0b z0n z0c z3 z5 z6 h => n18 z0b z0n z0c z3 z5 z6 Kn Kr h) g' h' := hq
      obtain ⟨y0b, y0n, y0c, y3, y5, y6, hg', hq⟩ := D16_ok hq
      exact n18_ok y0b y0n y0c y3 y5 y6 Kn Kr g' hg' h' hq
    | _ => exact hq
abbrev n4 (x0b : Option Addr) (x0n : Nat) (x0c : Nat) (x3 : Addr) (x5 : Option Addr) (Kn : T0) (Kr : T0) (h : H) : Prop := n17 x0b x0n x0c x3 x5 (fun z3 z5 h => n5 z3 z5 Kn Kr h) Kr h
theorem n4_ok (x0b : Option Addr) (x0n : Nat) (x0c : Nat) (x3 : Addr) (x5 : Option Addr) (Kn : T0) (Kr : T0) (g : Env) (hg : E3 g x0b x0n x0c x3 x5) (h : H) (hS : n4 x0b x0n x0c x3 x5 Kn Kr h) : wpC none Try.prog 154 n3_c2 (Q0 Kn Kr) g h := by
  refine wpC_seq' (x := n4_c1) (y := n4_c2) (by kernel_rfl) (n17_ok x0b x0n x0c x3 x5 (fun z3 z5 h => n5 z3 z5 Kn Kr h) Kr g hg h hS) ?_
  intro e g' h' hq
  cases e with
  | normal =>
    have hq : D4 (fun z3 z5 h => n5 z3 z5 Kn Kr h) g' h' := hq
    obtain ⟨y3, y5, hg', hq⟩ := D4_ok hq
    exact n5_ok y3 y5 Kn Kr g' hg' h' hq
  | _ => exact hq
def Q16 (Kn : T3) (Kr : T0) : XPost
  | .normal, g, h => D3 Kn g h
  | .ret, g, h => D0 Kr g h
  | _, _, _ => False
abbrev n3 (x0b : Option Addr) (x0n : Nat) (x0c : Nat) (x3 : Addr) (Kn : T0) (Kr : T0) (h : H) : Prop :=
  HCalls Try.prog 9 ⟨[]⟩ h fun v442 h443 => vPtr v442 fun p444 => n4 x0b x0n x0c x3 p444 Kn Kr h443
theorem n3_ok (x0b : Option Addr) (x0n : Nat) (x0c : Nat) (x3 : Addr) (Kn : T0) (Kr : T0) (g : Env) (hg : E2 g x0b x0n x0c x3) (h : H) (hS : n3 x0b x0n x0c x3 Kn Kr h) : wpC none Try.prog 154 n2_c2 (Q0 Kn Kr) g h := by
  obtain ⟨hg0, hg3, hds⟩ := hg
  refine wpC_seq' (x := n3_c1) (y := n3_c2) (Q' := (Q16 (fun z0b z0n z0c z3 z5 h => n4 z0b z0n z0c z3 z5 Kn Kr h) Kr)) (by kernel_rfl) ?_ ?_
  · refine wpC_of_wpx (by kernel_rfl) (by kernel_rfl) (g' := ((⟨g.v, []⟩ : Env).upd (some 0) (.slice x0b x0n x0c)).upd (some 3) (.pointer (some x3))) (by rw [env_ds hds, upd_self hg0, upd_self hg3]) ?_
    have e : (n3 x0b x0n x0c x3 Kn Kr h) = wpx none Try.prog 154 n3_c1 (Q16 (fun z0b z0n z0c z3 z5 h => n4 z0b z0n z0c z3 z5 Kn Kr h) Kr) (((⟨g.v, []⟩ : Env).upd (some 0) (.slice x0b x0n x0c)).upd (some 3) (.pointer (some x3))) h := by kernel_rfl
    exact e ▸ hS
  · intro e g' h' hq
    cases e with
    | normal =>
      have hq : D3 (fun z0b z0n z0c z3 z5 h => n4 z0b z0n z0c z3 z5 Kn Kr h) g' h' := hq
      obtain ⟨y0b, y0n, y0c, y3, y5, hg', hq⟩ := D3_ok hq
      exact n4_ok y0b y0n y0c y3 y5 Kn Kr g' hg' h' hq
    | _ => exact hq
def Q17 (Kn : T2) (Kr : T0) : XPost
  | .normal, g, h => D2 Kn g h
  | .ret, g, h => D0 Kr g h
  | _, _, _ => False
abbrev n2 (x0b : Option Addr) (x0n : Nat) (x0c : Nat) (x3 : Addr) (Kn : T0) (Kr : T0) (h : H) : Prop :=
  HCalls Try.prog 7 ⟨[(.slice x0b x0n x0c)]⟩ h fun v445 h446 => vBool v445 fun b447 => cond b447 (HCalls Try.prog 8 ⟨[]⟩ h446 fun v448 h449 => vBool v448 fun b450 => cond b450 (Kr true h449) (Kr false h449)) (∃ i451, cell h446 ((x3).add 0) = some (.int .u8 i451) ∧ (∃ i452, cell h446 ((x3).add 1) = some (.int .u8 i452) ∧ (∃ s453, cell h446 ((x3).add 2) = some (S s453) ∧ (∃ s454b s454n s454c, cell h446 ((x3).add 3) = some (.slice s454b s454n s454c) ∧ (∃ s455, cell h446 ((x3).add 4) = some (S s455) ∧ (∃ s456b s456n s456c, cell h446 ((x3).add 5) = some (.slice s456b s456n s456c) ∧ (newx h446 #[(.int .u8 i451), (.int .u8 i452), (S s453), (.slice s454b s454n s454c), (S s455), (.slice s456b s456n s456c)] 31 fun a457 h458 => HCalls Try.prog 29 ⟨[(.slice (some a457) 1 1), (.int .i64 (0 : Int)), (.int .i64 (600 : Int))]⟩ h458 fun v459 h460 => vInt .i64 v459 fun i461 => Spl (i461 > (600 : Int)) (HCalls Try.prog 8 ⟨[]⟩ h460 fun v462 h463 => vBool v462 fun b464 => cond b464 (Kr true h463) (Kr false h463)) (HCalls Try.prog 8 ⟨[]⟩ h460 fun v465 h466 => vBool v465 fun b467 => cond b467 (n3 x0b x0n x0c x3 Kn Kr h466) (HCalls Try.prog 8 ⟨[]⟩ h466 fun v468 h469 => vBool v468 fun b470 => cond b470 (Kr true h469) (Kr false h469))))))))))
theorem n2_ok (x0b : Option Addr) (x0n : Nat) (x0c : Nat) (x3 : Addr) (Kn : T0) (Kr : T0) (g : Env) (hg : E2 g x0b x0n x0c x3) (h : H) (hS : n2 x0b x0n x0c x3 Kn Kr h) : wpC none Try.prog 154 n1_c2 (Q0 Kn Kr) g h := by
  obtain ⟨hg0, hg3, hds⟩ := hg
  refine wpC_seq' (x := n2_c1) (y := n2_c2) (Q' := (Q17 (fun z0b z0n z0c z3 h => n3 z0b z0n z0c z3 Kn Kr h) Kr)) (by kernel_rfl) ?_ ?_
  · refine wpC_of_wpx (by kernel_rfl) (by kernel_rfl) (g' := ((⟨g.v, []⟩ : Env).upd (some 0) (.slice x0b x0n x0c)).upd (some 3) (.pointer (some x3))) (by rw [env_ds hds, upd_self hg0, upd_self hg3]) ?_
    have e : (n2 x0b x0n x0c x3 Kn Kr h) = wpx none Try.prog 154 n2_c1 (Q17 (fun z0b z0n z0c z3 h => n3 z0b z0n z0c z3 Kn Kr h) Kr) (((⟨g.v, []⟩ : Env).upd (some 0) (.slice x0b x0n x0c)).upd (some 3) (.pointer (some x3))) h := by kernel_rfl
    exact e ▸ hS
  · intro e g' h' hq
    cases e with
    | normal =>
      have hq : D2 (fun z0b z0n z0c z3 h => n3 z0b z0n z0c z3 Kn Kr h) g' h' := hq
      obtain ⟨y0b, y0n, y0c, y3, hg', hq⟩ := D2_ok hq
      exact n3_ok y0b y0n y0c y3 Kn Kr g' hg' h' hq
    | _ => exact hq
abbrev n1 (x0b : Option Addr) (x0n : Nat) (x0c : Nat) (x1_0 : Int) (x1_1 : Int) (x1_2 : List UInt8) (x1_3b : Option Addr) (x1_3n : Nat) (x1_3c : Nat) (x1_4 : List UInt8) (x1_5b : Option Addr) (x1_5n : Nat) (x1_5c : Nat) (Kn : T0) (Kr : T0) (h : H) : Prop :=
  newx h ⟨[(.int .u8 x1_0), (.int .u8 x1_1), (S x1_2), (.slice x1_3b x1_3n x1_3c), (S x1_4), (.slice x1_5b x1_5n x1_5c)]⟩ 31 fun a471 h472 => n2 x0b x0n x0c a471 Kn Kr h472
theorem n1_ok (x0b : Option Addr) (x0n : Nat) (x0c : Nat) (x1_0 : Int) (x1_1 : Int) (x1_2 : List UInt8) (x1_3b : Option Addr) (x1_3n : Nat) (x1_3c : Nat) (x1_4 : List UInt8) (x1_5b : Option Addr) (x1_5n : Nat) (x1_5c : Nat) (Kn : T0) (Kr : T0) (g : Env) (hg : E1 g x0b x0n x0c x1_0 x1_1 x1_2 x1_3b x1_3n x1_3c x1_4 x1_5b x1_5n x1_5c) (h : H) (hS : n1 x0b x0n x0c x1_0 x1_1 x1_2 x1_3b x1_3n x1_3c x1_4 x1_5b x1_5n x1_5c Kn Kr h) : wpC none Try.prog 154 code (Q0 Kn Kr) g h := by
  obtain ⟨hg0, hg1, hds⟩ := hg
  refine wpC_seq' (x := n1_c1) (y := n1_c2) (Q' := (Q17 (fun z0b z0n z0c z3 h => n2 z0b z0n z0c z3 Kn Kr h) Kr)) (by kernel_rfl) ?_ ?_
  · refine wpC_of_wpx (by kernel_rfl) (by kernel_rfl) (g' := ((⟨g.v, []⟩ : Env).upd (some 0) (.slice x0b x0n x0c)).upd (some 1) (.agg ⟨[(.int .u8 x1_0), (.int .u8 x1_1), (S x1_2), (.slice x1_3b x1_3n x1_3c), (S x1_4), (.slice x1_5b x1_5n x1_5c)]⟩)) (by rw [env_ds hds, upd_self hg0, upd_self hg1]) ?_
    have e : (n1 x0b x0n x0c x1_0 x1_1 x1_2 x1_3b x1_3n x1_3c x1_4 x1_5b x1_5n x1_5c Kn Kr h) = wpx none Try.prog 154 n1_c1 (Q17 (fun z0b z0n z0c z3 h => n2 z0b z0n z0c z3 Kn Kr h) Kr) (((⟨g.v, []⟩ : Env).upd (some 0) (.slice x0b x0n x0c)).upd (some 1) (.agg ⟨[(.int .u8 x1_0), (.int .u8 x1_1), (S x1_2), (.slice x1_3b x1_3n x1_3c), (S x1_4), (.slice x1_5b x1_5n x1_5c)]⟩)) h := by kernel_rfl
    exact e ▸ hS
  · intro e g' h' hq
    cases e with
    | normal =>
      have hq : D2 (fun z0b z0n z0c z3 h => n2 z0b z0n z0c z3 Kn Kr h) g' h' := hq
      obtain ⟨y0b, y0n, y0c, y3, hg', hq⟩ := D2_ok hq
      exact n2_ok y0b y0n y0c y3 Kn Kr g' hg' h' hq
    | _ => exact hq
/-- WHAT tympan/tympanlaw10.DomBack ASKS -/
abbrev asks (x0b : Option Addr) (x0n : Nat) (x0c : Nat) (x1_0 : Int) (x1_1 : Int) (x1_2 : List UInt8) (x1_3b : Option Addr) (x1_3n : Nat) (x1_3c : Nat) (x1_4 : List UInt8) (x1_5b : Option Addr) (x1_5n : Nat) (x1_5c : Nat) (K : Value → H → Prop) (h : H) : Prop := n1 x0b x0n x0c x1_0 x1_1 x1_2 x1_3b x1_3n x1_3c x1_4 x1_5b x1_5n x1_5c (fun y4 h => K (.bool y4) h) (fun y4 h => K (.bool y4) h) h
theorem ok (x0b : Option Addr) (x0n : Nat) (x0c : Nat) (x1_0 : Int) (x1_1 : Int) (x1_2 : List UInt8) (x1_3b : Option Addr) (x1_3n : Nat) (x1_3c : Nat) (x1_4 : List UInt8) (x1_5b : Option Addr) (x1_5n : Nat) (x1_5c : Nat) (K : Value → H → Prop) (h : H) (hS : asks x0b x0n x0c x1_0 x1_1 x1_2 x1_3b x1_3n x1_3c x1_4 x1_5b x1_5n x1_5c K h) : HCalls Try.prog 6 ⟨[(.slice x0b x0n x0c), (.agg ⟨[(.int .u8 x1_0), (.int .u8 x1_1), (S x1_2), (.slice x1_3b x1_3n x1_3c), (S x1_4), (.slice x1_5b x1_5n x1_5c)]⟩)]⟩ h K := by
  refine calls_of_wpC (c := code) Try.func6 (by kernel_rfl) (Nat.le_of_ble_eq_true (by kernel_rfl)) ?_
  refine (n1_ok x0b x0n x0c x1_0 x1_1 x1_2 x1_3b x1_3n x1_3c x1_4 x1_5b x1_5n x1_5c (fun y4 h => K (.bool y4) h) (fun y4 h => K (.bool y4) h) (env0 [(.slice x0b x0n x0c), (.agg ⟨[(.int .u8 x1_0), (.int .u8 x1_1), (S x1_2), (.slice x1_3b x1_3n x1_3c), (S x1_4), (.slice x1_5b x1_5n x1_5c)]⟩)]) ⟨rfl, rfl, rfl⟩ h hS).mono ?_
  intro e g' h' hq
  cases e with
  | normal =>
    have hq : D0 (fun y4 h => K (.bool y4) h) g' h' := hq
    obtain ⟨y4, ⟨hg4, hd⟩, hq⟩ := D0_ok hq
    show leaveX g'.ds h' _
    rw [hd]
    show K (g'.v 4) h'
    rw [hg4]
    exact hq
  | ret =>
    have hq : D0 (fun y4 h => K (.bool y4) h) g' h' := hq
    obtain ⟨y4, ⟨hg4, hd⟩, hq⟩ := D0_ok hq
    show leaveX g'.ds h' _
    rw [hd]
    show K (g'.v 4) h'
    rw [hg4]
    exact hq
  | _ => exact hq
end Sx.l10_DomBack

/-! ### tympan/tympanlaw10.stands -/
namespace Sx.l10_stands
noncomputable def code : Code := bodyOf Try.f28
abbrev T0 := Bool → H → Prop
def E0 (g : Env) (x6 : Bool) : Prop := g.v 6 = (.bool x6) ∧ g.ds = []
def D0 (K : T0) (g : Env) (h : H) : Prop := nilDs g.ds (vBool (g.v 6) fun b1 => K b1 h)
theorem D0_ok {K : T0} {g : Env} {h : H} (hq : D0 K g h) : ∃ (x6 : Bool), E0 g x6 ∧ K x6 h := by
  obtain ⟨hd, hq⟩ := nilDs_ok hq
  obtain ⟨y3, e2, q4⟩ := vBool_ok hq
  exact ⟨y3, ⟨e2, hd⟩, q4⟩
def Q0 (Kn : T0) (Kr : T0) : XPost
  | .normal, g, h => D0 Kn g h
  | .ret, g, h => D0 Kr g h
  | _, _, _ => False
abbrev T1 := (Option Addr) → (Option Addr) → Int → H → Prop
def E1 (g : Env) (x0 : Option Addr) (x1 : Option Addr) (x2 : Int) : Prop := g.v 0 = (.pointer x0) ∧ g.v 1 = (.pointer x1) ∧ g.v 2 = (.int .i64 x2) ∧ g.ds = []
def D1 (K : T1) (g : Env) (h : H) : Prop := nilDs g.ds (vPtr (g.v 0) fun p5 => vPtr (g.v 1) fun p6 => vInt .i64 (g.v 2) fun i7 => K p5 p6 i7 h)
theorem D1_ok {K : T1} {g : Env} {h : H} (hq : D1 K g h) : ∃ (x0 : Option Addr) (x1 : Option Addr) (x2 : Int), E1 g x0 x1 x2 ∧ K x0 x1 x2 h := by
  obtain ⟨hd, hq⟩ := nilDs_ok hq
  obtain ⟨y9, e8, q10⟩ := vPtr_ok hq
  obtain ⟨y12, e11, q13⟩ := vPtr_ok q10
  obtain ⟨y15, e14, q16⟩ := vInt_ok q13
  exact ⟨y9, y12, y15, ⟨e8, e11, e14, hd⟩, q16⟩
noncomputable def n1_c1 : Code := cFst code
noncomputable def n1_c2 : Code := cSnd code
noncomputable def n2_c1 : Code := cFst n1_c2
noncomputable def n2_c2 : Code := cSnd n1_c2
abbrev T2 := (Option Addr) → (Option Addr) → H → Prop
def E2 (g : Env) (x0 : Option Addr) (x1 : Option Addr) : Prop := g.v 0 = (.pointer x0) ∧ g.v 1 = (.pointer x1) ∧ g.ds = []
def D2 (K : T2) (g : Env) (h : H) : Prop := nilDs g.ds (vPtr (g.v 0) fun p17 => vPtr (g.v 1) fun p18 => K p17 p18 h)
theorem D2_ok {K : T2} {g : Env} {h : H} (hq : D2 K g h) : ∃ (x0 : Option Addr) (x1 : Option Addr), E2 g x0 x1 ∧ K x0 x1 h := by
  obtain ⟨hd, hq⟩ := nilDs_ok hq
  obtain ⟨y20, e19, q21⟩ := vPtr_ok hq
  obtain ⟨y23, e22, q24⟩ := vPtr_ok q21
  exact ⟨y20, y23, ⟨e19, e22, hd⟩, q24⟩
abbrev n3 (x0 : Option Addr) (x1 : Option Addr) (Kn : T0) (Kr : T0) (h : H) : Prop :=
  HCalls Try.prog 12 ⟨[(.pointer x0), (.int .i64 (0 : Int))]⟩ h fun v25 h26 => vSlice v25 fun s27b s27n s27c => HCalls Try.prog 53 ⟨[(.pointer x1), (.int .i64 (0 : Int))]⟩ h26 fun v28 h29 => vSlice v28 fun s30b s30n s30c => HCalls Try.prog 16 ⟨[(.slice s27b s27n s27c), (.slice s30b s30n s30c)]⟩ h29 fun v31 h32 => vBool v31 fun b33 => cond b33 (Kr true h32) (Kr false h32)
theorem n3_ok (x0 : Option Addr) (x1 : Option Addr) (Kn : T0) (Kr : T0) (g : Env) (hg : E2 g x0 x1) (h : H) (hS : n3 x0 x1 Kn Kr h) : wpC none Try.prog 35 n2_c2 (Q0 Kn Kr) g h := by
  obtain ⟨hg0, hg1, hds⟩ := hg
  refine wpC_of_wpx (by kernel_rfl) (by kernel_rfl) (g' := ((⟨g.v, []⟩ : Env).upd (some 0) (.pointer x0)).upd (some 1) (.pointer x1)) (by rw [env_ds hds, upd_self hg0, upd_self hg1]) ?_
  have e : (n3 x0 x1 Kn Kr h) = wpx none Try.prog 35 n2_c2 (Q0 Kn Kr) (((⟨g.v, []⟩ : Env).upd (some 0) (.pointer x0)).upd (some 1) (.pointer x1)) h := by kernel_rfl
  exact e ▸ hS
def Q1 (Kn : T2) (Kr : T0) : XPost
  | .normal, g, h => D2 Kn g h
  | .ret, g, h => D0 Kr g h
  | _, _, _ => False
noncomputable def n4_c1 : Code := cFst n2_c1
noncomputable def n4_c2 : Code := cSnd n2_c1
abbrev T3 := (Option Addr) → (Option Addr) → Int → Int → H → Prop
def E3 (g : Env) (x0 : Option Addr) (x1 : Option Addr) (x2 : Int) (x7 : Int) : Prop := g.v 0 = (.pointer x0) ∧ g.v 1 = (.pointer x1) ∧ g.v 2 = (.int .i64 x2) ∧ g.v 7 = (.int .i64 x7) ∧ g.ds = []
def D3 (K : T3) (g : Env) (h : H) : Prop := nilDs g.ds (vPtr (g.v 0) fun p34 => vPtr (g.v 1) fun p35 => vInt .i64 (g.v 2) fun i36 => vInt .i64 (g.v 7) fun i37 => K p34 p35 i36 i37 h)
theorem D3_ok {K : T3} {g : Env} {h : H} (hq : D3 K g h) : ∃ (x0 : Option Addr) (x1 : Option Addr) (x2 : Int) (x7 : Int), E3 g x0 x1 x2 x7 ∧ K x0 x1 x2 x7 h := by
  obtain ⟨hd, hq⟩ := nilDs_ok hq
  obtain ⟨y39, e38, q40⟩ := vPtr_ok hq
  obtain ⟨y42, e41, q43⟩ := vPtr_ok q40
  obtain ⟨y45, e44, q46⟩ := vInt_ok q43
  obtain ⟨y48, e47, q49⟩ := vInt_ok q46
  exact ⟨y39, y42, y45, y48, ⟨e38, e41, e44, e47, hd⟩, q49⟩
noncomputable def n5_c1 : Code := cFst n4_c2
def Q2 (Kn : T2) (Ke0 : T2) (Kr : T0) : XPost
  | .normal, g, h => D2 Kn g h
  | .ret, g, h => D0 Kr g h
  | .exit id, g, h => cond (Nat.beq id 0) (D2 Ke0 g h) (False)
  | _, _, _ => False
noncomputable def n6_c1 : Code := cFst n5_c1
def Q3 (Kn : T3) (Ke0 : T2) (Kr : T0) : XPost
  | .normal, g, h => D3 Kn g h
  | .ret, g, h => D0 Kr g h
  | .exit id, g, h => cond (Nat.beq id 0) (D2 Ke0 g h) (False)
  | _, _, _ => False
def n6_L (Kn : T2) (Ke0 : T2) (Kr : T0) : Nat → (Option Addr) → (Option Addr) → Int → Int → H → Prop
  | 0 => fun _ _ _ _ _ => False
  | N + 1 => fun x0 x1 x2 x7 h => Spl (x7 ≤ x2) (HCalls Try.prog 49 ⟨[(.pointer x0), (.int .i64 x7)]⟩ h fun v50 h51 => vInt .i64 v50 fun i52 => HCalls Try.prog 50 ⟨[(.pointer x1), (.int .i64 x7)]⟩ h51 fun v53 h54 => vInt .i64 v53 fun i55 => Spl (i52 = i55) (HCalls Try.prog 15 ⟨[(.pointer x0), (.int .i64 x7)]⟩ h54 fun v56 h57 => vSlice v56 fun s58b s58n s58c => HCalls Try.prog 52 ⟨[(.pointer x1), (.int .i64 x7)]⟩ h57 fun v59 h60 => vSlice v59 fun s61b s61n s61c => HCalls Try.prog 51 ⟨[(.slice s58b s58n s58c), (.slice s61b s61n s61c)]⟩ h60 fun v62 h63 => vBool v62 fun b64 => cond b64 (Rng .i64 (x7 + (1 : Int)) ∧ (n6_L Kn Ke0 Kr N x0 x1 x2 (x7 + (1 : Int)) h63)) (Kr false h63)) (Kr false h54)) (Ke0 x0 x1 h)
abbrev n6 (x0 : Option Addr) (x1 : Option Addr) (x2 : Int) (x7 : Int) (Kn : T2) (Ke0 : T2) (Kr : T0) (h : H) : Prop := ∃ N, n6_L Kn Ke0 Kr N x0 x1 x2 x7 h
theorem n6_ok (x0 : Option Addr) (x1 : Option Addr) (x2 : Int) (x7 : Int) (Kn : T2) (Ke0 : T2) (Kr : T0) (g : Env) (hg : E3 g x0 x1 x2 x7) (h : H) (hS : n6 x0 x1 x2 x7 Kn Ke0 Kr h) : wpC none Try.prog 35 n5_c1 (Q2 Kn Ke0 Kr) g h := by
  obtain ⟨N0, hS⟩ := hS
  refine wpC_loop' (x := n6_c1) (by kernel_rfl) (fun k g h => ∃ (x0 : Option Addr) (x1 : Option Addr) (x2 : Int) (x7 : Int), E3 g x0 x1 x2 x7 ∧ n6_L Kn Ke0 Kr k x0 x1 x2 x7 h) (fun g h hr => ?_) (fun N g h hr => ?_) N0 ⟨x0, x1, x2, x7, hg, hS⟩
  · obtain ⟨x0, x1, x2, x7, hg, hS⟩ := hr
    exact hS.elim
  · obtain ⟨x0, x1, x2, x7, hg, hS⟩ := hr
    have hw : wpC none Try.prog 35 n6_c1 (Q3 (fun z0 z1 z2 z7 h => n6_L Kn Ke0 Kr N z0 z1 z2 z7 h) Ke0 Kr) g h := by
      obtain ⟨hg0, hg1, hg2, hg7, hds⟩ := hg
      refine wpC_of_wpx (by kernel_rfl) (by kernel_rfl) (g' := ((((⟨g.v, []⟩ : Env).upd (some 0) (.pointer x0)).upd (some 1) (.pointer x1)).upd (some 2) (.int .i64 x2)).upd (some 7) (.int .i64 x7)) (by rw [env_ds hds, upd_self hg0, upd_self hg1, upd_self hg2, upd_self hg7]) ?_
      have e : (n6_L Kn Ke0 Kr (N + 1) x0 x1 x2 x7 h) = wpx none Try.prog 35 n6_c1 (Q3 (fun z0 z1 z2 z7 h => n6_L Kn Ke0 Kr N z0 z1 z2 z7 h) Ke0 Kr) (((((⟨g.v, []⟩ : Env).upd (some 0) (.pointer x0)).upd (some 1) (.pointer x1)).upd (some 2) (.int .i64 x2)).upd (some 7) (.int .i64 x7)) h := by kernel_rfl
      exact e ▸ hS
    refine hw.mono ?_
    intro e g' h' hq
    cases e with
    | normal => exact D3_ok (K := (fun z0 z1 z2 z7 h => n6_L Kn Ke0 Kr N z0 z1 z2 z7 h)) hq
    | _ => exact hq
abbrev n5 (x0 : Option Addr) (x1 : Option Addr) (x2 : Int) (x7 : Int) (Kn : T2) (Kr : T0) (h : H) : Prop := n6 x0 x1 x2 x7 Kn Kn Kr h
theorem n5_ok (x0 : Option Addr) (x1 : Option Addr) (x2 : Int) (x7 : Int) (Kn : T2) (Kr : T0) (g : Env) (hg : E3 g x0 x1 x2 x7) (h : H) (hS : n5 x0 x1 x2 x7 Kn Kr h) : wpC none Try.prog 35 n4_c2 (Q1 Kn Kr) g h := by
  refine wpC_block' (id := 0) (x := n5_c1) (by kernel_rfl) (n6_ok x0 x1 x2 x7 Kn Kn Kr g hg h hS) ?_
  intro e g' h' hq
  cases e <;> exact hq
def Q4 (Kn : T3) (Kr : T0) : XPost
  | .normal, g, h => D3 Kn g h
  | .ret, g, h => D0 Kr g h
  | _, _, _ => False
abbrev n4 (x0 : Option Addr) (x1 : Option Addr) (x2 : Int) (Kn : T2) (Kr : T0) (h : H) : Prop :=
  n5 x0 x1 x2 (-1 : Int) Kn Kr h
theorem n4_ok (x0 : Option Addr) (x1 : Option Addr) (x2 : Int) (Kn : T2) (Kr : T0) (g : Env) (hg : E1 g x0 x1 x2) (h : H) (hS : n4 x0 x1 x2 Kn Kr h) : wpC none Try.prog 35 n2_c1 (Q1 Kn Kr) g h := by
  obtain ⟨hg0, hg1, hg2, hds⟩ := hg
  refine wpC_seq' (x := n4_c1) (y := n4_c2) (Q' := (Q4 (fun z0 z1 z2 z7 h => n5 z0 z1 z2 z7 Kn Kr h) Kr)) (by kernel_rfl) ?_ ?_
  · refine wpC_of_wpx (by kernel_rfl) (by kernel_rfl) (g' := (((⟨g.v, []⟩ : Env).upd (some 0) (.pointer x0)).upd (some 1) (.pointer x1)).upd (some 2) (.int .i64 x2)) (by rw [env_ds hds, upd_self hg0, upd_self hg1, upd_self hg2]) ?_
    have e : (n4 x0 x1 x2 Kn Kr h) = wpx none Try.prog 35 n4_c1 (Q4 (fun z0 z1 z2 z7 h => n5 z0 z1 z2 z7 Kn Kr h) Kr) ((((⟨g.v, []⟩ : Env).upd (some 0) (.pointer x0)).upd (some 1) (.pointer x1)).upd (some 2) (.int .i64 x2)) h := by kernel_rfl
    exact e ▸ hS
  · intro e g' h' hq
    cases e with
    | normal =>
      have hq : D3 (fun z0 z1 z2 z7 h => n5 z0 z1 z2 z7 Kn Kr h) g' h' := hq
      obtain ⟨y0, y1, y2, y7, hg', hq⟩ := D3_ok hq
      exact n5_ok y0 y1 y2 y7 Kn Kr g' hg' h' hq
    | _ => exact hq
abbrev n2 (x0 : Option Addr) (x1 : Option Addr) (x2 : Int) (Kn : T0) (Kr : T0) (h : H) : Prop := n4 x0 x1 x2 (fun z0 z1 h => n3 z0 z1 Kn Kr h) Kr h
theorem n2_ok (x0 : Option Addr) (x1 : Option Addr) (x2 : Int) (Kn : T0) (Kr : T0) (g : Env) (hg : E1 g x0 x1 x2) (h : H) (hS : n2 x0 x1 x2 Kn Kr h) : wpC none Try.prog 35 n1_c2 (Q0 Kn Kr) g h := by
  refine wpC_seq' (x := n2_c1) (y := n2_c2) (by kernel_rfl) (n4_ok x0 x1 x2 (fun z0 z1 h => n3 z0 z1 Kn Kr h) Kr g hg h hS) ?_
  intro e g' h' hq
  cases e with
  | normal =>
    have hq : D2 (fun z0 z1 h => n3 z0 z1 Kn Kr h) g' h' := hq
    obtain ⟨y0, y1, hg', hq⟩ := D2_ok hq
    exact n3_ok y0 y1 Kn Kr g' hg' h' hq
  | _ => exact hq
def Q5 (Kn : T1) (Kr : T0) : XPost
  | .normal, g, h => D1 Kn g h
  | .ret, g, h => D0 Kr g h
  | _, _, _ => False
abbrev n1 (x0 : Option Addr) (x1 : Option Addr) (x2 : Int) (Kn : T0) (Kr : T0) (h : H) : Prop :=
  n2 x0 x1 x2 Kn Kr h
theorem n1_ok (x0 : Option Addr) (x1 : Option Addr) (x2 : Int) (Kn : T0) (Kr : T0) (g : Env) (hg : E1 g x0 x1 x2) (h : H) (hS : n1 x0 x1 x2 Kn Kr h) : wpC none Try.prog 35 code (Q0 Kn Kr) g h := by
  obtain ⟨hg0, hg1, hg2, hds⟩ := hg
  refine wpC_seq' (x := n1_c1) (y := n1_c2) (Q' := (Q5 (fun z0 z1 z2 h => n2 z0 z1 z2 Kn Kr h) Kr)) (by kernel_rfl) ?_ ?_
  · refine wpC_of_wpx (by kernel_rfl) (by kernel_rfl) (g' := (((⟨g.v, []⟩ : Env).upd (some 0) (.pointer x0)).upd (some 1) (.pointer x1)).upd (some 2) (.int .i64 x2)) (by rw [env_ds hds, upd_self hg0, upd_self hg1, upd_self hg2]) ?_
    have e : (n1 x0 x1 x2 Kn Kr h) = wpx none Try.prog 35 n1_c1 (Q5 (fun z0 z1 z2 h => n2 z0 z1 z2 Kn Kr h) Kr) ((((⟨g.v, []⟩ : Env).upd (some 0) (.pointer x0)).upd (some 1) (.pointer x1)).upd (some 2) (.int .i64 x2)) h := by kernel_rfl
    exact e ▸ hS
  · intro e g' h' hq
    cases e with
    | normal =>
      have hq : D1 (fun z0 z1 z2 h => n2 z0 z1 z2 Kn Kr h) g' h' := hq
      obtain ⟨y0, y1, y2, hg', hq⟩ := D1_ok hq
      exact n2_ok y0 y1 y2 Kn Kr g' hg' h' hq
    | _ => exact hq
/-- WHAT tympan/tympanlaw10.stands ASKS -/
abbrev asks (x0 : Option Addr) (x1 : Option Addr) (x2 : Int) (K : Value → H → Prop) (h : H) : Prop := n1 x0 x1 x2 (fun y6 h => K (.bool y6) h) (fun y6 h => K (.bool y6) h) h
theorem ok (x0 : Option Addr) (x1 : Option Addr) (x2 : Int) (K : Value → H → Prop) (h : H) (hS : asks x0 x1 x2 K h) : HCalls Try.prog 28 ⟨[(.pointer x0), (.pointer x1), (.int .i64 x2)]⟩ h K := by
  refine calls_of_wpC (c := code) Try.func28 (by kernel_rfl) (Nat.le_of_ble_eq_true (by kernel_rfl)) ?_
  refine (n1_ok x0 x1 x2 (fun y6 h => K (.bool y6) h) (fun y6 h => K (.bool y6) h) (env0 [(.pointer x0), (.pointer x1), (.int .i64 x2)]) ⟨rfl, rfl, rfl, rfl⟩ h hS).mono ?_
  intro e g' h' hq
  cases e with
  | normal =>
    have hq : D0 (fun y6 h => K (.bool y6) h) g' h' := hq
    obtain ⟨y6, ⟨hg6, hd⟩, hq⟩ := D0_ok hq
    show leaveX g'.ds h' _
    rw [hd]
    show K (g'.v 6) h'
    rw [hg6]
    exact hq
  | ret =>
    have hq : D0 (fun y6 h => K (.bool y6) h) g' h' := hq
    obtain ⟨y6, ⟨hg6, hd⟩, hq⟩ := D0_ok hq
    show leaveX g'.ds h' _
    rw [hd]
    show K (g'.v 6) h'
    rw [hg6]
    exact hq
  | _ => exact hq
end Sx.l10_stands
end Go.Proofs
