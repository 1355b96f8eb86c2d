/- The shallow forms of functions, printed by sh.py out of the translation; each with its proof. No condition. -/
import Derived.Test.YtgkaebhnamcfkaaShJ
import Derived.Test.YtgkaebhnamcfkaaProg
namespace Go.Proofs
open Go Go.Sh
set_option linter.unusedVariables false
set_option maxRecDepth 100000

/-! ### tympan/tympanlaw10.DomOwn -/
namespace Sx.l10_DomOwn
noncomputable def code : Code := bodyOf Try.f3
abbrev T0 := Bool → H → Prop
def E0 (g : Env) (x2 : Bool) : Prop := g.v 2 = (.bool x2) ∧ g.ds = []
def D0 (K : T0) (g : Env) (h : H) : Prop := nilDs g.ds (vBool (g.v 2) fun b1 => K b1 h)
theorem D0_ok {K : T0} {g : Env} {h : H} (hq : D0 K g h) : ∃ (x2 : Bool), E0 g x2 ∧ K x2 h := by
  obtain ⟨hd, hq⟩ := nilDs_ok hq
  obtain ⟨y3, e2, q4⟩ := vBool_ok hq
  exact ⟨y3, ⟨e2, hd⟩, q4⟩
def Q0 (Kn : T0) (Kr : T0) : XPost
  | .normal, g, h => D0 Kn g h
  | .ret, g, h => D0 Kr g h
  | _, _, _ => False
abbrev T1 := (Option Addr) → Nat → Nat → H → Prop
def E1 (g : Env) (x0b : Option Addr) (x0n : Nat) (x0c : Nat) : Prop := g.v 0 = (.slice x0b x0n x0c) ∧ g.ds = []
def D1 (K : T1) (g : Env) (h : H) : Prop := nilDs g.ds (vSlice (g.v 0) fun s5b s5n s5c => K s5b s5n s5c h)
theorem D1_ok {K : T1} {g : Env} {h : H} (hq : D1 K g h) : ∃ (x0b : Option Addr) (x0n : Nat) (x0c : Nat), E1 g x0b x0n x0c ∧ K x0b x0n x0c h := by
  obtain ⟨hd, hq⟩ := nilDs_ok hq
  obtain ⟨y7b, y7n, y7c, e6, q8⟩ := vSlice_ok hq
  exact ⟨y7b, y7n, y7c, ⟨e6, hd⟩, q8⟩
noncomputable def n1_c1 : Code := cFst code
noncomputable def n1_c2 : Code := cSnd code
noncomputable def n2_c1 : Code := cFst n1_c2
noncomputable def n2_c2 : Code := cSnd n1_c2
noncomputable def n3_c1 : Code := cFst n2_c2
noncomputable def n3_c2 : Code := cSnd n2_c2
abbrev T2 := (Option Addr) → Nat → Nat → (Option Addr) → H → Prop
def E2 (g : Env) (x0b : Option Addr) (x0n : Nat) (x0c : Nat) (x3 : Option Addr) : Prop := g.v 0 = (.slice x0b x0n x0c) ∧ g.v 3 = (.pointer x3) ∧ g.ds = []
def D2 (K : T2) (g : Env) (h : H) : Prop := nilDs g.ds (vSlice (g.v 0) fun s9b s9n s9c => vPtr (g.v 3) fun p10 => K s9b s9n s9c p10 h)
theorem D2_ok {K : T2} {g : Env} {h : H} (hq : D2 K g h) : ∃ (x0b : Option Addr) (x0n : Nat) (x0c : Nat) (x3 : Option Addr), E2 g x0b x0n x0c x3 ∧ K x0b x0n x0c x3 h := by
  obtain ⟨hd, hq⟩ := nilDs_ok hq
  obtain ⟨y12b, y12n, y12c, e11, q13⟩ := vSlice_ok hq
  obtain ⟨y15, e14, q16⟩ := vPtr_ok q13
  exact ⟨y12b, y12n, y12c, y15, ⟨e11, e14, hd⟩, q16⟩
noncomputable def n4_c1 : Code := cFst n3_c2
noncomputable def n4_c2 : Code := cSnd n3_c2
abbrev T3 := (Option Addr) → H → Prop
def E3 (g : Env) (x3 : Option Addr) : Prop := g.v 3 = (.pointer x3) ∧ g.ds = []
def D3 (K : T3) (g : Env) (h : H) : Prop := nilDs g.ds (vPtr (g.v 3) fun p17 => K p17 h)
theorem D3_ok {K : T3} {g : Env} {h : H} (hq : D3 K g h) : ∃ (x3 : Option Addr), E3 g x3 ∧ K x3 h := by
  obtain ⟨hd, hq⟩ := nilDs_ok hq
  obtain ⟨y19, e18, q20⟩ := vPtr_ok hq
  exact ⟨y19, ⟨e18, hd⟩, q20⟩
noncomputable def n5_c1 : Code := cFst n4_c2
noncomputable def n5_c2 : Code := cSnd n4_c2
abbrev T4 := (Option Addr) → (Option Addr) → Nat → Nat → H → Prop
def E4 (g : Env) (x3 : Option Addr) (x6b : Option Addr) (x6n : Nat) (x6c : Nat) : Prop := g.v 3 = (.pointer x3) ∧ g.v 6 = (.slice x6b x6n x6c) ∧ g.ds = []
def D4 (K : T4) (g : Env) (h : H) : Prop := nilDs g.ds (vPtr (g.v 3) fun p21 => vSlice (g.v 6) fun s22b s22n s22c => K p21 s22b s22n s22c h)
theorem D4_ok {K : T4} {g : Env} {h : H} (hq : D4 K g h) : ∃ (x3 : Option Addr) (x6b : Option Addr) (x6n : Nat) (x6c : Nat), E4 g x3 x6b x6n x6c ∧ K x3 x6b x6n x6c h := by
  obtain ⟨hd, hq⟩ := nilDs_ok hq
  obtain ⟨y24, e23, q25⟩ := vPtr_ok hq
  obtain ⟨y27b, y27n, y27c, e26, q28⟩ := vSlice_ok q25
  exact ⟨y24, y27b, y27n, y27c, ⟨e23, e26, hd⟩, q28⟩
noncomputable def n6_c1 : Code := cFst n5_c2
noncomputable def n6_c2 : Code := cSnd n5_c2
abbrev T5 := (Option Addr) → (Option Addr) → Nat → Nat → (Option Addr) → Nat → Nat → H → Prop
def E5 (g : Env) (x3 : Option Addr) (x6b : Option Addr) (x6n : Nat) (x6c : Nat) (x7b : Option Addr) (x7n : Nat) (x7c : Nat) : Prop := g.v 3 = (.pointer x3) ∧ g.v 6 = (.slice x6b x6n x6c) ∧ g.v 7 = (.slice x7b x7n x7c) ∧ g.ds = []
def D5 (K : T5) (g : Env) (h : H) : Prop := nilDs g.ds (vPtr (g.v 3) fun p29 => vSlice (g.v 6) fun s30b s30n s30c => vSlice (g.v 7) fun s31b s31n s31c => K p29 s30b s30n s30c s31b s31n s31c h)
theorem D5_ok {K : T5} {g : Env} {h : H} (hq : D5 K g h) : ∃ (x3 : Option Addr) (x6b : Option Addr) (x6n : Nat) (x6c : Nat) (x7b : Option Addr) (x7n : Nat) (x7c : Nat), E5 g x3 x6b x6n x6c x7b x7n x7c ∧ K x3 x6b x6n x6c x7b x7n x7c h := by
  obtain ⟨hd, hq⟩ := nilDs_ok hq
  obtain ⟨y33, e32, q34⟩ := vPtr_ok hq
  obtain ⟨y36b, y36n, y36c, e35, q37⟩ := vSlice_ok q34
  obtain ⟨y39b, y39n, y39c, e38, q40⟩ := vSlice_ok q37
  exact ⟨y33, y36b, y36n, y36c, y39b, y39n, y39c, ⟨e32, e35, e38, hd⟩, q40⟩
noncomputable def n7_c1 : Code := cFst n6_c2
noncomputable def n7_c2 : Code := cSnd n6_c2
abbrev T6 := (Option Addr) → (Option Addr) → Nat → Nat → H → Prop
def E6 (g : Env) (x3 : Option Addr) (x7b : Option Addr) (x7n : Nat) (x7c : Nat) : Prop := g.v 3 = (.pointer x3) ∧ g.v 7 = (.slice x7b x7n x7c) ∧ g.ds = []
def D6 (K : T6) (g : Env) (h : H) : Prop := nilDs g.ds (vPtr (g.v 3) fun p41 => vSlice (g.v 7) fun s42b s42n s42c => K p41 s42b s42n s42c h)
theorem D6_ok {K : T6} {g : Env} {h : H} (hq : D6 K g h) : ∃ (x3 : Option Addr) (x7b : Option Addr) (x7n : Nat) (x7c : Nat), E6 g x3 x7b x7n x7c ∧ K x3 x7b x7n x7c h := by
  obtain ⟨hd, hq⟩ := nilDs_ok hq
  obtain ⟨y44, e43, q45⟩ := vPtr_ok hq
  obtain ⟨y47b, y47n, y47c, e46, q48⟩ := vSlice_ok q45
  exact ⟨y44, y47b, y47n, y47c, ⟨e43, e46, hd⟩, q48⟩
noncomputable def n8_c1 : Code := cFst n7_c2
noncomputable def n8_c2 : Code := cSnd n7_c2
abbrev T7 := (Option Addr) → (Option Addr) → Nat → Nat → (Option Addr) → Nat → Nat → H → Prop
def E7 (g : Env) (x3 : Option Addr) (x7b : Option Addr) (x7n : Nat) (x7c : Nat) (x8b : Option Addr) (x8n : Nat) (x8c : Nat) : Prop := g.v 3 = (.pointer x3) ∧ g.v 7 = (.slice x7b x7n x7c) ∧ g.v 8 = (.slice x8b x8n x8c) ∧ g.ds = []
def D7 (K : T7) (g : Env) (h : H) : Prop := nilDs g.ds (vPtr (g.v 3) fun p49 => vSlice (g.v 7) fun s50b s50n s50c => vSlice (g.v 8) fun s51b s51n s51c => K p49 s50b s50n s50c s51b s51n s51c h)
theorem D7_ok {K : T7} {g : Env} {h : H} (hq : D7 K g h) : ∃ (x3 : Option Addr) (x7b : Option Addr) (x7n : Nat) (x7c : Nat) (x8b : Option Addr) (x8n : Nat) (x8c : Nat), E7 g x3 x7b x7n x7c x8b x8n x8c ∧ K x3 x7b x7n x7c x8b x8n x8c h := by
  obtain ⟨hd, hq⟩ := nilDs_ok hq
  obtain ⟨y53, e52, q54⟩ := vPtr_ok hq
  obtain ⟨y56b, y56n, y56c, e55, q57⟩ := vSlice_ok q54
  obtain ⟨y59b, y59n, y59c, e58, q60⟩ := vSlice_ok q57
  exact ⟨y53, y56b, y56n, y56c, y59b, y59n, y59c, ⟨e52, e55, e58, hd⟩, q60⟩
noncomputable def n9_c1 : Code := cFst n8_c2
noncomputable def n9_c2 : Code := cSnd n8_c2
abbrev n10 (x3 : Option Addr) (x7b : Option Addr) (x7n : Nat) (x7c : Nat) (x8b : Option Addr) (x8n : Nat) (x8c : Nat) (Kn : T0) (Kr : T0) (h : H) : Prop :=
  HCalls Try.prog 12 ⟨[(.pointer x3), (.int .i64 (0 : Int))]⟩ h fun v61 h62 => vSlice v61 fun s63b s63n s63c => HCalls Try.prog 16 ⟨[(.slice s63b s63n s63c), (.slice x7b x7n x7c)]⟩ h62 fun v64 h65 => vBool v64 fun b66 => cond b66 (HCalls Try.prog 15 ⟨[(.pointer x3), (.int .i64 (0 : Int))]⟩ h65 fun v67 h68 => vSlice v67 fun s69b s69n s69c => Spl ((s69n : Int) = (x8n : Int)) (Kr true h68) (Kr false h68)) (Kr false h65)
theorem n10_ok (x3 : Option Addr) (x7b : Option Addr) (x7n : Nat) (x7c : Nat) (x8b : Option Addr) (x8n : Nat) (x8c : Nat) (Kn : T0) (Kr : T0) (g : Env) (hg : E7 g x3 x7b x7n x7c x8b x8n x8c) (h : H) (hS : n10 x3 x7b x7n x7c x8b x8n x8c Kn Kr h) : wpC none Try.prog 72 n9_c2 (Q0 Kn Kr) g h := by
  obtain ⟨hg3, hg7, hg8, hds⟩ := hg
  refine wpC_of_wpx (by kernel_rfl) (by kernel_rfl) (g' := (((⟨g.v, []⟩ : Env).upd (some 3) (.pointer x3)).upd (some 7) (.slice x7b x7n x7c)).upd (some 8) (.slice x8b x8n x8c)) (by rw [env_ds hds, upd_self hg3, upd_self hg7, upd_self hg8]) ?_
  have e : (n10 x3 x7b x7n x7c x8b x8n x8c Kn Kr h) = wpx none Try.prog 72 n9_c2 (Q0 Kn Kr) ((((⟨g.v, []⟩ : Env).upd (some 3) (.pointer x3)).upd (some 7) (.slice x7b x7n x7c)).upd (some 8) (.slice x8b x8n x8c)) h := by kernel_rfl
  exact e ▸ hS
def Q1 (Kn : T7) (Kr : T0) : XPost
  | .normal, g, h => D7 Kn g h
  | .ret, g, h => D0 Kr g h
  | _, _, _ => False
noncomputable def n11_c1 : Code := cFst n9_c1
noncomputable def n11_c2 : Code := cSnd n9_c1
abbrev T8 := (Option Addr) → (Option Addr) → Nat → Nat → (Option Addr) → Nat → Nat → Int → H → Prop
def E8 (g : Env) (x3 : Option Addr) (x7b : Option Addr) (x7n : Nat) (x7c : Nat) (x8b : Option Addr) (x8n : Nat) (x8c : Nat) (x9 : Int) : Prop := g.v 3 = (.pointer x3) ∧ g.v 7 = (.slice x7b x7n x7c) ∧ g.v 8 = (.slice x8b x8n x8c) ∧ g.v 9 = (.int .i64 x9) ∧ g.ds = []
def D8 (K : T8) (g : Env) (h : H) : Prop := nilDs g.ds (vPtr (g.v 3) fun p70 => vSlice (g.v 7) fun s71b s71n s71c => vSlice (g.v 8) fun s72b s72n s72c => vInt .i64 (g.v 9) fun i73 => K p70 s71b s71n s71c s72b s72n s72c i73 h)
theorem D8_ok {K : T8} {g : Env} {h : H} (hq : D8 K g h) : ∃ (x3 : Option Addr) (x7b : Option Addr) (x7n : Nat) (x7c : Nat) (x8b : Option Addr) (x8n : Nat) (x8c : Nat) (x9 : Int), E8 g x3 x7b x7n x7c x8b x8n x8c x9 ∧ K x3 x7b x7n x7c x8b x8n x8c x9 h := by
  obtain ⟨hd, hq⟩ := nilDs_ok hq
  obtain ⟨y75, e74, q76⟩ := vPtr_ok hq
  obtain ⟨y78b, y78n, y78c, e77, q79⟩ := vSlice_ok q76
  obtain ⟨y81b, y81n, y81c, e80, q82⟩ := vSlice_ok q79
  obtain ⟨y84, e83, q85⟩ := vInt_ok q82
  exact ⟨y75, y78b, y78n, y78c, y81b, y81n, y81c, y84, ⟨e74, e77, e80, e83, hd⟩, q85⟩
noncomputable def n12_c1 : Code := cFst n11_c2
def Q2 (Kn : T7) (Ke2 : T7) (Kr : T0) : XPost
  | .normal, g, h => D7 Kn g h
  | .ret, g, h => D0 Kr g h
  | .exit id, g, h => cond (Nat.beq id 2) (D7 Ke2 g h) (False)
  | _, _, _ => False
noncomputable def n13_c1 : Code := cFst n12_c1
def Q3 (Kn : T8) (Ke2 : T7) (Kr : T0) : XPost
  | .normal, g, h => D8 Kn g h
  | .ret, g, h => D0 Kr g h
  | .exit id, g, h => cond (Nat.beq id 2) (D7 Ke2 g h) (False)
  | _, _, _ => False
def n13_L (Kn : T7) (Ke2 : T7) (Kr : T0) : Nat → (Option Addr) → (Option Addr) → Nat → Nat → (Option Addr) → Nat → Nat → Int → H → Prop
  | 0 => fun _ _ _ _ _ _ _ _ _ => False
  | N + 1 => fun x3 x7b x7n x7c x8b x8n x8c x9 h => Spl (x9 < (x8n : Int)) ((0 ≤ x9 ∧ x9 < (x8n : Int)) ∧ (vSome x8b fun a86 => stL (a86.add (Int.toNat x9 * 1)) [(.int .i64 (-5 : Int))] 0 h fun h87 => Rng .i64 (x9 + (1 : Int)) ∧ (n13_L Kn Ke2 Kr N x3 x7b x7n x7c x8b x8n x8c (x9 + (1 : Int)) h87))) (Ke2 x3 x7b x7n x7c x8b x8n x8c h)
abbrev n13 (x3 : Option Addr) (x7b : Option Addr) (x7n : Nat) (x7c : Nat) (x8b : Option Addr) (x8n : Nat) (x8c : Nat) (x9 : Int) (Kn : T7) (Ke2 : T7) (Kr : T0) (h : H) : Prop := ∃ N, n13_L Kn Ke2 Kr N x3 x7b x7n x7c x8b x8n x8c x9 h
theorem n13_ok (x3 : Option Addr) (x7b : Option Addr) (x7n : Nat) (x7c : Nat) (x8b : Option Addr) (x8n : Nat) (x8c : Nat) (x9 : Int) (Kn : T7) (Ke2 : T7) (Kr : T0) (g : Env) (hg : E8 g x3 x7b x7n x7c x8b x8n x8c x9) (h : H) (hS : n13 x3 x7b x7n x7c x8b x8n x8c x9 Kn Ke2 Kr h) : wpC none Try.prog 72 n12_c1 (Q2 Kn Ke2 Kr) g h := by
  obtain ⟨N0, hS⟩ := hS
  refine wpC_loop' (x := n13_c1) (by kernel_rfl) (fun k g h => ∃ (x3 : Option Addr) (x7b : Option Addr) (x7n : Nat) (x7c : Nat) (x8b : Option Addr) (x8n : Nat) (x8c : Nat) (x9 : Int), E8 g x3 x7b x7n x7c x8b x8n x8c x9 ∧ n13_L Kn Ke2 Kr k x3 x7b x7n x7c x8b x8n x8c x9 h) (fun g h hr => ?_) (fun N g h hr => ?_) N0 ⟨x3, x7b, x7n, x7c, x8b, x8n, x8c, x9, hg, hS⟩
  · obtain ⟨x3, x7b, x7n, x7c, x8b, x8n, x8c, x9, hg, hS⟩ := hr
    exact hS.elim
  · obtain ⟨x3, x7b, x7n, x7c, x8b, x8n, x8c, x9, hg, hS⟩ := hr
    have hw : wpC none Try.prog 72 n13_c1 (Q3 (fun z3 z7b z7n z7c z8b z8n z8c z9 h => n13_L Kn Ke2 Kr N z3 z7b z7n z7c z8b z8n z8c z9 h) Ke2 Kr) g h := by
      obtain ⟨hg3, hg7, hg8, hg9, hds⟩ := hg
      refine wpC_of_wpx (by kernel_rfl) (by kernel_rfl) (g' := ((((⟨g.v, []⟩ : Env).upd (some 3) (.pointer x3)).upd (some 7) (.slice x7b x7n x7c)).upd (some 8) (.slice x8b x8n x8c)).upd (some 9) (.int .i64 x9)) (by rw [env_ds hds, upd_self hg3, upd_self hg7, upd_self hg8, upd_self hg9]) ?_
      have e : (n13_L Kn Ke2 Kr (N + 1) x3 x7b x7n x7c x8b x8n x8c x9 h) = wpx none Try.prog 72 n13_c1 (Q3 (fun z3 z7b z7n z7c z8b z8n z8c z9 h => n13_L Kn Ke2 Kr N z3 z7b z7n z7c z8b z8n z8c z9 h) Ke2 Kr) (((((⟨g.v, []⟩ : Env).upd (some 3) (.pointer x3)).upd (some 7) (.slice x7b x7n x7c)).upd (some 8) (.slice x8b x8n x8c)).upd (some 9) (.int .i64 x9)) h := by kernel_rfl
      exact e ▸ hS
    refine hw.mono ?_
    intro e g' h' hq
    cases e with
    | normal => exact D8_ok (K := (fun z3 z7b z7n z7c z8b z8n z8c z9 h => n13_L Kn Ke2 Kr N z3 z7b z7n z7c z8b z8n z8c z9 h)) hq
    | _ => exact hq
abbrev n12 (x3 : Option Addr) (x7b : Option Addr) (x7n : Nat) (x7c : Nat) (x8b : Option Addr) (x8n : Nat) (x8c : Nat) (x9 : Int) (Kn : T7) (Kr : T0) (h : H) : Prop := n13 x3 x7b x7n x7c x8b x8n x8c x9 Kn Kn Kr h
theorem n12_ok (x3 : Option Addr) (x7b : Option Addr) (x7n : Nat) (x7c : Nat) (x8b : Option Addr) (x8n : Nat) (x8c : Nat) (x9 : Int) (Kn : T7) (Kr : T0) (g : Env) (hg : E8 g x3 x7b x7n x7c x8b x8n x8c x9) (h : H) (hS : n12 x3 x7b x7n x7c x8b x8n x8c x9 Kn Kr h) : wpC none Try.prog 72 n11_c2 (Q1 Kn Kr) g h := by
  refine wpC_block' (id := 2) (x := n12_c1) (by kernel_rfl) (n13_ok x3 x7b x7n x7c x8b x8n x8c x9 Kn Kn Kr g hg h hS) ?_
  intro e g' h' hq
  cases e <;> exact hq
def Q4 (Kn : T8) (Kr : T0) : XPost
  | .normal, g, h => D8 Kn g h
  | .ret, g, h => D0 Kr g h
  | _, _, _ => False
abbrev n11 (x3 : Option Addr) (x7b : Option Addr) (x7n : Nat) (x7c : Nat) (x8b : Option Addr) (x8n : Nat) (x8c : Nat) (Kn : T7) (Kr : T0) (h : H) : Prop :=
  n12 x3 x7b x7n x7c x8b x8n x8c (0 : Int) Kn Kr h
theorem n11_ok (x3 : Option Addr) (x7b : Option Addr) (x7n : Nat) (x7c : Nat) (x8b : Option Addr) (x8n : Nat) (x8c : Nat) (Kn : T7) (Kr : T0) (g : Env) (hg : E7 g x3 x7b x7n x7c x8b x8n x8c) (h : H) (hS : n11 x3 x7b x7n x7c x8b x8n x8c Kn Kr h) : wpC none Try.prog 72 n9_c1 (Q1 Kn Kr) g h := by
  obtain ⟨hg3, hg7, hg8, hds⟩ := hg
  refine wpC_seq' (x := n11_c1) (y := n11_c2) (Q' := (Q4 (fun z3 z7b z7n z7c z8b z8n z8c z9 h => n12 z3 z7b z7n z7c z8b z8n z8c z9 Kn Kr h) Kr)) (by kernel_rfl) ?_ ?_
  · refine wpC_of_wpx (by kernel_rfl) (by kernel_rfl) (g' := (((⟨g.v, []⟩ : Env).upd (some 3) (.pointer x3)).upd (some 7) (.slice x7b x7n x7c)).upd (some 8) (.slice x8b x8n x8c)) (by rw [env_ds hds, upd_self hg3, upd_self hg7, upd_self hg8]) ?_
    have e : (n11 x3 x7b x7n x7c x8b x8n x8c Kn Kr h) = wpx none Try.prog 72 n11_c1 (Q4 (fun z3 z7b z7n z7c z8b z8n z8c z9 h => n12 z3 z7b z7n z7c z8b z8n z8c z9 Kn Kr h) Kr) ((((⟨g.v, []⟩ : Env).upd (some 3) (.pointer x3)).upd (some 7) (.slice x7b x7n x7c)).upd (some 8) (.slice x8b x8n x8c)) h := by kernel_rfl
    exact e ▸ hS
  · intro e g' h' hq
    cases e with
    | normal =>
      have hq : D8 (fun z3 z7b z7n z7c z8b z8n z8c z9 h => n12 z3 z7b z7n z7c z8b z8n z8c z9 Kn Kr h) g' h' := hq
      obtain ⟨y3, y7b, y7n, y7c, y8b, y8n, y8c, y9, hg', hq⟩ := D8_ok hq
      exact n12_ok y3 y7b y7n y7c y8b y8n y8c y9 Kn Kr g' hg' h' hq
    | _ => exact hq
abbrev n9 (x3 : Option Addr) (x7b : Option Addr) (x7n : Nat) (x7c : Nat) (x8b : Option Addr) (x8n : Nat) (x8c : Nat) (Kn : T0) (Kr : T0) (h : H) : Prop := n11 x3 x7b x7n x7c x8b x8n x8c (fun z3 z7b z7n z7c z8b z8n z8c h => n10 z3 z7b z7n z7c z8b z8n z8c Kn Kr h) Kr h
theorem n9_ok (x3 : Option Addr) (x7b : Option Addr) (x7n : Nat) (x7c : Nat) (x8b : Option Addr) (x8n : Nat) (x8c : Nat) (Kn : T0) (Kr : T0) (g : Env) (hg : E7 g x3 x7b x7n x7c x8b x8n x8c) (h : H) (hS : n9 x3 x7b x7n x7c x8b x8n x8c Kn Kr h) : wpC none Try.prog 72 n8_c2 (Q0 Kn Kr) g h := by
  refine wpC_seq' (x := n9_c1) (y := n9_c2) (by kernel_rfl) (n11_ok x3 x7b x7n x7c x8b x8n x8c (fun z3 z7b z7n z7c z8b z8n z8c h => n10 z3 z7b z7n z7c z8b z8n z8c Kn Kr h) Kr g hg h hS) ?_
  intro e g' h' hq
  cases e with
  | normal =>
    have hq : D7 (fun z3 z7b z7n z7c z8b z8n z8c h => n10 z3 z7b z7n z7c z8b z8n z8c Kn Kr h) g' h' := hq
    obtain ⟨y3, y7b, y7n, y7c, y8b, y8n, y8c, hg', hq⟩ := D7_ok hq
    exact n10_ok y3 y7b y7n y7c y8b y8n y8c Kn Kr g' hg' h' hq
  | _ => exact hq
abbrev n8 (x3 : Option Addr) (x7b : Option Addr) (x7n : Nat) (x7c : Nat) (Kn : T0) (Kr : T0) (h : H) : Prop :=
  HCalls Try.prog 15 ⟨[(.pointer x3), (.int .i64 (0 : Int))]⟩ h fun v88 h89 => vSlice v88 fun s90b s90n s90c => n9 x3 x7b x7n x7c s90b s90n s90c Kn Kr h89
theorem n8_ok (x3 : Option Addr) (x7b : Option Addr) (x7n : Nat) (x7c : Nat) (Kn : T0) (Kr : T0) (g : Env) (hg : E6 g x3 x7b x7n x7c) (h : H) (hS : n8 x3 x7b x7n x7c Kn Kr h) : wpC none Try.prog 72 n7_c2 (Q0 Kn Kr) g h := by
  obtain ⟨hg3, hg7, hds⟩ := hg
  refine wpC_seq' (x := n8_c1) (y := n8_c2) (Q' := (Q1 (fun z3 z7b z7n z7c z8b z8n z8c h => n9 z3 z7b z7n z7c z8b z8n z8c Kn Kr h) Kr)) (by kernel_rfl) ?_ ?_
  · refine wpC_of_wpx (by kernel_rfl) (by kernel_rfl) (g' := ((⟨g.v, []⟩ : Env).upd (some 3) (.pointer x3)).upd (some 7) (.slice x7b x7n x7c)) (by rw [env_ds hds, upd_self hg3, upd_self hg7]) ?_
    have e : (n8 x3 x7b x7n x7c Kn Kr h) = wpx none Try.prog 72 n8_c1 (Q1 (fun z3 z7b z7n z7c z8b z8n z8c h => n9 z3 z7b z7n z7c z8b z8n z8c Kn Kr h) Kr) (((⟨g.v, []⟩ : Env).upd (some 3) (.pointer x3)).upd (some 7) (.slice x7b x7n x7c)) h := by kernel_rfl
    exact e ▸ hS
  · intro e g' h' hq
    cases e with
    | normal =>
      have hq : D7 (fun z3 z7b z7n z7c z8b z8n z8c h => n9 z3 z7b z7n z7c z8b z8n z8c Kn Kr h) g' h' := hq
      obtain ⟨y3, y7b, y7n, y7c, y8b, y8n, y8c, hg', hq⟩ := D7_ok hq
      exact n9_ok y3 y7b y7n y7c y8b y8n y8c Kn Kr g' hg' h' hq
    | _ => exact hq
def Q5 (Kn : T6) (Kr : T0) : XPost
  | .normal, g, h => D6 Kn g h
  | .ret, g, h => D0 Kr g h
  | _, _, _ => False
abbrev n7 (x3 : Option Addr) (x6b : Option Addr) (x6n : Nat) (x6c : Nat) (x7b : Option Addr) (x7n : Nat) (x7c : Nat) (Kn : T0) (Kr : T0) (h : H) : Prop :=
  HCalls Try.prog 14 ⟨[(.slice x6b x6n x6c)]⟩ h fun v91 h92 => n8 x3 x7b x7n x7c Kn Kr h92
theorem n7_ok (x3 : Option Addr) (x6b : Option Addr) (x6n : Nat) (x6c : Nat) (x7b : Option Addr) (x7n : Nat) (x7c : Nat) (Kn : T0) (Kr : T0) (g : Env) (hg : E5 g x3 x6b x6n x6c x7b x7n x7c) (h : H) (hS : n7 x3 x6b x6n x6c x7b x7n x7c Kn Kr h) : wpC none Try.prog 72 n6_c2 (Q0 Kn Kr) g h := by
  obtain ⟨hg3, hg6, hg7, hds⟩ := hg
  refine wpC_seq' (x := n7_c1) (y := n7_c2) (Q' := (Q5 (fun z3 z7b z7n z7c h => n8 z3 z7b z7n z7c Kn Kr h) Kr)) (by kernel_rfl) ?_ ?_
  · refine wpC_of_wpx (by kernel_rfl) (by kernel_rfl) (g' := (((⟨g.v, []⟩ : Env).upd (some 3) (.pointer x3)).upd (some 6) (.slice x6b x6n x6c)).upd (some 7) (.slice x7b x7n x7c)) (by rw [env_ds hds, upd_self hg3, upd_self hg6, upd_self hg7]) ?_
    have e : (n7 x3 x6b x6n x6c x7b x7n x7c Kn Kr h) = wpx none Try.prog 72 n7_c1 (Q5 (fun z3 z7b z7n z7c h => n8 z3 z7b z7n z7c Kn Kr h) Kr) ((((⟨g.v, []⟩ : Env).upd (some 3) (.pointer x3)).upd (some 6) (.slice x6b x6n x6c)).upd (some 7) (.slice x7b x7n x7c)) h := by kernel_rfl
    exact e ▸ hS
  · intro e g' h' hq
    cases e with
    | normal =>
      have hq : D6 (fun z3 z7b z7n z7c h => n8 z3 z7b z7n z7c Kn Kr h) g' h' := hq
      obtain ⟨y3, y7b, y7n, y7c, hg', hq⟩ := D6_ok hq
      exact n8_ok y3 y7b y7n y7c Kn Kr g' hg' h' hq
    | _ => exact hq
def Q6 (Kn : T5) (Kr : T0) : XPost
  | .normal, g, h => D5 Kn g h
  | .ret, g, h => D0 Kr g h
  | _, _, _ => False
abbrev n6 (x3 : Option Addr) (x6b : Option Addr) (x6n : Nat) (x6c : Nat) (Kn : T0) (Kr : T0) (h : H) : Prop :=
  HCalls Try.prog 13 ⟨[(.slice x6b x6n x6c)]⟩ h fun v93 h94 => vSlice v93 fun s95b s95n s95c => n7 x3 x6b x6n x6c s95b s95n s95c Kn Kr h94
theorem n6_ok (x3 : Option Addr) (x6b : Option Addr) (x6n : Nat) (x6c : Nat) (Kn : T0) (Kr : T0) (g : Env) (hg : E4 g x3 x6b x6n x6c) (h : H) (hS : n6 x3 x6b x6n x6c Kn Kr h) : wpC none Try.prog 72 n5_c2 (Q0 Kn Kr) g h := by
  obtain ⟨hg3, hg6, hds⟩ := hg
  refine wpC_seq' (x := n6_c1) (y := n6_c2) (Q' := (Q6 (fun z3 z6b z6n z6c z7b z7n z7c h => n7 z3 z6b z6n z6c z7b z7n z7c Kn Kr h) Kr)) (by kernel_rfl) ?_ ?_
  · refine wpC_of_wpx (by kernel_rfl) (by kernel_rfl) (g' := ((⟨g.v, []⟩ : Env).upd (some 3) (.pointer x3)).upd (some 6) (.slice x6b x6n x6c)) (by rw [env_ds hds, upd_self hg3, upd_self hg6]) ?_
    have e : (n6 x3 x6b x6n x6c Kn Kr h) = wpx none Try.prog 72 n6_c1 (Q6 (fun z3 z6b z6n z6c z7b z7n z7c h => n7 z3 z6b z6n z6c z7b z7n z7c Kn Kr h) Kr) (((⟨g.v, []⟩ : Env).upd (some 3) (.pointer x3)).upd (some 6) (.slice x6b x6n x6c)) h := by kernel_rfl
    exact e ▸ hS
  · intro e g' h' hq
    cases e with
    | normal =>
      have hq : D5 (fun z3 z6b z6n z6c z7b z7n z7c h => n7 z3 z6b z6n z6c z7b z7n z7c Kn Kr h) g' h' := hq
      obtain ⟨y3, y6b, y6n, y6c, y7b, y7n, y7c, hg', hq⟩ := D5_ok hq
      exact n7_ok y3 y6b y6n y6c y7b y7n y7c Kn Kr g' hg' h' hq
    | _ => exact hq
def Q7 (Kn : T4) (Kr : T0) : XPost
  | .normal, g, h => D4 Kn g h
  | .ret, g, h => D0 Kr g h
  | _, _, _ => False
abbrev n5 (x3 : Option Addr) (Kn : T0) (Kr : T0) (h : H) : Prop :=
  HCalls Try.prog 12 ⟨[(.pointer x3), (.int .i64 (0 : Int))]⟩ h fun v96 h97 => vSlice v96 fun s98b s98n s98c => n6 x3 s98b s98n s98c Kn Kr h97
theorem n5_ok (x3 : Option Addr) (Kn : T0) (Kr : T0) (g : Env) (hg : E3 g x3) (h : H) (hS : n5 x3 Kn Kr h) : wpC none Try.prog 72 n4_c2 (Q0 Kn Kr) g h := by
  obtain ⟨hg3, hds⟩ := hg
  refine wpC_seq' (x := n5_c1) (y := n5_c2) (Q' := (Q7 (fun z3 z6b z6n z6c h => n6 z3 z6b z6n z6c Kn Kr h) Kr)) (by kernel_rfl) ?_ ?_
  · refine wpC_of_wpx (by kernel_rfl) (by kernel_rfl) (g' := (⟨g.v, []⟩ : Env).upd (some 3) (.pointer x3)) (by rw [env_ds hds, upd_self hg3]) ?_
    have e : (n5 x3 Kn Kr h) = wpx none Try.prog 72 n5_c1 (Q7 (fun z3 z6b z6n z6c h => n6 z3 z6b z6n z6c Kn Kr h) Kr) ((⟨g.v, []⟩ : Env).upd (some 3) (.pointer x3)) h := by kernel_rfl
    exact e ▸ hS
  · intro e g' h' hq
    cases e with
    | normal =>
      have hq : D4 (fun z3 z6b z6n z6c h => n6 z3 z6b z6n z6c Kn Kr h) g' h' := hq
      obtain ⟨y3, y6b, y6n, y6c, hg', hq⟩ := D4_ok hq
      exact n6_ok y3 y6b y6n y6c Kn Kr g' hg' h' hq
    | _ => exact hq
def Q8 (Kn : T3) (Kr : T0) : XPost
  | .normal, g, h => D3 Kn g h
  | .ret, g, h => D0 Kr g h
  | _, _, _ => False
noncomputable def n14_c1 : Code := cFst n4_c1
noncomputable def n14_c2 : Code := cSnd n4_c1
abbrev T9 := (Option Addr) → Nat → Nat → (Option Addr) → Int → H → Prop
def E9 (g : Env) (x0b : Option Addr) (x0n : Nat) (x0c : Nat) (x3 : Option Addr) (x4 : Int) : Prop := g.v 0 = (.slice x0b x0n x0c) ∧ g.v 3 = (.pointer x3) ∧ g.v 4 = (.int .i64 x4) ∧ g.ds = []
def D9 (K : T9) (g : Env) (h : H) : Prop := nilDs g.ds (vSlice (g.v 0) fun s99b s99n s99c => vPtr (g.v 3) fun p100 => vInt .i64 (g.v 4) fun i101 => K s99b s99n s99c p100 i101 h)
theorem D9_ok {K : T9} {g : Env} {h : H} (hq : D9 K g h) : ∃ (x0b : Option Addr) (x0n : Nat) (x0c : Nat) (x3 : Option Addr) (x4 : Int), E9 g x0b x0n x0c x3 x4 ∧ K x0b x0n x0c x3 x4 h := by
  obtain ⟨hd, hq⟩ := nilDs_ok hq
  obtain ⟨y103b, y103n, y103c, e102, q104⟩ := vSlice_ok hq
  obtain ⟨y106, e105, q107⟩ := vPtr_ok q104
  obtain ⟨y109, e108, q110⟩ := vInt_ok q107
  exact ⟨y103b, y103n, y103c, y106, y109, ⟨e102, e105, e108, hd⟩, q110⟩
noncomputable def n15_c1 : Code := cFst n14_c2
def Q9 (Kn : T3) (Ke0 : T3) (Kr : T0) : XPost
  | .normal, g, h => D3 Kn g h
  | .ret, g, h => D0 Kr g h
  | .exit id, g, h => cond (Nat.beq id 0) (D3 Ke0 g h) (False)
  | _, _, _ => False
noncomputable def n16_c1 : Code := cFst n15_c1
def Q10 (Kn : T9) (Ke0 : T3) (Kr : T0) : XPost
  | .normal, g, h => D9 Kn g h
  | .ret, g, h => D0 Kr g h
  | .exit id, g, h => cond (Nat.beq id 0) (D3 Ke0 g h) (False)
  | _, _, _ => False
def n16_L (Kn : T3) (Ke0 : T3) (Kr : T0) : Nat → (Option Addr) → Nat → Nat → (Option Addr) → Int → H → Prop
  | 0 => fun _ _ _ _ _ _ => False
  | N + 1 => fun x0b x0n x0c x3 x4 h => Spl (x4 < (x0n : Int)) ((0 ≤ x4 ∧ x4 < (x0n : Int)) ∧ (vSome x0b fun a111 => ∃ i112, cell h ((((a111.add (Int.toNat x4 * 10)).add 1)).add 0) = some (.int .u8 i112) ∧ (∃ i113, cell h ((((a111.add (Int.toNat x4 * 10)).add 1)).add 1) = some (.int .u8 i113) ∧ (∃ s114, cell h ((((a111.add (Int.toNat x4 * 10)).add 1)).add 2) = some (S s114) ∧ (∃ s115b s115n s115c, cell h ((((a111.add (Int.toNat x4 * 10)).add 1)).add 3) = some (.slice s115b s115n s115c) ∧ (∃ s116, cell h ((((a111.add (Int.toNat x4 * 10)).add 1)).add 4) = some (S s116) ∧ (∃ s117b s117n s117c, cell h ((((a111.add (Int.toNat x4 * 10)).add 1)).add 5) = some (.slice s117b s117n s117c) ∧ (HCalls Try.prog 10 ⟨[(.pointer x3), (.agg ⟨[(.int .u8 i112), (.int .u8 i113), (S s114), (.slice s115b s115n s115c), (S s116), (.slice s117b s117n s117c)]⟩)]⟩ h fun v118 h119 => vInt .i64 v118 fun i120 => (0 ≤ x4 ∧ x4 < (x0n : Int)) ∧ (vSome x0b fun a121 => ∃ i122, cell h119 ((a121.add (Int.toNat x4 * 10)).add 7) = some (.int .i64 i122) ∧ (Rng .i64 (x4 + (1 : Int)) ∧ ((x4 + (1 : Int)) ≠ 0 ∧ (HCalls Try.prog 11 ⟨[(.pointer x3), (.int .i64 (Int.tmod (if (0 : Int) > i122 then (0 : Int) else i122) (x4 + (1 : Int)))), (.int .i64 (-1 : Int)), (.int .i64 i120)]⟩ h119 fun v123 h124 => vBool v123 fun b125 => cond b125 (Rng .i64 (x4 + (1 : Int)) ∧ (n16_L Kn Ke0 Kr N x0b x0n x0c x3 (x4 + (1 : Int)) h124)) (Rng .i64 (x4 + (1 : Int)) ∧ (n16_L Kn Ke0 Kr N x0b x0n x0c x3 (x4 + (1 : Int)) h124)))))))))))))) (Ke0 x3 h)
abbrev n16 (x0b : Option Addr) (x0n : Nat) (x0c : Nat) (x3 : Option Addr) (x4 : Int) (Kn : T3) (Ke0 : T3) (Kr : T0) (h : H) : Prop := ∃ N, n16_L Kn Ke0 Kr N x0b x0n x0c x3 x4 h
theorem n16_ok (x0b : Option Addr) (x0n : Nat) (x0c : Nat) (x3 : Option Addr) (x4 : Int) (Kn : T3) (Ke0 : T3) (Kr : T0) (g : Env) (hg : E9 g x0b x0n x0c x3 x4) (h : H) (hS : n16 x0b x0n x0c x3 x4 Kn Ke0 Kr h) : wpC none Try.prog 72 n15_c1 (Q9 Kn Ke0 Kr) g h := by
  obtain ⟨N0, hS⟩ := hS
  refine wpC_loop' (x := n16_c1) (by kernel_rfl) (fun k g h => ∃ (x0b : Option Addr) (x0n : Nat) (x0c : Nat) (x3 : Option Addr) (x4 : Int), E9 g x0b x0n x0c x3 x4 ∧ n16_L Kn Ke0 Kr k x0b x0n x0c x3 x4 h) (fun g h hr => ?_) (fun N g h hr => ?_) N0 ⟨x0b, x0n, x0c, x3, x4, hg, hS⟩
  · obtain ⟨x0b, x0n, x0c, x3, x4, hg, hS⟩ := hr
    exact hS.elim
  · obtain ⟨x0b, x0n, x0c, x3, x4, hg, hS⟩ := hr
    have hw : wpC none Try.prog 72 n16_c1 (Q10 (fun z0b z0n z0c z3 z4 h => n16_L Kn Ke0 Kr N z0b z0n z0c z3 z4 h) Ke0 Kr) g h := by
      obtain ⟨hg0, hg3, hg4, hds⟩ := hg
      refine wpC_of_wpx (by kernel_rfl) (by kernel_rfl) (g' := (((⟨g.v, []⟩ : Env).upd (some 0) (.slice x0b x0n x0c)).upd (some 3) (.pointer x3)).upd (some 4) (.int .i64 x4)) (by rw [env_ds hds, upd_self hg0, upd_self hg3, upd_self hg4]) ?_
      have e : (n16_L Kn Ke0 Kr (N + 1) x0b x0n x0c x3 x4 h) = wpx none Try.prog 72 n16_c1 (Q10 (fun z0b z0n z0c z3 z4 h => n16_L Kn Ke0 Kr N z0b z0n z0c z3 z4 h) Ke0 Kr) ((((⟨g.v, []⟩ : Env).upd (some 0) (.slice x0b x0n x0c)).upd (some 3) (.pointer x3)).upd (some 4) (.int .i64 x4)) h := by kernel_rfl
      exact e ▸ hS
    refine hw.mono ?_
    intro e g' h' hq
    cases e with
    | normal => exact D9_ok (K := (fun z0b z0n z0c z3 z4 h => n16_L Kn Ke0 Kr N z0b z0n z0c z3 z4 h)) hq
    | _ => exact hq
abbrev n15 (x0b : Option Addr) (x0n : Nat) (x0c : Nat) (x3 : Option Addr) (x4 : Int) (Kn : T3) (Kr : T0) (h : H) : Prop := n16 x0b x0n x0c x3 x4 Kn Kn Kr h
theorem n15_ok (x0b : Option Addr) (x0n : Nat) (x0c : Nat) (x3 : Option Addr) (x4 : Int) (Kn : T3) (Kr : T0) (g : Env) (hg : E9 g x0b x0n x0c x3 x4) (h : H) (hS : n15 x0b x0n x0c x3 x4 Kn Kr h) : wpC none Try.prog 72 n14_c2 (Q8 Kn Kr) g h := by
  refine wpC_block' (id := 0) (x := n15_c1) (by kernel_rfl) (n16_ok x0b x0n x0c x3 x4 Kn Kn Kr g hg h hS) ?_
  intro e g' h' hq
  cases e <;> exact hq
def Q11 (Kn : T9) (Kr : T0) : XPost
  | .normal, g, h => D9 Kn g h
  | .ret, g, h => D0 Kr g h
  | _, _, _ => False
abbrev n14 (x0b : Option Addr) (x0n : Nat) (x0c : Nat) (x3 : Option Addr) (Kn : T3) (Kr : T0) (h : H) : Prop :=
  n15 x0b x0n x0c x3 (0 : Int) Kn Kr h
theorem n14_ok (x0b : Option Addr) (x0n : Nat) (x0c : Nat) (x3 : Option Addr) (Kn : T3) (Kr : T0) (g : Env) (hg : E2 g x0b x0n x0c x3) (h : H) (hS : n14 x0b x0n x0c x3 Kn Kr h) : wpC none Try.prog 72 n4_c1 (Q8 Kn Kr) g h := by
  obtain ⟨hg0, hg3, hds⟩ := hg
  refine wpC_seq' (x := n14_c1) (y := n14_c2) (Q' := (Q11 (fun z0b z0n z0c z3 z4 h => n15 z0b z0n z0c z3 z4 Kn Kr h) Kr)) (by kernel_rfl) ?_ ?_
  · refine wpC_of_wpx (by kernel_rfl) (by kernel_rfl) (g' := ((⟨g.v, []⟩ : Env).upd (some 0) (.slice x0b x0n x0c)).upd (some 3) (.pointer x3)) (by rw [env_ds hds, upd_self hg0, upd_self hg3]) ?_
    have e : (n14 x0b x0n x0c x3 Kn Kr h) = wpx none Try.prog 72 n14_c1 (Q11 (fun z0b z0n z0c z3 z4 h => n15 z0b z0n z0c z3 z4 Kn Kr h) Kr) (((⟨g.v, []⟩ : Env).upd (some 0) (.slice x0b x0n x0c)).upd (some 3) (.pointer x3)) h := by kernel_rfl
    exact e ▸ hS
  · intro e g' h' hq
    cases e with
    | normal =>
      have hq : D9 (fun z0b z0n z0c z3 z4 h => n15 z0b z0n z0c z3 z4 Kn Kr h) g' h' := hq
      obtain ⟨y0b, y0n, y0c, y3, y4, hg', hq⟩ := D9_ok hq
      exact n15_ok y0b y0n y0c y3 y4 Kn Kr g' hg' h' hq
    | _ => exact hq
abbrev n4 (x0b : Option Addr) (x0n : Nat) (x0c : Nat) (x3 : Option Addr) (Kn : T0) (Kr : T0) (h : H) : Prop := n14 x0b x0n x0c x3 (fun z3 h => n5 z3 Kn Kr h) Kr h
theorem n4_ok (x0b : Option Addr) (x0n : Nat) (x0c : Nat) (x3 : Option Addr) (Kn : T0) (Kr : T0) (g : Env) (hg : E2 g x0b x0n x0c x3) (h : H) (hS : n4 x0b x0n x0c x3 Kn Kr h) : wpC none Try.prog 72 n3_c2 (Q0 Kn Kr) g h := by
  refine wpC_seq' (x := n4_c1) (y := n4_c2) (by kernel_rfl) (n14_ok x0b x0n x0c x3 (fun z3 h => n5 z3 Kn Kr h) Kr g hg h hS) ?_
  intro e g' h' hq
  cases e with
  | normal =>
    have hq : D3 (fun z3 h => n5 z3 Kn Kr h) g' h' := hq
    obtain ⟨y3, hg', hq⟩ := D3_ok hq
    exact n5_ok y3 Kn Kr g' hg' h' hq
  | _ => exact hq
def Q12 (Kn : T2) (Kr : T0) : XPost
  | .normal, g, h => D2 Kn g h
  | .ret, g, h => D0 Kr g h
  | _, _, _ => False
abbrev n3 (x0b : Option Addr) (x0n : Nat) (x0c : Nat) (Kn : T0) (Kr : T0) (h : H) : Prop :=
  HCalls Try.prog 9 ⟨[]⟩ h fun v126 h127 => vPtr v126 fun p128 => n4 x0b x0n x0c p128 Kn Kr h127
theorem n3_ok (x0b : Option Addr) (x0n : Nat) (x0c : Nat) (Kn : T0) (Kr : T0) (g : Env) (hg : E1 g x0b x0n x0c) (h : H) (hS : n3 x0b x0n x0c Kn Kr h) : wpC none Try.prog 72 n2_c2 (Q0 Kn Kr) g h := by
  obtain ⟨hg0, hds⟩ := hg
  refine wpC_seq' (x := n3_c1) (y := n3_c2) (Q' := (Q12 (fun z0b z0n z0c z3 h => n4 z0b z0n z0c z3 Kn Kr h) Kr)) (by kernel_rfl) ?_ ?_
  · refine wpC_of_wpx (by kernel_rfl) (by kernel_rfl) (g' := (⟨g.v, []⟩ : Env).upd (some 0) (.slice x0b x0n x0c)) (by rw [env_ds hds, upd_self hg0]) ?_
    have e : (n3 x0b x0n x0c Kn Kr h) = wpx none Try.prog 72 n3_c1 (Q12 (fun z0b z0n z0c z3 h => n4 z0b z0n z0c z3 Kn Kr h) Kr) ((⟨g.v, []⟩ : Env).upd (some 0) (.slice x0b x0n x0c)) h := by kernel_rfl
    exact e ▸ hS
  · intro e g' h' hq
    cases e with
    | normal =>
      have hq : D2 (fun z0b z0n z0c z3 h => n4 z0b z0n z0c z3 Kn Kr h) g' h' := hq
      obtain ⟨y0b, y0n, y0c, y3, hg', hq⟩ := D2_ok hq
      exact n4_ok y0b y0n y0c y3 Kn Kr g' hg' h' hq
    | _ => exact hq
def Q13 (Kn : T1) (Kr : T0) : XPost
  | .normal, g, h => D1 Kn g h
  | .ret, g, h => D0 Kr g h
  | _, _, _ => False
abbrev n2 (x0b : Option Addr) (x0n : Nat) (x0c : Nat) (Kn : T0) (Kr : T0) (h : H) : Prop :=
  HCalls Try.prog 7 ⟨[(.slice x0b x0n x0c)]⟩ h fun v129 h130 => vBool v129 fun b131 => cond b131 (HCalls Try.prog 8 ⟨[]⟩ h130 fun v132 h133 => vBool v132 fun b134 => cond b134 (Kr true h133) (Kr false h133)) (HCalls Try.prog 8 ⟨[]⟩ h130 fun v135 h136 => vBool v135 fun b137 => cond b137 (n3 x0b x0n x0c Kn Kr h136) (HCalls Try.prog 8 ⟨[]⟩ h136 fun v138 h139 => vBool v138 fun b140 => cond b140 (Kr true h139) (Kr false h139)))
theorem n2_ok (x0b : Option Addr) (x0n : Nat) (x0c : Nat) (Kn : T0) (Kr : T0) (g : Env) (hg : E1 g x0b x0n x0c) (h : H) (hS : n2 x0b x0n x0c Kn Kr h) : wpC none Try.prog 72 n1_c2 (Q0 Kn Kr) g h := by
  obtain ⟨hg0, hds⟩ := hg
  refine wpC_seq' (x := n2_c1) (y := n2_c2) (Q' := (Q13 (fun z0b z0n z0c h => n3 z0b z0n z0c Kn Kr h) Kr)) (by kernel_rfl) ?_ ?_
  · refine wpC_of_wpx (by kernel_rfl) (by kernel_rfl) (g' := (⟨g.v, []⟩ : Env).upd (some 0) (.slice x0b x0n x0c)) (by rw [env_ds hds, upd_self hg0]) ?_
    have e : (n2 x0b x0n x0c Kn Kr h) = wpx none Try.prog 72 n2_c1 (Q13 (fun z0b z0n z0c h => n3 z0b z0n z0c Kn Kr h) Kr) ((⟨g.v, []⟩ : Env).upd (some 0) (.slice x0b x0n x0c)) h := by kernel_rfl
    exact e ▸ hS
  · intro e g' h' hq
    cases e with
    | normal =>
      have hq : D1 (fun z0b z0n z0c h => n3 z0b z0n z0c Kn Kr h) g' h' := hq
      obtain ⟨y0b, y0n, y0c, hg', hq⟩ := D1_ok hq
      exact n3_ok y0b y0n y0c Kn Kr g' hg' h' hq
    | _ => exact hq
abbrev n1 (x0b : Option Addr) (x0n : Nat) (x0c : Nat) (Kn : T0) (Kr : T0) (h : H) : Prop :=
  n2 x0b x0n x0c Kn Kr h
theorem n1_ok (x0b : Option Addr) (x0n : Nat) (x0c : Nat) (Kn : T0) (Kr : T0) (g : Env) (hg : E1 g x0b x0n x0c) (h : H) (hS : n1 x0b x0n x0c Kn Kr h) : wpC none Try.prog 72 code (Q0 Kn Kr) g h := by
  obtain ⟨hg0, hds⟩ := hg
  refine wpC_seq' (x := n1_c1) (y := n1_c2) (Q' := (Q13 (fun z0b z0n z0c h => n2 z0b z0n z0c Kn Kr h) Kr)) (by kernel_rfl) ?_ ?_
  · refine wpC_of_wpx (by kernel_rfl) (by kernel_rfl) (g' := (⟨g.v, []⟩ : Env).upd (some 0) (.slice x0b x0n x0c)) (by rw [env_ds hds, upd_self hg0]) ?_
    have e : (n1 x0b x0n x0c Kn Kr h) = wpx none Try.prog 72 n1_c1 (Q13 (fun z0b z0n z0c h => n2 z0b z0n z0c Kn Kr h) Kr) ((⟨g.v, []⟩ : Env).upd (some 0) (.slice x0b x0n x0c)) h := by kernel_rfl
    exact e ▸ hS
  · intro e g' h' hq
    cases e with
    | normal =>
      have hq : D1 (fun z0b z0n z0c h => n2 z0b z0n z0c Kn Kr h) g' h' := hq
      obtain ⟨y0b, y0n, y0c, hg', hq⟩ := D1_ok hq
      exact n2_ok y0b y0n y0c Kn Kr g' hg' h' hq
    | _ => exact hq
/-- WHAT tympan/tympanlaw10.DomOwn ASKS -/
abbrev asks (x0b : Option Addr) (x0n : Nat) (x0c : Nat) (K : Value → H → Prop) (h : H) : Prop := n1 x0b x0n x0c (fun y2 h => K (.bool y2) h) (fun y2 h => K (.bool y2) h) h
theorem ok (x0b : Option Addr) (x0n : Nat) (x0c : Nat) (K : Value → H → Prop) (h : H) (hS : asks x0b x0n x0c K h) : HCalls Try.prog 3 ⟨[(.slice x0b x0n x0c)]⟩ h K := by
  refine calls_of_wpC (c := code) Try.func3 (by kernel_rfl) (Nat.le_of_ble_eq_true (by kernel_rfl)) ?_
  refine (n1_ok x0b x0n x0c (fun y2 h => K (.bool y2) h) (fun y2 h => K (.bool y2) h) (env0 [(.slice x0b x0n x0c)]) ⟨rfl, rfl⟩ h hS).mono ?_
  intro e g' h' hq
  cases e with
  | normal =>
    have hq : D0 (fun y2 h => K (.bool y2) h) g' h' := hq
    obtain ⟨y2, ⟨hg2, hd⟩, hq⟩ := D0_ok hq
    show leaveX g'.ds h' _
    rw [hd]
    show K (g'.v 2) h'
    rw [hg2]
    exact hq
  | ret =>
    have hq : D0 (fun y2 h => K (.bool y2) h) g' h' := hq
    obtain ⟨y2, ⟨hg2, hd⟩, hq⟩ := D0_ok hq
    show leaveX g'.ds h' _
    rw [hd]
    show K (g'.v 2) h'
    rw [hg2]
    exact hq
  | _ => exact hq
end Sx.l10_DomOwn
end Go.Proofs
