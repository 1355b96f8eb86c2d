/- The shallow forms of functions, printed by sh.py out of the translation; each with its proof. No condition. -/
import Derived.Test.YtgpfanbjchieiaaDoorShJ
import Derived.Test.YtgpfanbjchieiaaDoorProg
namespace Go.Proofs
open Go Go.Sh
set_option linter.unusedVariables false
set_option maxRecDepth 100000

/-! ### tympan/tympanlaw27.StarsNest -/
namespace Sx.l27_StarsNest
noncomputable def code : Code := bodyOf Tryd.f5
abbrev T0 := Bool → H → Prop
def E0 (g : Env) (x2 : Bool) : Prop := g.v 2 = (.bool x2) ∧ g.ds = []
def D0 (K : T0) (g : Env) (h : H) : Prop := nilDs g.ds (vBool (g.v 2) fun b1 => K b1 h)
theorem D0_ok {K : T0} {g : Env} {h : H} (hq : D0 K g h) : ∃ (x2 : Bool), E0 g x2 ∧ K x2 h := by
  obtain ⟨hd, hq⟩ := nilDs_ok hq
  obtain ⟨y3, e2, q4⟩ := vBool_ok hq
  exact ⟨y3, ⟨e2, hd⟩, q4⟩
def Q0 (Kn : T0) (Kr : T0) : XPost
  | .normal, g, h => D0 Kn g h
  | .ret, g, h => D0 Kr g h
  | _, _, _ => False
abbrev T1 := (Option Addr) → Nat → Nat → H → Prop
def E1 (g : Env) (x0b : Option Addr) (x0n : Nat) (x0c : Nat) : Prop := g.v 0 = (.slice x0b x0n x0c) ∧ g.ds = []
def D1 (K : T1) (g : Env) (h : H) : Prop := nilDs g.ds (vSlice (g.v 0) fun s5b s5n s5c => K s5b s5n s5c h)
theorem D1_ok {K : T1} {g : Env} {h : H} (hq : D1 K g h) : ∃ (x0b : Option Addr) (x0n : Nat) (x0c : Nat), E1 g x0b x0n x0c ∧ K x0b x0n x0c h := by
  obtain ⟨hd, hq⟩ := nilDs_ok hq
  obtain ⟨y7b, y7n, y7c, e6, q8⟩ := vSlice_ok hq
  exact ⟨y7b, y7n, y7c, ⟨e6, hd⟩, q8⟩
noncomputable def n1_c1 : Code := cFst code
noncomputable def n1_c2 : Code := cSnd code
noncomputable def n2_c1 : Code := cFst n1_c2
noncomputable def n2_c2 : Code := cSnd n1_c2
noncomputable def n3_c1 : Code := cFst n2_c2
noncomputable def n3_c2 : Code := cSnd n2_c2
abbrev T2 := (List UInt8) → H → Prop
def E2 (g : Env) (x3 : List UInt8) : Prop := g.v 3 = (S x3) ∧ g.ds = []
def D2 (K : T2) (g : Env) (h : H) : Prop := nilDs g.ds (vStr (g.v 3) fun s9 => K s9 h)
theorem D2_ok {K : T2} {g : Env} {h : H} (hq : D2 K g h) : ∃ (x3 : List UInt8), E2 g x3 ∧ K x3 h := by
  obtain ⟨hd, hq⟩ := nilDs_ok hq
  obtain ⟨y11, e10, q12⟩ := vStr_ok hq
  exact ⟨y11, ⟨e10, hd⟩, q12⟩
noncomputable def n4_c1 : Code := cFst n3_c2
noncomputable def n4_c2 : Code := cSnd n3_c2
abbrev T3 := (List UInt8) → (Option Addr) → Nat → Nat → H → Prop
def E3 (g : Env) (x3 : List UInt8) (x4b : Option Addr) (x4n : Nat) (x4c : Nat) : Prop := g.v 3 = (S x3) ∧ g.v 4 = (.slice x4b x4n x4c) ∧ g.ds = []
def D3 (K : T3) (g : Env) (h : H) : Prop := nilDs g.ds (vStr (g.v 3) fun s13 => vSlice (g.v 4) fun s14b s14n s14c => K s13 s14b s14n s14c h)
theorem D3_ok {K : T3} {g : Env} {h : H} (hq : D3 K g h) : ∃ (x3 : List UInt8) (x4b : Option Addr) (x4n : Nat) (x4c : Nat), E3 g x3 x4b x4n x4c ∧ K x3 x4b x4n x4c h := by
  obtain ⟨hd, hq⟩ := nilDs_ok hq
  obtain ⟨y16, e15, q17⟩ := vStr_ok hq
  obtain ⟨y19b, y19n, y19c, e18, q20⟩ := vSlice_ok q17
  exact ⟨y16, y19b, y19n, y19c, ⟨e15, e18, hd⟩, q20⟩
noncomputable def n5_c1 : Code := cFst n4_c2
noncomputable def n5_c2 : Code := cSnd n4_c2
noncomputable def n6_c1 : Code := cFst n5_c2
noncomputable def n6_c2 : Code := cSnd n5_c2
abbrev T4 := (List UInt8) → (Option Addr) → Nat → Nat → H → Prop
def E4 (g : Env) (x3 : List UInt8) (x8b : Option Addr) (x8n : Nat) (x8c : Nat) : Prop := g.v 3 = (S x3) ∧ g.v 8 = (.slice x8b x8n x8c) ∧ g.ds = []
def D4 (K : T4) (g : Env) (h : H) : Prop := nilDs g.ds (vStr (g.v 3) fun s21 => vSlice (g.v 8) fun s22b s22n s22c => K s21 s22b s22n s22c h)
theorem D4_ok {K : T4} {g : Env} {h : H} (hq : D4 K g h) : ∃ (x3 : List UInt8) (x8b : Option Addr) (x8n : Nat) (x8c : Nat), E4 g x3 x8b x8n x8c ∧ K x3 x8b x8n x8c h := by
  obtain ⟨hd, hq⟩ := nilDs_ok hq
  obtain ⟨y24, e23, q25⟩ := vStr_ok hq
  obtain ⟨y27b, y27n, y27c, e26, q28⟩ := vSlice_ok q25
  exact ⟨y24, y27b, y27n, y27c, ⟨e23, e26, hd⟩, q28⟩
noncomputable def n7_c1 : Code := cFst n6_c2
noncomputable def n7_c2 : Code := cSnd n6_c2
abbrev T5 := H → Prop
def E5 (g : Env)  : Prop := g.ds = []
def D5 (K : T5) (g : Env) (h : H) : Prop := nilDs g.ds (K h)
theorem D5_ok {K : T5} {g : Env} {h : H} (hq : D5 K g h) : E5 g  ∧ K  h := by
  obtain ⟨hd, hq⟩ := nilDs_ok hq
  skip
  exact ⟨hd, hq⟩
abbrev n8  (Kn : T0) (Kr : T0) (h : H) : Prop :=
  Kr true h
theorem n8_ok  (Kn : T0) (Kr : T0) (g : Env) (hg : E5 g ) (h : H) (hS : n8  Kn Kr h) : wpC none Tryd.prog 212 n7_c2 (Q0 Kn Kr) g h := by
  have hds : g.ds = [] := hg
  refine wpC_of_wpx (by kernel_rfl) (by kernel_rfl) (g' := ⟨g.v, []⟩) (by rw [env_ds hds]) ?_
  have e : (n8  Kn Kr h) = wpx none Tryd.prog 212 n7_c2 (Q0 Kn Kr) (⟨g.v, []⟩) h := by kernel_rfl
  exact e ▸ hS
def Q1 (Kn : T5) (Kr : T0) : XPost
  | .normal, g, h => D5 Kn g h
  | .ret, g, h => D0 Kr g h
  | _, _, _ => False
noncomputable def n9_c1 : Code := cFst n7_c1
noncomputable def n9_c2 : Code := cSnd n7_c1
abbrev T6 := (List UInt8) → (Option Addr) → Nat → Nat → Int → H → Prop
def E6 (g : Env) (x3 : List UInt8) (x8b : Option Addr) (x8n : Nat) (x8c : Nat) (x9 : Int) : Prop := g.v 3 = (S x3) ∧ g.v 8 = (.slice x8b x8n x8c) ∧ g.v 9 = (.int .i64 x9) ∧ g.ds = []
def D6 (K : T6) (g : Env) (h : H) : Prop := nilDs g.ds (vStr (g.v 3) fun s29 => vSlice (g.v 8) fun s30b s30n s30c => vInt .i64 (g.v 9) fun i31 => K s29 s30b s30n s30c i31 h)
theorem D6_ok {K : T6} {g : Env} {h : H} (hq : D6 K g h) : ∃ (x3 : List UInt8) (x8b : Option Addr) (x8n : Nat) (x8c : Nat) (x9 : Int), E6 g x3 x8b x8n x8c x9 ∧ K x3 x8b x8n x8c x9 h := by
  obtain ⟨hd, hq⟩ := nilDs_ok hq
  obtain ⟨y33, e32, q34⟩ := vStr_ok hq
  obtain ⟨y36b, y36n, y36c, e35, q37⟩ := vSlice_ok q34
  obtain ⟨y39, e38, q40⟩ := vInt_ok q37
  exact ⟨y33, y36b, y36n, y36c, y39, ⟨e32, e35, e38, hd⟩, q40⟩
noncomputable def n10_c1 : Code := cFst n9_c2
def Q2 (Kn : T5) (Ke2 : T5) (Kr : T0) : XPost
  | .normal, g, h => D5 Kn g h
  | .ret, g, h => D0 Kr g h
  | .exit id, g, h => cond (Nat.beq id 2) (D5 Ke2 g h) (False)
  | _, _, _ => False
noncomputable def n11_c1 : Code := cFst n10_c1
def Q3 (Kn : T6) (Ke2 : T5) (Kr : T0) : XPost
  | .normal, g, h => D6 Kn g h
  | .ret, g, h => D0 Kr g h
  | .exit id, g, h => cond (Nat.beq id 2) (D5 Ke2 g h) (False)
  | _, _, _ => False
noncomputable def n12_c1 : Code := cFst n11_c1
noncomputable def n12_c2 : Code := cSnd n11_c1
noncomputable def n13_c1 : Code := cFst n12_c2
noncomputable def n13_c2 : Code := cSnd n12_c2
abbrev n14 (x3 : List UInt8) (x8b : Option Addr) (x8n : Nat) (x8c : Nat) (x9 : Int) (Kn : T6) (Ke2 : T5) (Kr : T0) (h : H) : Prop :=
  Rng .i64 (x9 + (1 : Int)) ∧ (Kn x3 x8b x8n x8c (x9 + (1 : Int)) h)
theorem n14_ok (x3 : List UInt8) (x8b : Option Addr) (x8n : Nat) (x8c : Nat) (x9 : Int) (Kn : T6) (Ke2 : T5) (Kr : T0) (g : Env) (hg : E6 g x3 x8b x8n x8c x9) (h : H) (hS : n14 x3 x8b x8n x8c x9 Kn Ke2 Kr h) : wpC none Tryd.prog 212 n13_c2 (Q3 Kn Ke2 Kr) g h := by
  obtain ⟨hg3, hg8, hg9, hds⟩ := hg
  refine wpC_of_wpx (by kernel_rfl) (by kernel_rfl) (g' := (((⟨g.v, []⟩ : Env).upd (some 3) (S x3)).upd (some 8) (.slice x8b x8n x8c)).upd (some 9) (.int .i64 x9)) (by rw [env_ds hds, upd_self hg3, upd_self hg8, upd_self hg9]) ?_
  have e : (n14 x3 x8b x8n x8c x9 Kn Ke2 Kr h) = wpx none Tryd.prog 212 n13_c2 (Q3 Kn Ke2 Kr) ((((⟨g.v, []⟩ : Env).upd (some 3) (S x3)).upd (some 8) (.slice x8b x8n x8c)).upd (some 9) (.int .i64 x9)) h := by kernel_rfl
  exact e ▸ hS
noncomputable def n15_c1 : Code := cFst n13_c1
def Q4 (Kn : T6) (Ke3 : T6) (Ke2 : T5) (Kr : T0) : XPost
  | .normal, g, h => D6 Kn g h
  | .ret, g, h => D0 Kr g h
  | .exit id, g, h => cond (Nat.beq id 3) (D6 Ke3 g h) (cond (Nat.beq id 2) (D5 Ke2 g h) (False))
  | _, _, _ => False
noncomputable def n16_c1 : Code := cFst n15_c1
noncomputable def n16_c2 : Code := cSnd n15_c1
noncomputable def n17_c1 : Code := cFst n16_c2
noncomputable def n17_c2 : Code := cSnd n16_c2
noncomputable def n18_c1 : Code := cFst n17_c2
noncomputable def n18_c2 : Code := cSnd n17_c2
abbrev T7 := (List UInt8) → (Option Addr) → Nat → Nat → Int → Int → H → Prop
def E7 (g : Env) (x3 : List UInt8) (x8b : Option Addr) (x8n : Nat) (x8c : Nat) (x9 : Int) (x13 : Int) : Prop := g.v 3 = (S x3) ∧ g.v 8 = (.slice x8b x8n x8c) ∧ g.v 9 = (.int .i64 x9) ∧ g.v 13 = (.int .i64 x13) ∧ g.ds = []
def D7 (K : T7) (g : Env) (h : H) : Prop := nilDs g.ds (vStr (g.v 3) fun s41 => vSlice (g.v 8) fun s42b s42n s42c => vInt .i64 (g.v 9) fun i43 => vInt .i64 (g.v 13) fun i44 => K s41 s42b s42n s42c i43 i44 h)
theorem D7_ok {K : T7} {g : Env} {h : H} (hq : D7 K g h) : ∃ (x3 : List UInt8) (x8b : Option Addr) (x8n : Nat) (x8c : Nat) (x9 : Int) (x13 : Int), E7 g x3 x8b x8n x8c x9 x13 ∧ K x3 x8b x8n x8c x9 x13 h := by
  obtain ⟨hd, hq⟩ := nilDs_ok hq
  obtain ⟨y46, e45, q47⟩ := vStr_ok hq
  obtain ⟨y49b, y49n, y49c, e48, q50⟩ := vSlice_ok q47
  obtain ⟨y52, e51, q53⟩ := vInt_ok q50
  obtain ⟨y55, e54, q56⟩ := vInt_ok q53
  exact ⟨y46, y49b, y49n, y49c, y52, y55, ⟨e45, e48, e51, e54, hd⟩, q56⟩
noncomputable def n19_c1 : Code := cFst n18_c2
def Q5 (Kn : T6) (Ke6 : T6) (Ke3 : T6) (Ke2 : T5) (Kr : T0) : XPost
  | .normal, g, h => D6 Kn g h
  | .ret, g, h => D0 Kr g h
  | .exit id, g, h => cond (Nat.beq id 6) (D6 Ke6 g h) (cond (Nat.beq id 3) (D6 Ke3 g h) (cond (Nat.beq id 2) (D5 Ke2 g h) (False)))
  | _, _, _ => False
noncomputable def n20_c1 : Code := cFst n19_c1
def Q6 (Kn : T7) (Ke6 : T6) (Ke3 : T6) (Ke2 : T5) (Kr : T0) : XPost
  | .normal, g, h => D7 Kn g h
  | .ret, g, h => D0 Kr g h
  | .exit id, g, h => cond (Nat.beq id 6) (D6 Ke6 g h) (cond (Nat.beq id 3) (D6 Ke3 g h) (cond (Nat.beq id 2) (D5 Ke2 g h) (False)))
  | _, _, _ => False
noncomputable def n21_c1 : Code := cFst n20_c1
noncomputable def n21_c2 : Code := cSnd n20_c1
noncomputable def n22_c1 : Code := cFst n21_c2
noncomputable def n22_c2 : Code := cSnd n21_c2
abbrev n23 (x3 : List UInt8) (x8b : Option Addr) (x8n : Nat) (x8c : Nat) (x9 : Int) (x13 : Int) (Kn : T7) (Ke6 : T6) (Ke3 : T6) (Ke2 : T5) (Kr : T0) (h : H) : Prop :=
  Rng .i64 (x13 + (1 : Int)) ∧ (Kn x3 x8b x8n x8c x9 (x13 + (1 : Int)) h)
theorem n23_ok (x3 : List UInt8) (x8b : Option Addr) (x8n : Nat) (x8c : Nat) (x9 : Int) (x13 : Int) (Kn : T7) (Ke6 : T6) (Ke3 : T6) (Ke2 : T5) (Kr : T0) (g : Env) (hg : E7 g x3 x8b x8n x8c x9 x13) (h : H) (hS : n23 x3 x8b x8n x8c x9 x13 Kn Ke6 Ke3 Ke2 Kr h) : wpC none Tryd.prog 212 n22_c2 (Q6 Kn Ke6 Ke3 Ke2 Kr) g h := by
  obtain ⟨hg3, hg8, hg9, hg13, hds⟩ := hg
  refine wpC_of_wpx (by kernel_rfl) (by kernel_rfl) (g' := ((((⟨g.v, []⟩ : Env).upd (some 3) (S x3)).upd (some 8) (.slice x8b x8n x8c)).upd (some 9) (.int .i64 x9)).upd (some 13) (.int .i64 x13)) (by rw [env_ds hds, upd_self hg3, upd_self hg8, upd_self hg9, upd_self hg13]) ?_
  have e : (n23 x3 x8b x8n x8c x9 x13 Kn Ke6 Ke3 Ke2 Kr h) = wpx none Tryd.prog 212 n22_c2 (Q6 Kn Ke6 Ke3 Ke2 Kr) (((((⟨g.v, []⟩ : Env).upd (some 3) (S x3)).upd (some 8) (.slice x8b x8n x8c)).upd (some 9) (.int .i64 x9)).upd (some 13) (.int .i64 x13)) h := by kernel_rfl
  exact e ▸ hS
noncomputable def n24_c1 : Code := cFst n22_c1
def Q7 (Kn : T7) (Ke7 : T7) (Ke6 : T6) (Ke3 : T6) (Ke2 : T5) (Kr : T0) : XPost
  | .normal, g, h => D7 Kn g h
  | .ret, g, h => D0 Kr g h
  | .exit id, g, h => cond (Nat.beq id 7) (D7 Ke7 g h) (cond (Nat.beq id 6) (D6 Ke6 g h) (cond (Nat.beq id 3) (D6 Ke3 g h) (cond (Nat.beq id 2) (D5 Ke2 g h) (False))))
  | _, _, _ => False
noncomputable def n25_c1 : Code := cFst n24_c1
noncomputable def n25_c2 : Code := cSnd n24_c1
abbrev T8 := (List UInt8) → (Option Addr) → Nat → Nat → Int → Int → Addr → H → Prop
def E8 (g : Env) (x3 : List UInt8) (x8b : Option Addr) (x8n : Nat) (x8c : Nat) (x9 : Int) (x13 : Int) (x14 : Addr) : Prop := g.v 3 = (S x3) ∧ g.v 8 = (.slice x8b x8n x8c) ∧ g.v 9 = (.int .i64 x9) ∧ g.v 13 = (.int .i64 x13) ∧ g.v 14 = (.pointer (some x14)) ∧ g.ds = []
def D8 (K : T8) (g : Env) (h : H) : Prop := nilDs g.ds (vStr (g.v 3) fun s57 => vSlice (g.v 8) fun s58b s58n s58c => vInt .i64 (g.v 9) fun i59 => vInt .i64 (g.v 13) fun i60 => vAddr (g.v 14) fun a61 => K s57 s58b s58n s58c i59 i60 a61 h)
theorem D8_ok {K : T8} {g : Env} {h : H} (hq : D8 K g h) : ∃ (x3 : List UInt8) (x8b : Option Addr) (x8n : Nat) (x8c : Nat) (x9 : Int) (x13 : Int) (x14 : Addr), E8 g x3 x8b x8n x8c x9 x13 x14 ∧ K x3 x8b x8n x8c x9 x13 x14 h := by
  obtain ⟨hd, hq⟩ := nilDs_ok hq
  obtain ⟨y63, e62, q64⟩ := vStr_ok hq
  obtain ⟨y66b, y66n, y66c, e65, q67⟩ := vSlice_ok q64
  obtain ⟨y69, e68, q70⟩ := vInt_ok q67
  obtain ⟨y72, e71, q73⟩ := vInt_ok q70
  obtain ⟨y75, e74, q76⟩ := vAddr_ok q73
  exact ⟨y63, y66b, y66n, y66c, y69, y72, y75, ⟨e62, e65, e68, e71, e74, hd⟩, q76⟩
noncomputable def n26_c1 : Code := cFst n25_c2
noncomputable def n26_c2 : Code := cSnd n25_c2
abbrev T9 := (List UInt8) → (Option Addr) → Nat → Nat → Int → Int → Addr → Bool → H → Prop
def E9 (g : Env) (x3 : List UInt8) (x8b : Option Addr) (x8n : Nat) (x8c : Nat) (x9 : Int) (x13 : Int) (x14 : Addr) (x15 : Bool) : Prop := g.v 3 = (S x3) ∧ g.v 8 = (.slice x8b x8n x8c) ∧ g.v 9 = (.int .i64 x9) ∧ g.v 13 = (.int .i64 x13) ∧ g.v 14 = (.pointer (some x14)) ∧ g.v 15 = (.bool x15) ∧ g.ds = []
def D9 (K : T9) (g : Env) (h : H) : Prop := nilDs g.ds (vStr (g.v 3) fun s77 => vSlice (g.v 8) fun s78b s78n s78c => vInt .i64 (g.v 9) fun i79 => vInt .i64 (g.v 13) fun i80 => vAddr (g.v 14) fun a81 => vBool (g.v 15) fun b82 => K s77 s78b s78n s78c i79 i80 a81 b82 h)
theorem D9_ok {K : T9} {g : Env} {h : H} (hq : D9 K g h) : ∃ (x3 : List UInt8) (x8b : Option Addr) (x8n : Nat) (x8c : Nat) (x9 : Int) (x13 : Int) (x14 : Addr) (x15 : Bool), E9 g x3 x8b x8n x8c x9 x13 x14 x15 ∧ K x3 x8b x8n x8c x9 x13 x14 x15 h := by
  obtain ⟨hd, hq⟩ := nilDs_ok hq
  obtain ⟨y84, e83, q85⟩ := vStr_ok hq
  obtain ⟨y87b, y87n, y87c, e86, q88⟩ := vSlice_ok q85
  obtain ⟨y90, e89, q91⟩ := vInt_ok q88
  obtain ⟨y93, e92, q94⟩ := vInt_ok q91
  obtain ⟨y96, e95, q97⟩ := vAddr_ok q94
  obtain ⟨y99, e98, q100⟩ := vBool_ok q97
  exact ⟨y84, y87b, y87n, y87c, y90, y93, y96, y99, ⟨e83, e86, e89, e92, e95, e98, hd⟩, q100⟩
noncomputable def n27_c1 : Code := cFst n26_c2
noncomputable def n27_c2 : Code := cSnd n26_c2
abbrev T10 := (List UInt8) → (Option Addr) → Nat → Nat → Int → Int → Bool → Bool → H → Prop
def E10 (g : Env) (x3 : List UInt8) (x8b : Option Addr) (x8n : Nat) (x8c : Nat) (x9 : Int) (x13 : Int) (x15 : Bool) (x16 : Bool) : Prop := g.v 3 = (S x3) ∧ g.v 8 = (.slice x8b x8n x8c) ∧ g.v 9 = (.int .i64 x9) ∧ g.v 13 = (.int .i64 x13) ∧ g.v 15 = (.bool x15) ∧ g.v 16 = (.bool x16) ∧ g.ds = []
def D10 (K : T10) (g : Env) (h : H) : Prop := nilDs g.ds (vStr (g.v 3) fun s101 => vSlice (g.v 8) fun s102b s102n s102c => vInt .i64 (g.v 9) fun i103 => vInt .i64 (g.v 13) fun i104 => vBool (g.v 15) fun b105 => vBool (g.v 16) fun b106 => K s101 s102b s102n s102c i103 i104 b105 b106 h)
theorem D10_ok {K : T10} {g : Env} {h : H} (hq : D10 K g h) : ∃ (x3 : List UInt8) (x8b : Option Addr) (x8n : Nat) (x8c : Nat) (x9 : Int) (x13 : Int) (x15 : Bool) (x16 : Bool), E10 g x3 x8b x8n x8c x9 x13 x15 x16 ∧ K x3 x8b x8n x8c x9 x13 x15 x16 h := by
  obtain ⟨hd, hq⟩ := nilDs_ok hq
  obtain ⟨y108, e107, q109⟩ := vStr_ok hq
  obtain ⟨y111b, y111n, y111c, e110, q112⟩ := vSlice_ok q109
  obtain ⟨y114, e113, q115⟩ := vInt_ok q112
  obtain ⟨y117, e116, q118⟩ := vInt_ok q115
  obtain ⟨y120, e119, q121⟩ := vBool_ok q118
  obtain ⟨y123, e122, q124⟩ := vBool_ok q121
  exact ⟨y108, y111b, y111n, y111c, y114, y117, y120, y123, ⟨e107, e110, e113, e116, e119, e122, hd⟩, q124⟩
abbrev n28 (x3 : List UInt8) (x8b : Option Addr) (x8n : Nat) (x8c : Nat) (x9 : Int) (x13 : Int) (x15 : Bool) (x16 : Bool) (Kn : T7) (Ke7 : T7) (Ke6 : T6) (Ke3 : T6) (Ke2 : T5) (Kr : T0) (h : H) : Prop :=
  cond x15 (Kn x3 x8b x8n x8c x9 x13 h) (cond x16 (Kn x3 x8b x8n x8c x9 x13 h) (Kr false h))
theorem n28_ok (x3 : List UInt8) (x8b : Option Addr) (x8n : Nat) (x8c : Nat) (x9 : Int) (x13 : Int) (x15 : Bool) (x16 : Bool) (Kn : T7) (Ke7 : T7) (Ke6 : T6) (Ke3 : T6) (Ke2 : T5) (Kr : T0) (g : Env) (hg : E10 g x3 x8b x8n x8c x9 x13 x15 x16) (h : H) (hS : n28 x3 x8b x8n x8c x9 x13 x15 x16 Kn Ke7 Ke6 Ke3 Ke2 Kr h) : wpC none Tryd.prog 212 n27_c2 (Q7 Kn Ke7 Ke6 Ke3 Ke2 Kr) g h := by
  obtain ⟨hg3, hg8, hg9, hg13, hg15, hg16, hds⟩ := hg
  refine wpC_of_wpx (by kernel_rfl) (by kernel_rfl) (g' := ((((((⟨g.v, []⟩ : Env).upd (some 3) (S x3)).upd (some 8) (.slice x8b x8n x8c)).upd (some 9) (.int .i64 x9)).upd (some 13) (.int .i64 x13)).upd (some 15) (.bool x15)).upd (some 16) (.bool x16)) (by rw [env_ds hds, upd_self hg3, upd_self hg8, upd_self hg9, upd_self hg13, upd_self hg15, upd_self hg16]) ?_
  have e : (n28 x3 x8b x8n x8c x9 x13 x15 x16 Kn Ke7 Ke6 Ke3 Ke2 Kr h) = wpx none Tryd.prog 212 n27_c2 (Q7 Kn Ke7 Ke6 Ke3 Ke2 Kr) (((((((⟨g.v, []⟩ : Env).upd (some 3) (S x3)).upd (some 8) (.slice x8b x8n x8c)).upd (some 9) (.int .i64 x9)).upd (some 13) (.int .i64 x13)).upd (some 15) (.bool x15)).upd (some 16) (.bool x16)) h := by kernel_rfl
  exact e ▸ hS
def Q8 (Kn : T10) (Ke7 : T7) (Ke6 : T6) (Ke3 : T6) (Ke2 : T5) (Kr : T0) : XPost
  | .normal, g, h => D10 Kn g h
  | .ret, g, h => D0 Kr g h
  | .exit id, g, h => cond (Nat.beq id 7) (D7 Ke7 g h) (cond (Nat.beq id 6) (D6 Ke6 g h) (cond (Nat.beq id 3) (D6 Ke3 g h) (cond (Nat.beq id 2) (D5 Ke2 g h) (False))))
  | _, _, _ => False
abbrev n27 (x3 : List UInt8) (x8b : Option Addr) (x8n : Nat) (x8c : Nat) (x9 : Int) (x13 : Int) (x14 : Addr) (x15 : Bool) (Kn : T7) (Ke7 : T7) (Ke6 : T6) (Ke3 : T6) (Ke2 : T5) (Kr : T0) (h : H) : Prop :=
  ∃ i125, cell h (x14.add 1) = some (.int .i64 i125) ∧ ((0 ≤ x9 ∧ x9 < (x8n : Int)) ∧ (vSome x8b fun a126 => ∃ i127, cell h ((a126.add (Int.toNat x9 * 3)).add 0) = some (.int .i64 i127) ∧ (Spl (i125 ≤ i127) (n28 x3 x8b x8n x8c x9 x13 x15 true Kn Ke7 Ke6 Ke3 Ke2 Kr h) (∃ i128, cell h (x14.add 0) = some (.int .i64 i128) ∧ ((0 ≤ x9 ∧ x9 < (x8n : Int)) ∧ (vSome x8b fun a129 => ∃ i130, cell h ((a129.add (Int.toNat x9 * 3)).add 1) = some (.int .i64 i130) ∧ (Spl (i128 ≥ i130) (n28 x3 x8b x8n x8c x9 x13 x15 true Kn Ke7 Ke6 Ke3 Ke2 Kr h) (n28 x3 x8b x8n x8c x9 x13 x15 false Kn Ke7 Ke6 Ke3 Ke2 Kr h))))))))
theorem n27_ok (x3 : List UInt8) (x8b : Option Addr) (x8n : Nat) (x8c : Nat) (x9 : Int) (x13 : Int) (x14 : Addr) (x15 : Bool) (Kn : T7) (Ke7 : T7) (Ke6 : T6) (Ke3 : T6) (Ke2 : T5) (Kr : T0) (g : Env) (hg : E9 g x3 x8b x8n x8c x9 x13 x14 x15) (h : H) (hS : n27 x3 x8b x8n x8c x9 x13 x14 x15 Kn Ke7 Ke6 Ke3 Ke2 Kr h) : wpC none Tryd.prog 212 n26_c2 (Q7 Kn Ke7 Ke6 Ke3 Ke2 Kr) g h := by
  obtain ⟨hg3, hg8, hg9, hg13, hg14, hg15, hds⟩ := hg
  refine wpC_seq' (x := n27_c1) (y := n27_c2) (Q' := (Q8 (fun z3 z8b z8n z8c z9 z13 z15 z16 h => n28 z3 z8b z8n z8c z9 z13 z15 z16 Kn Ke7 Ke6 Ke3 Ke2 Kr h) Ke7 Ke6 Ke3 Ke2 Kr)) (by kernel_rfl) ?_ ?_
  · refine wpC_of_wpx (by kernel_rfl) (by kernel_rfl) (g' := ((((((⟨g.v, []⟩ : Env).upd (some 3) (S x3)).upd (some 8) (.slice x8b x8n x8c)).upd (some 9) (.int .i64 x9)).upd (some 13) (.int .i64 x13)).upd (some 14) (.pointer (some x14))).upd (some 15) (.bool x15)) (by rw [env_ds hds, upd_self hg3, upd_self hg8, upd_self hg9, upd_self hg13, upd_self hg14, upd_self hg15]) ?_
    have e : (n27 x3 x8b x8n x8c x9 x13 x14 x15 Kn Ke7 Ke6 Ke3 Ke2 Kr h) = wpx none Tryd.prog 212 n27_c1 (Q8 (fun z3 z8b z8n z8c z9 z13 z15 z16 h => n28 z3 z8b z8n z8c z9 z13 z15 z16 Kn Ke7 Ke6 Ke3 Ke2 Kr h) Ke7 Ke6 Ke3 Ke2 Kr) (((((((⟨g.v, []⟩ : Env).upd (some 3) (S x3)).upd (some 8) (.slice x8b x8n x8c)).upd (some 9) (.int .i64 x9)).upd (some 13) (.int .i64 x13)).upd (some 14) (.pointer (some x14))).upd (some 15) (.bool x15)) h := by kernel_rfl
    exact e ▸ hS
  · intro e g' h' hq
    cases e with
    | normal =>
      have hq : D10 (fun z3 z8b z8n z8c z9 z13 z15 z16 h => n28 z3 z8b z8n z8c z9 z13 z15 z16 Kn Ke7 Ke6 Ke3 Ke2 Kr h) g' h' := hq
      obtain ⟨y3, y8b, y8n, y8c, y9, y13, y15, y16, hg', hq⟩ := D10_ok hq
      exact n28_ok y3 y8b y8n y8c y9 y13 y15 y16 Kn Ke7 Ke6 Ke3 Ke2 Kr g' hg' h' hq
    | _ => exact hq
def Q9 (Kn : T9) (Ke7 : T7) (Ke6 : T6) (Ke3 : T6) (Ke2 : T5) (Kr : T0) : XPost
  | .normal, g, h => D9 Kn g h
  | .ret, g, h => D0 Kr g h
  | .exit id, g, h => cond (Nat.beq id 7) (D7 Ke7 g h) (cond (Nat.beq id 6) (D6 Ke6 g h) (cond (Nat.beq id 3) (D6 Ke3 g h) (cond (Nat.beq id 2) (D5 Ke2 g h) (False))))
  | _, _, _ => False
abbrev n26 (x3 : List UInt8) (x8b : Option Addr) (x8n : Nat) (x8c : Nat) (x9 : Int) (x13 : Int) (x14 : Addr) (Kn : T7) (Ke7 : T7) (Ke6 : T6) (Ke3 : T6) (Ke2 : T5) (Kr : T0) (h : H) : Prop :=
  ∃ i131, cell h (x14.add 0) = some (.int .i64 i131) ∧ ((0 ≤ x9 ∧ x9 < (x8n : Int)) ∧ (vSome x8b fun a132 => ∃ i133, cell h ((a132.add (Int.toNat x9 * 3)).add 0) = some (.int .i64 i133) ∧ ((0 ≤ x9 ∧ x9 < (x8n : Int)) ∧ (vSome x8b fun a134 => ∃ i135, cell h ((a134.add (Int.toNat x9 * 3)).add 2) = some (.int .i64 i135) ∧ (Rng .i64 (i133 + i135) ∧ (Spl (i131 ≥ (i133 + i135)) (∃ i136, cell h (x14.add 1) = some (.int .i64 i136) ∧ ((0 ≤ x9 ∧ x9 < (x8n : Int)) ∧ (vSome x8b fun a137 => ∃ i138, cell h ((a137.add (Int.toNat x9 * 3)).add 1) = some (.int .i64 i138) ∧ ((0 ≤ x9 ∧ x9 < (x8n : Int)) ∧ (vSome x8b fun a139 => ∃ i140, cell h ((a139.add (Int.toNat x9 * 3)).add 2) = some (.int .i64 i140) ∧ (Rng .i64 (i138 - i140) ∧ (Spl (i136 ≤ (i138 - i140)) (n27 x3 x8b x8n x8c x9 x13 x14 true Kn Ke7 Ke6 Ke3 Ke2 Kr h) (n27 x3 x8b x8n x8c x9 x13 x14 false Kn Ke7 Ke6 Ke3 Ke2 Kr h)))))))) (n27 x3 x8b x8n x8c x9 x13 x14 false Kn Ke7 Ke6 Ke3 Ke2 Kr h)))))))
theorem n26_ok (x3 : List UInt8) (x8b : Option Addr) (x8n : Nat) (x8c : Nat) (x9 : Int) (x13 : Int) (x14 : Addr) (Kn : T7) (Ke7 : T7) (Ke6 : T6) (Ke3 : T6) (Ke2 : T5) (Kr : T0) (g : Env) (hg : E8 g x3 x8b x8n x8c x9 x13 x14) (h : H) (hS : n26 x3 x8b x8n x8c x9 x13 x14 Kn Ke7 Ke6 Ke3 Ke2 Kr h) : wpC none Tryd.prog 212 n25_c2 (Q7 Kn Ke7 Ke6 Ke3 Ke2 Kr) g h := by
  obtain ⟨hg3, hg8, hg9, hg13, hg14, hds⟩ := hg
  refine wpC_seq' (x := n26_c1) (y := n26_c2) (Q' := (Q9 (fun z3 z8b z8n z8c z9 z13 z14 z15 h => n27 z3 z8b z8n z8c z9 z13 z14 z15 Kn Ke7 Ke6 Ke3 Ke2 Kr h) Ke7 Ke6 Ke3 Ke2 Kr)) (by kernel_rfl) ?_ ?_
  · refine wpC_of_wpx (by kernel_rfl) (by kernel_rfl) (g' := (((((⟨g.v, []⟩ : Env).upd (some 3) (S x3)).upd (some 8) (.slice x8b x8n x8c)).upd (some 9) (.int .i64 x9)).upd (some 13) (.int .i64 x13)).upd (some 14) (.pointer (some x14))) (by rw [env_ds hds, upd_self hg3, upd_self hg8, upd_self hg9, upd_self hg13, upd_self hg14]) ?_
    have e : (n26 x3 x8b x8n x8c x9 x13 x14 Kn Ke7 Ke6 Ke3 Ke2 Kr h) = wpx none Tryd.prog 212 n26_c1 (Q9 (fun z3 z8b z8n z8c z9 z13 z14 z15 h => n27 z3 z8b z8n z8c z9 z13 z14 z15 Kn Ke7 Ke6 Ke3 Ke2 Kr h) Ke7 Ke6 Ke3 Ke2 Kr) ((((((⟨g.v, []⟩ : Env).upd (some 3) (S x3)).upd (some 8) (.slice x8b x8n x8c)).upd (some 9) (.int .i64 x9)).upd (some 13) (.int .i64 x13)).upd (some 14) (.pointer (some x14))) h := by kernel_rfl
    exact e ▸ hS
  · intro e g' h' hq
    cases e with
    | normal =>
      have hq : D9 (fun z3 z8b z8n z8c z9 z13 z14 z15 h => n27 z3 z8b z8n z8c z9 z13 z14 z15 Kn Ke7 Ke6 Ke3 Ke2 Kr h) g' h' := hq
      obtain ⟨y3, y8b, y8n, y8c, y9, y13, y14, y15, hg', hq⟩ := D9_ok hq
      exact n27_ok y3 y8b y8n y8c y9 y13 y14 y15 Kn Ke7 Ke6 Ke3 Ke2 Kr g' hg' h' hq
    | _ => exact hq
def Q10 (Kn : T8) (Ke7 : T7) (Ke6 : T6) (Ke3 : T6) (Ke2 : T5) (Kr : T0) : XPost
  | .normal, g, h => D8 Kn g h
  | .ret, g, h => D0 Kr g h
  | .exit id, g, h => cond (Nat.beq id 7) (D7 Ke7 g h) (cond (Nat.beq id 6) (D6 Ke6 g h) (cond (Nat.beq id 3) (D6 Ke3 g h) (cond (Nat.beq id 2) (D5 Ke2 g h) (False))))
  | _, _, _ => False
abbrev n25 (x3 : List UInt8) (x8b : Option Addr) (x8n : Nat) (x8c : Nat) (x9 : Int) (x13 : Int) (Kn : T7) (Ke7 : T7) (Ke6 : T6) (Ke3 : T6) (Ke2 : T5) (Kr : T0) (h : H) : Prop :=
  (0 ≤ x13 ∧ x13 < (x8n : Int)) ∧ (vSome x8b fun a141 => ∃ i142, cell h (((a141.add (Int.toNat x13 * 3))).add 0) = some (.int .i64 i142) ∧ (∃ i143, cell h (((a141.add (Int.toNat x13 * 3))).add 1) = some (.int .i64 i143) ∧ (∃ i144, cell h (((a141.add (Int.toNat x13 * 3))).add 2) = some (.int .i64 i144) ∧ (newx h ⟨[(.int .i64 (0 : Int)), (.int .i64 (0 : Int)), (.int .i64 (0 : Int))]⟩ 35 fun a145 h146 => stL a145 [(.int .i64 i142), (.int .i64 i143), (.int .i64 i144)] 0 h146 fun h147 => n26 x3 x8b x8n x8c x9 x13 a145 Kn Ke7 Ke6 Ke3 Ke2 Kr h147))))
theorem n25_ok (x3 : List UInt8) (x8b : Option Addr) (x8n : Nat) (x8c : Nat) (x9 : Int) (x13 : Int) (Kn : T7) (Ke7 : T7) (Ke6 : T6) (Ke3 : T6) (Ke2 : T5) (Kr : T0) (g : Env) (hg : E7 g x3 x8b x8n x8c x9 x13) (h : H) (hS : n25 x3 x8b x8n x8c x9 x13 Kn Ke7 Ke6 Ke3 Ke2 Kr h) : wpC none Tryd.prog 212 n24_c1 (Q7 Kn Ke7 Ke6 Ke3 Ke2 Kr) g h := by
  obtain ⟨hg3, hg8, hg9, hg13, hds⟩ := hg
  refine wpC_seq' (x := n25_c1) (y := n25_c2) (Q' := (Q10 (fun z3 z8b z8n z8c z9 z13 z14 h => n26 z3 z8b z8n z8c z9 z13 z14 Kn Ke7 Ke6 Ke3 Ke2 Kr h) Ke7 Ke6 Ke3 Ke2 Kr)) (by kernel_rfl) ?_ ?_
  · refine wpC_of_wpx (by kernel_rfl) (by kernel_rfl) (g' := ((((⟨g.v, []⟩ : Env).upd (some 3) (S x3)).upd (some 8) (.slice x8b x8n x8c)).upd (some 9) (.int .i64 x9)).upd (some 13) (.int .i64 x13)) (by rw [env_ds hds, upd_self hg3, upd_self hg8, upd_self hg9, upd_self hg13]) ?_
    have e : (n25 x3 x8b x8n x8c x9 x13 Kn Ke7 Ke6 Ke3 Ke2 Kr h) = wpx none Tryd.prog 212 n25_c1 (Q10 (fun z3 z8b z8n z8c z9 z13 z14 h => n26 z3 z8b z8n z8c z9 z13 z14 Kn Ke7 Ke6 Ke3 Ke2 Kr h) Ke7 Ke6 Ke3 Ke2 Kr) (((((⟨g.v, []⟩ : Env).upd (some 3) (S x3)).upd (some 8) (.slice x8b x8n x8c)).upd (some 9) (.int .i64 x9)).upd (some 13) (.int .i64 x13)) h := by kernel_rfl
    exact e ▸ hS
  · intro e g' h' hq
    cases e with
    | normal =>
      have hq : D8 (fun z3 z8b z8n z8c z9 z13 z14 h => n26 z3 z8b z8n z8c z9 z13 z14 Kn Ke7 Ke6 Ke3 Ke2 Kr h) g' h' := hq
      obtain ⟨y3, y8b, y8n, y8c, y9, y13, y14, hg', hq⟩ := D8_ok hq
      exact n26_ok y3 y8b y8n y8c y9 y13 y14 Kn Ke7 Ke6 Ke3 Ke2 Kr g' hg' h' hq
    | _ => exact hq
abbrev n24 (x3 : List UInt8) (x8b : Option Addr) (x8n : Nat) (x8c : Nat) (x9 : Int) (x13 : Int) (Kn : T7) (Ke6 : T6) (Ke3 : T6) (Ke2 : T5) (Kr : T0) (h : H) : Prop := n25 x3 x8b x8n x8c x9 x13 Kn Kn Ke6 Ke3 Ke2 Kr h
theorem n24_ok (x3 : List UInt8) (x8b : Option Addr) (x8n : Nat) (x8c : Nat) (x9 : Int) (x13 : Int) (Kn : T7) (Ke6 : T6) (Ke3 : T6) (Ke2 : T5) (Kr : T0) (g : Env) (hg : E7 g x3 x8b x8n x8c x9 x13) (h : H) (hS : n24 x3 x8b x8n x8c x9 x13 Kn Ke6 Ke3 Ke2 Kr h) : wpC none Tryd.prog 212 n22_c1 (Q6 Kn Ke6 Ke3 Ke2 Kr) g h := by
  refine wpC_block' (id := 7) (x := n24_c1) (by kernel_rfl) (n25_ok x3 x8b x8n x8c x9 x13 Kn Kn Ke6 Ke3 Ke2 Kr g hg h hS) ?_
  intro e g' h' hq
  cases e <;> exact hq
abbrev n22 (x3 : List UInt8) (x8b : Option Addr) (x8n : Nat) (x8c : Nat) (x9 : Int) (x13 : Int) (Kn : T7) (Ke6 : T6) (Ke3 : T6) (Ke2 : T5) (Kr : T0) (h : H) : Prop := n24 x3 x8b x8n x8c x9 x13 (fun z3 z8b z8n z8c z9 z13 h => n23 z3 z8b z8n z8c z9 z13 Kn Ke6 Ke3 Ke2 Kr h) Ke6 Ke3 Ke2 Kr h
theorem n22_ok (x3 : List UInt8) (x8b : Option Addr) (x8n : Nat) (x8c : Nat) (x9 : Int) (x13 : Int) (Kn : T7) (Ke6 : T6) (Ke3 : T6) (Ke2 : T5) (Kr : T0) (g : Env) (hg : E7 g x3 x8b x8n x8c x9 x13) (h : H) (hS : n22 x3 x8b x8n x8c x9 x13 Kn Ke6 Ke3 Ke2 Kr h) : wpC none Tryd.prog 212 n21_c2 (Q6 Kn Ke6 Ke3 Ke2 Kr) g h := by
  refine wpC_seq' (x := n22_c1) (y := n22_c2) (by kernel_rfl) (n24_ok x3 x8b x8n x8c x9 x13 (fun z3 z8b z8n z8c z9 z13 h => n23 z3 z8b z8n z8c z9 z13 Kn Ke6 Ke3 Ke2 Kr h) Ke6 Ke3 Ke2 Kr g hg h hS) ?_
  intro e g' h' hq
  cases e with
  | normal =>
    have hq : D7 (fun z3 z8b z8n z8c z9 z13 h => n23 z3 z8b z8n z8c z9 z13 Kn Ke6 Ke3 Ke2 Kr h) g' h' := hq
    obtain ⟨y3, y8b, y8n, y8c, y9, y13, hg', hq⟩ := D7_ok hq
    exact n23_ok y3 y8b y8n y8c y9 y13 Kn Ke6 Ke3 Ke2 Kr g' hg' h' hq
  | _ => exact hq
abbrev n21 (x3 : List UInt8) (x8b : Option Addr) (x8n : Nat) (x8c : Nat) (x9 : Int) (x13 : Int) (Kn : T7) (Ke6 : T6) (Ke3 : T6) (Ke2 : T5) (Kr : T0) (h : H) : Prop :=
  Spl (x13 < x9) (n22 x3 x8b x8n x8c x9 x13 Kn Ke6 Ke3 Ke2 Kr h) (Ke6 x3 x8b x8n x8c x9 h)
theorem n21_ok (x3 : List UInt8) (x8b : Option Addr) (x8n : Nat) (x8c : Nat) (x9 : Int) (x13 : Int) (Kn : T7) (Ke6 : T6) (Ke3 : T6) (Ke2 : T5) (Kr : T0) (g : Env) (hg : E7 g x3 x8b x8n x8c x9 x13) (h : H) (hS : n21 x3 x8b x8n x8c x9 x13 Kn Ke6 Ke3 Ke2 Kr h) : wpC none Tryd.prog 212 n20_c1 (Q6 Kn Ke6 Ke3 Ke2 Kr) g h := by
  obtain ⟨hg3, hg8, hg9, hg13, hds⟩ := hg
  refine wpC_seq' (x := n21_c1) (y := n21_c2) (Q' := (Q6 (fun z3 z8b z8n z8c z9 z13 h => n22 z3 z8b z8n z8c z9 z13 Kn Ke6 Ke3 Ke2 Kr h) Ke6 Ke3 Ke2 Kr)) (by kernel_rfl) ?_ ?_
  · refine wpC_of_wpx (by kernel_rfl) (by kernel_rfl) (g' := ((((⟨g.v, []⟩ : Env).upd (some 3) (S x3)).upd (some 8) (.slice x8b x8n x8c)).upd (some 9) (.int .i64 x9)).upd (some 13) (.int .i64 x13)) (by rw [env_ds hds, upd_self hg3, upd_self hg8, upd_self hg9, upd_self hg13]) ?_
    have e : (n21 x3 x8b x8n x8c x9 x13 Kn Ke6 Ke3 Ke2 Kr h) = wpx none Tryd.prog 212 n21_c1 (Q6 (fun z3 z8b z8n z8c z9 z13 h => n22 z3 z8b z8n z8c z9 z13 Kn Ke6 Ke3 Ke2 Kr h) Ke6 Ke3 Ke2 Kr) (((((⟨g.v, []⟩ : Env).upd (some 3) (S x3)).upd (some 8) (.slice x8b x8n x8c)).upd (some 9) (.int .i64 x9)).upd (some 13) (.int .i64 x13)) h := by kernel_rfl
    exact e ▸ hS
  · intro e g' h' hq
    cases e with
    | normal =>
      have hq : D7 (fun z3 z8b z8n z8c z9 z13 h => n22 z3 z8b z8n z8c z9 z13 Kn Ke6 Ke3 Ke2 Kr h) g' h' := hq
      obtain ⟨y3, y8b, y8n, y8c, y9, y13, hg', hq⟩ := D7_ok hq
      exact n22_ok y3 y8b y8n y8c y9 y13 Kn Ke6 Ke3 Ke2 Kr g' hg' h' hq
    | _ => exact hq
def n20_L (Kn : T6) (Ke6 : T6) (Ke3 : T6) (Ke2 : T5) (Kr : T0) : Nat → (List UInt8) → (Option Addr) → Nat → Nat → Int → Int → H → Prop
  | 0 => fun _ _ _ _ _ _ _ => False
  | N + 1 => fun x3 x8b x8n x8c x9 x13 h => n21 x3 x8b x8n x8c x9 x13 (fun z3 z8b z8n z8c z9 z13 h => n20_L Kn Ke6 Ke3 Ke2 Kr N z3 z8b z8n z8c z9 z13 h) Ke6 Ke3 Ke2 Kr h
abbrev n20 (x3 : List UInt8) (x8b : Option Addr) (x8n : Nat) (x8c : Nat) (x9 : Int) (x13 : Int) (Kn : T6) (Ke6 : T6) (Ke3 : T6) (Ke2 : T5) (Kr : T0) (h : H) : Prop := ∃ N, n20_L Kn Ke6 Ke3 Ke2 Kr N x3 x8b x8n x8c x9 x13 h
theorem n20_ok (x3 : List UInt8) (x8b : Option Addr) (x8n : Nat) (x8c : Nat) (x9 : Int) (x13 : Int) (Kn : T6) (Ke6 : T6) (Ke3 : T6) (Ke2 : T5) (Kr : T0) (g : Env) (hg : E7 g x3 x8b x8n x8c x9 x13) (h : H) (hS : n20 x3 x8b x8n x8c x9 x13 Kn Ke6 Ke3 Ke2 Kr h) : wpC none Tryd.prog 212 n19_c1 (Q5 Kn Ke6 Ke3 Ke2 Kr) g h := by
  obtain ⟨N0, hS⟩ := hS
  refine wpC_loop' (x := n20_c1) (by kernel_rfl) (fun k g h => ∃ (x3 : List UInt8) (x8b : Option Addr) (x8n : Nat) (x8c : Nat) (x9 : Int) (x13 : Int), E7 g x3 x8b x8n x8c x9 x13 ∧ n20_L Kn Ke6 Ke3 Ke2 Kr k x3 x8b x8n x8c x9 x13 h) (fun g h hr => ?_) (fun N g h hr => ?_) N0 ⟨x3, x8b, x8n, x8c, x9, x13, hg, hS⟩
  · obtain ⟨x3, x8b, x8n, x8c, x9, x13, hg, hS⟩ := hr
    exact hS.elim
  · obtain ⟨x3, x8b, x8n, x8c, x9, x13, hg, hS⟩ := hr
    refine (n21_ok x3 x8b x8n x8c x9 x13 (fun z3 z8b z8n z8c z9 z13 h => n20_L Kn Ke6 Ke3 Ke2 Kr N z3 z8b z8n z8c z9 z13 h) Ke6 Ke3 Ke2 Kr g hg h hS).mono ?_
    intro e g' h' hq
    cases e with
    | normal => exact D7_ok (K := (fun z3 z8b z8n z8c z9 z13 h => n20_L Kn Ke6 Ke3 Ke2 Kr N z3 z8b z8n z8c z9 z13 h)) hq
    | _ => exact hq
abbrev n19 (x3 : List UInt8) (x8b : Option Addr) (x8n : Nat) (x8c : Nat) (x9 : Int) (x13 : Int) (Kn : T6) (Ke3 : T6) (Ke2 : T5) (Kr : T0) (h : H) : Prop := n20 x3 x8b x8n x8c x9 x13 Kn Kn Ke3 Ke2 Kr h
theorem n19_ok (x3 : List UInt8) (x8b : Option Addr) (x8n : Nat) (x8c : Nat) (x9 : Int) (x13 : Int) (Kn : T6) (Ke3 : T6) (Ke2 : T5) (Kr : T0) (g : Env) (hg : E7 g x3 x8b x8n x8c x9 x13) (h : H) (hS : n19 x3 x8b x8n x8c x9 x13 Kn Ke3 Ke2 Kr h) : wpC none Tryd.prog 212 n18_c2 (Q4 Kn Ke3 Ke2 Kr) g h := by
  refine wpC_block' (id := 6) (x := n19_c1) (by kernel_rfl) (n20_ok x3 x8b x8n x8c x9 x13 Kn Kn Ke3 Ke2 Kr g hg h hS) ?_
  intro e g' h' hq
  cases e <;> exact hq
def Q11 (Kn : T7) (Ke3 : T6) (Ke2 : T5) (Kr : T0) : XPost
  | .normal, g, h => D7 Kn g h
  | .ret, g, h => D0 Kr g h
  | .exit id, g, h => cond (Nat.beq id 3) (D6 Ke3 g h) (cond (Nat.beq id 2) (D5 Ke2 g h) (False))
  | _, _, _ => False
abbrev n18 (x3 : List UInt8) (x8b : Option Addr) (x8n : Nat) (x8c : Nat) (x9 : Int) (Kn : T6) (Ke3 : T6) (Ke2 : T5) (Kr : T0) (h : H) : Prop :=
  n19 x3 x8b x8n x8c x9 (0 : Int) Kn Ke3 Ke2 Kr h
theorem n18_ok (x3 : List UInt8) (x8b : Option Addr) (x8n : Nat) (x8c : Nat) (x9 : Int) (Kn : T6) (Ke3 : T6) (Ke2 : T5) (Kr : T0) (g : Env) (hg : E6 g x3 x8b x8n x8c x9) (h : H) (hS : n18 x3 x8b x8n x8c x9 Kn Ke3 Ke2 Kr h) : wpC none Tryd.prog 212 n17_c2 (Q4 Kn Ke3 Ke2 Kr) g h := by
  obtain ⟨hg3, hg8, hg9, hds⟩ := hg
  refine wpC_seq' (x := n18_c1) (y := n18_c2) (Q' := (Q11 (fun z3 z8b z8n z8c z9 z13 h => n19 z3 z8b z8n z8c z9 z13 Kn Ke3 Ke2 Kr h) Ke3 Ke2 Kr)) (by kernel_rfl) ?_ ?_
  · refine wpC_of_wpx (by kernel_rfl) (by kernel_rfl) (g' := (((⟨g.v, []⟩ : Env).upd (some 3) (S x3)).upd (some 8) (.slice x8b x8n x8c)).upd (some 9) (.int .i64 x9)) (by rw [env_ds hds, upd_self hg3, upd_self hg8, upd_self hg9]) ?_
    have e : (n18 x3 x8b x8n x8c x9 Kn Ke3 Ke2 Kr h) = wpx none Tryd.prog 212 n18_c1 (Q11 (fun z3 z8b z8n z8c z9 z13 h => n19 z3 z8b z8n z8c z9 z13 Kn Ke3 Ke2 Kr h) Ke3 Ke2 Kr) ((((⟨g.v, []⟩ : Env).upd (some 3) (S x3)).upd (some 8) (.slice x8b x8n x8c)).upd (some 9) (.int .i64 x9)) h := by kernel_rfl
    exact e ▸ hS
  · intro e g' h' hq
    cases e with
    | normal =>
      have hq : D7 (fun z3 z8b z8n z8c z9 z13 h => n19 z3 z8b z8n z8c z9 z13 Kn Ke3 Ke2 Kr h) g' h' := hq
      obtain ⟨y3, y8b, y8n, y8c, y9, y13, hg', hq⟩ := D7_ok hq
      exact n19_ok y3 y8b y8n y8c y9 y13 Kn Ke3 Ke2 Kr g' hg' h' hq
    | _ => exact hq
noncomputable def n29_c1 : Code := cFst n17_c1
noncomputable def n29_c2 : Code := cSnd n17_c1
abbrev T11 := (List UInt8) → (Option Addr) → Nat → Nat → Int → Int → H → Prop
def E11 (g : Env) (x3 : List UInt8) (x8b : Option Addr) (x8n : Nat) (x8c : Nat) (x9 : Int) (x10 : Int) : Prop := g.v 3 = (S x3) ∧ g.v 8 = (.slice x8b x8n x8c) ∧ g.v 9 = (.int .i64 x9) ∧ g.v 10 = (.int .i64 x10) ∧ g.ds = []
def D11 (K : T11) (g : Env) (h : H) : Prop := nilDs g.ds (vStr (g.v 3) fun s148 => vSlice (g.v 8) fun s149b s149n s149c => vInt .i64 (g.v 9) fun i150 => vInt .i64 (g.v 10) fun i151 => K s148 s149b s149n s149c i150 i151 h)
theorem D11_ok {K : T11} {g : Env} {h : H} (hq : D11 K g h) : ∃ (x3 : List UInt8) (x8b : Option Addr) (x8n : Nat) (x8c : Nat) (x9 : Int) (x10 : Int), E11 g x3 x8b x8n x8c x9 x10 ∧ K x3 x8b x8n x8c x9 x10 h := by
  obtain ⟨hd, hq⟩ := nilDs_ok hq
  obtain ⟨y153, e152, q154⟩ := vStr_ok hq
  obtain ⟨y156b, y156n, y156c, e155, q157⟩ := vSlice_ok q154
  obtain ⟨y159, e158, q160⟩ := vInt_ok q157
  obtain ⟨y162, e161, q163⟩ := vInt_ok q160
  exact ⟨y153, y156b, y156n, y156c, y159, y162, ⟨e152, e155, e158, e161, hd⟩, q163⟩
noncomputable def n30_c1 : Code := cFst n29_c2
def Q12 (Kn : T6) (Ke4 : T6) (Ke3 : T6) (Ke2 : T5) (Kr : T0) : XPost
  | .normal, g, h => D6 Kn g h
  | .ret, g, h => D0 Kr g h
  | .exit id, g, h => cond (Nat.beq id 4) (D6 Ke4 g h) (cond (Nat.beq id 3) (D6 Ke3 g h) (cond (Nat.beq id 2) (D5 Ke2 g h) (False)))
  | _, _, _ => False
noncomputable def n31_c1 : Code := cFst n30_c1
def Q13 (Kn : T11) (Ke4 : T6) (Ke3 : T6) (Ke2 : T5) (Kr : T0) : XPost
  | .normal, g, h => D11 Kn g h
  | .ret, g, h => D0 Kr g h
  | .exit id, g, h => cond (Nat.beq id 4) (D6 Ke4 g h) (cond (Nat.beq id 3) (D6 Ke3 g h) (cond (Nat.beq id 2) (D5 Ke2 g h) (False)))
  | _, _, _ => False
def n31_L (Kn : T6) (Ke4 : T6) (Ke3 : T6) (Ke2 : T5) (Kr : T0) : Nat → (List UInt8) → (Option Addr) → Nat → Nat → Int → Int → H → Prop
  | 0 => fun _ _ _ _ _ _ _ => False
  | N + 1 => fun x3 x8b x8n x8c x9 x10 h => (0 ≤ x9 ∧ x9 < (x8n : Int)) ∧ (vSome x8b fun a164 => ∃ i165, cell h ((a164.add (Int.toNat x9 * 3)).add 2) = some (.int .i64 i165) ∧ (Spl (x10 < i165) ((0 ≤ x9 ∧ x9 < (x8n : Int)) ∧ (vSome x8b fun a166 => ∃ i167, cell h ((a166.add (Int.toNat x9 * 3)).add 0) = some (.int .i64 i167) ∧ (Rng .i64 (i167 + x10) ∧ ((0 ≤ (i167 + x10) ∧ (i167 + x10) < (x3.length : Int)) ∧ ((0 ≤ x9 ∧ x9 < (x8n : Int)) ∧ (vSome x8b fun a168 => ∃ i169, cell h ((a168.add (Int.toNat x9 * 3)).add 1) = some (.int .i64 i169) ∧ (Rng .i64 (i169 - (1 : Int)) ∧ (Rng .i64 ((i169 - (1 : Int)) - x10) ∧ ((0 ≤ ((i169 - (1 : Int)) - x10) ∧ ((i169 - (1 : Int)) - x10) < (x3.length : Int)) ∧ (Spl (((List.getD x3 (Int.toNat (i167 + x10)) 0).toNat : Int) = ((List.getD x3 (Int.toNat ((i169 - (1 : Int)) - x10)) 0).toNat : Int)) (Spl (((List.getD x3 (Int.toNat (i167 + x10)) 0).toNat : Int) = (42 : Int)) (Rng .i64 (x10 + (1 : Int)) ∧ (n31_L Kn Ke4 Ke3 Ke2 Kr N x3 x8b x8n x8c x9 (x10 + (1 : Int)) h)) (Spl (((List.getD x3 (Int.toNat (i167 + x10)) 0).toNat : Int) = (95 : Int)) (Rng .i64 (x10 + (1 : Int)) ∧ (n31_L Kn Ke4 Ke3 Ke2 Kr N x3 x8b x8n x8c x9 (x10 + (1 : Int)) h)) (Kr false h))) (Kr false h))))))))))) (Ke4 x3 x8b x8n x8c x9 h)))
abbrev n31 (x3 : List UInt8) (x8b : Option Addr) (x8n : Nat) (x8c : Nat) (x9 : Int) (x10 : Int) (Kn : T6) (Ke4 : T6) (Ke3 : T6) (Ke2 : T5) (Kr : T0) (h : H) : Prop := ∃ N, n31_L Kn Ke4 Ke3 Ke2 Kr N x3 x8b x8n x8c x9 x10 h
theorem n31_ok (x3 : List UInt8) (x8b : Option Addr) (x8n : Nat) (x8c : Nat) (x9 : Int) (x10 : Int) (Kn : T6) (Ke4 : T6) (Ke3 : T6) (Ke2 : T5) (Kr : T0) (g : Env) (hg : E11 g x3 x8b x8n x8c x9 x10) (h : H) (hS : n31 x3 x8b x8n x8c x9 x10 Kn Ke4 Ke3 Ke2 Kr h) : wpC none Tryd.prog 212 n30_c1 (Q12 Kn Ke4 Ke3 Ke2 Kr) g h := by
  obtain ⟨N0, hS⟩ := hS
  refine wpC_loop' (x := n31_c1) (by kernel_rfl) (fun k g h => ∃ (x3 : List UInt8) (x8b : Option Addr) (x8n : Nat) (x8c : Nat) (x9 : Int) (x10 : Int), E11 g x3 x8b x8n x8c x9 x10 ∧ n31_L Kn Ke4 Ke3 Ke2 Kr k x3 x8b x8n x8c x9 x10 h) (fun g h hr => ?_) (fun N g h hr => ?_) N0 ⟨x3, x8b, x8n, x8c, x9, x10, hg, hS⟩
  · obtain ⟨x3, x8b, x8n, x8c, x9, x10, hg, hS⟩ := hr
    exact hS.elim
  · obtain ⟨x3, x8b, x8n, x8c, x9, x10, hg, hS⟩ := hr
    have hw : wpC none Tryd.prog 212 n31_c1 (Q13 (fun z3 z8b z8n z8c z9 z10 h => n31_L Kn Ke4 Ke3 Ke2 Kr N z3 z8b z8n z8c z9 z10 h) Ke4 Ke3 Ke2 Kr) g h := by
      obtain ⟨hg3, hg8, hg9, hg10, hds⟩ := hg
      refine wpC_of_wpx (by kernel_rfl) (by kernel_rfl) (g' := ((((⟨g.v, []⟩ : Env).upd (some 3) (S x3)).upd (some 8) (.slice x8b x8n x8c)).upd (some 9) (.int .i64 x9)).upd (some 10) (.int .i64 x10)) (by rw [env_ds hds, upd_self hg3, upd_self hg8, upd_self hg9, upd_self hg10]) ?_
      have e : (n31_L Kn Ke4 Ke3 Ke2 Kr (N + 1) x3 x8b x8n x8c x9 x10 h) = wpx none Tryd.prog 212 n31_c1 (Q13 (fun z3 z8b z8n z8c z9 z10 h => n31_L Kn Ke4 Ke3 Ke2 Kr N z3 z8b z8n z8c z9 z10 h) Ke4 Ke3 Ke2 Kr) (((((⟨g.v, []⟩ : Env).upd (some 3) (S x3)).upd (some 8) (.slice x8b x8n x8c)).upd (some 9) (.int .i64 x9)).upd (some 10) (.int .i64 x10)) h := by kernel_rfl
      exact e ▸ hS
    refine hw.mono ?_
    intro e g' h' hq
    cases e with
    | normal => exact D11_ok (K := (fun z3 z8b z8n z8c z9 z10 h => n31_L Kn Ke4 Ke3 Ke2 Kr N z3 z8b z8n z8c z9 z10 h)) hq
    | _ => exact hq
abbrev n30 (x3 : List UInt8) (x8b : Option Addr) (x8n : Nat) (x8c : Nat) (x9 : Int) (x10 : Int) (Kn : T6) (Ke3 : T6) (Ke2 : T5) (Kr : T0) (h : H) : Prop := n31 x3 x8b x8n x8c x9 x10 Kn Kn Ke3 Ke2 Kr h
theorem n30_ok (x3 : List UInt8) (x8b : Option Addr) (x8n : Nat) (x8c : Nat) (x9 : Int) (x10 : Int) (Kn : T6) (Ke3 : T6) (Ke2 : T5) (Kr : T0) (g : Env) (hg : E11 g x3 x8b x8n x8c x9 x10) (h : H) (hS : n30 x3 x8b x8n x8c x9 x10 Kn Ke3 Ke2 Kr h) : wpC none Tryd.prog 212 n29_c2 (Q4 Kn Ke3 Ke2 Kr) g h := by
  refine wpC_block' (id := 4) (x := n30_c1) (by kernel_rfl) (n31_ok x3 x8b x8n x8c x9 x10 Kn Kn Ke3 Ke2 Kr g hg h hS) ?_
  intro e g' h' hq
  cases e <;> exact hq
def Q14 (Kn : T11) (Ke3 : T6) (Ke2 : T5) (Kr : T0) : XPost
  | .normal, g, h => D11 Kn g h
  | .ret, g, h => D0 Kr g h
  | .exit id, g, h => cond (Nat.beq id 3) (D6 Ke3 g h) (cond (Nat.beq id 2) (D5 Ke2 g h) (False))
  | _, _, _ => False
abbrev n29 (x3 : List UInt8) (x8b : Option Addr) (x8n : Nat) (x8c : Nat) (x9 : Int) (Kn : T6) (Ke3 : T6) (Ke2 : T5) (Kr : T0) (h : H) : Prop :=
  n30 x3 x8b x8n x8c x9 (0 : Int) Kn Ke3 Ke2 Kr h
theorem n29_ok (x3 : List UInt8) (x8b : Option Addr) (x8n : Nat) (x8c : Nat) (x9 : Int) (Kn : T6) (Ke3 : T6) (Ke2 : T5) (Kr : T0) (g : Env) (hg : E6 g x3 x8b x8n x8c x9) (h : H) (hS : n29 x3 x8b x8n x8c x9 Kn Ke3 Ke2 Kr h) : wpC none Tryd.prog 212 n17_c1 (Q4 Kn Ke3 Ke2 Kr) g h := by
  obtain ⟨hg3, hg8, hg9, hds⟩ := hg
  refine wpC_seq' (x := n29_c1) (y := n29_c2) (Q' := (Q14 (fun z3 z8b z8n z8c z9 z10 h => n30 z3 z8b z8n z8c z9 z10 Kn Ke3 Ke2 Kr h) Ke3 Ke2 Kr)) (by kernel_rfl) ?_ ?_
  · refine wpC_of_wpx (by kernel_rfl) (by kernel_rfl) (g' := (((⟨g.v, []⟩ : Env).upd (some 3) (S x3)).upd (some 8) (.slice x8b x8n x8c)).upd (some 9) (.int .i64 x9)) (by rw [env_ds hds, upd_self hg3, upd_self hg8, upd_self hg9]) ?_
    have e : (n29 x3 x8b x8n x8c x9 Kn Ke3 Ke2 Kr h) = wpx none Tryd.prog 212 n29_c1 (Q14 (fun z3 z8b z8n z8c z9 z10 h => n30 z3 z8b z8n z8c z9 z10 Kn Ke3 Ke2 Kr h) Ke3 Ke2 Kr) ((((⟨g.v, []⟩ : Env).upd (some 3) (S x3)).upd (some 8) (.slice x8b x8n x8c)).upd (some 9) (.int .i64 x9)) h := by kernel_rfl
    exact e ▸ hS
  · intro e g' h' hq
    cases e with
    | normal =>
      have hq : D11 (fun z3 z8b z8n z8c z9 z10 h => n30 z3 z8b z8n z8c z9 z10 Kn Ke3 Ke2 Kr h) g' h' := hq
      obtain ⟨y3, y8b, y8n, y8c, y9, y10, hg', hq⟩ := D11_ok hq
      exact n30_ok y3 y8b y8n y8c y9 y10 Kn Ke3 Ke2 Kr g' hg' h' hq
    | _ => exact hq
abbrev n17 (x3 : List UInt8) (x8b : Option Addr) (x8n : Nat) (x8c : Nat) (x9 : Int) (Kn : T6) (Ke3 : T6) (Ke2 : T5) (Kr : T0) (h : H) : Prop := n29 x3 x8b x8n x8c x9 (fun z3 z8b z8n z8c z9 h => n18 z3 z8b z8n z8c z9 Kn Ke3 Ke2 Kr h) Ke3 Ke2 Kr h
theorem n17_ok (x3 : List UInt8) (x8b : Option Addr) (x8n : Nat) (x8c : Nat) (x9 : Int) (Kn : T6) (Ke3 : T6) (Ke2 : T5) (Kr : T0) (g : Env) (hg : E6 g x3 x8b x8n x8c x9) (h : H) (hS : n17 x3 x8b x8n x8c x9 Kn Ke3 Ke2 Kr h) : wpC none Tryd.prog 212 n16_c2 (Q4 Kn Ke3 Ke2 Kr) g h := by
  refine wpC_seq' (x := n17_c1) (y := n17_c2) (by kernel_rfl) (n29_ok x3 x8b x8n x8c x9 (fun z3 z8b z8n z8c z9 h => n18 z3 z8b z8n z8c z9 Kn Ke3 Ke2 Kr h) Ke3 Ke2 Kr g hg h hS) ?_
  intro e g' h' hq
  cases e with
  | normal =>
    have hq : D6 (fun z3 z8b z8n z8c z9 h => n18 z3 z8b z8n z8c z9 Kn Ke3 Ke2 Kr h) g' h' := hq
    obtain ⟨y3, y8b, y8n, y8c, y9, hg', hq⟩ := D6_ok hq
    exact n18_ok y3 y8b y8n y8c y9 Kn Ke3 Ke2 Kr g' hg' h' hq
  | _ => exact hq
abbrev n16 (x3 : List UInt8) (x8b : Option Addr) (x8n : Nat) (x8c : Nat) (x9 : Int) (Kn : T6) (Ke3 : T6) (Ke2 : T5) (Kr : T0) (h : H) : Prop :=
  (0 ≤ x9 ∧ x9 < (x8n : Int)) ∧ (vSome x8b fun a170 => ∃ i171, cell h ((a170.add (Int.toNat x9 * 3)).add 2) = some (.int .i64 i171) ∧ (Spl (i171 < (1 : Int)) (Kr false h) ((0 ≤ x9 ∧ x9 < (x8n : Int)) ∧ (vSome x8b fun a172 => ∃ i173, cell h ((a172.add (Int.toNat x9 * 3)).add 2) = some (.int .i64 i173) ∧ (Spl (i173 > (2 : Int)) (Kr false h) ((0 ≤ x9 ∧ x9 < (x8n : Int)) ∧ (vSome x8b fun a174 => ∃ i175, cell h ((a174.add (Int.toNat x9 * 3)).add 0) = some (.int .i64 i175) ∧ (Spl (i175 < (0 : Int)) (Kr false h) ((0 ≤ x9 ∧ x9 < (x8n : Int)) ∧ (vSome x8b fun a176 => ∃ i177, cell h ((a176.add (Int.toNat x9 * 3)).add 1) = some (.int .i64 i177) ∧ (Spl (i177 > (x3.length : Int)) (Kr false h) ((0 ≤ x9 ∧ x9 < (x8n : Int)) ∧ (vSome x8b fun a178 => ∃ i179, cell h ((a178.add (Int.toNat x9 * 3)).add 0) = some (.int .i64 i179) ∧ ((0 ≤ x9 ∧ x9 < (x8n : Int)) ∧ (vSome x8b fun a180 => ∃ i181, cell h ((a180.add (Int.toNat x9 * 3)).add 2) = some (.int .i64 i181) ∧ (Rng .i64 ((2 : Int) * i181) ∧ (Rng .i64 (i179 + ((2 : Int) * i181)) ∧ ((0 ≤ x9 ∧ x9 < (x8n : Int)) ∧ (vSome x8b fun a182 => ∃ i183, cell h ((a182.add (Int.toNat x9 * 3)).add 1) = some (.int .i64 i183) ∧ (Spl ((i179 + ((2 : Int) * i181)) > i183) (Kr false h) (n17 x3 x8b x8n x8c x9 Kn Ke3 Ke2 Kr h)))))))))))))))))))))
theorem n16_ok (x3 : List UInt8) (x8b : Option Addr) (x8n : Nat) (x8c : Nat) (x9 : Int) (Kn : T6) (Ke3 : T6) (Ke2 : T5) (Kr : T0) (g : Env) (hg : E6 g x3 x8b x8n x8c x9) (h : H) (hS : n16 x3 x8b x8n x8c x9 Kn Ke3 Ke2 Kr h) : wpC none Tryd.prog 212 n15_c1 (Q4 Kn Ke3 Ke2 Kr) g h := by
  obtain ⟨hg3, hg8, hg9, hds⟩ := hg
  refine wpC_seq' (x := n16_c1) (y := n16_c2) (Q' := (Q4 (fun z3 z8b z8n z8c z9 h => n17 z3 z8b z8n z8c z9 Kn Ke3 Ke2 Kr h) Ke3 Ke2 Kr)) (by kernel_rfl) ?_ ?_
  · refine wpC_of_wpx (by kernel_rfl) (by kernel_rfl) (g' := (((⟨g.v, []⟩ : Env).upd (some 3) (S x3)).upd (some 8) (.slice x8b x8n x8c)).upd (some 9) (.int .i64 x9)) (by rw [env_ds hds, upd_self hg3, upd_self hg8, upd_self hg9]) ?_
    have e : (n16 x3 x8b x8n x8c x9 Kn Ke3 Ke2 Kr h) = wpx none Tryd.prog 212 n16_c1 (Q4 (fun z3 z8b z8n z8c z9 h => n17 z3 z8b z8n z8c z9 Kn Ke3 Ke2 Kr h) Ke3 Ke2 Kr) ((((⟨g.v, []⟩ : Env).upd (some 3) (S x3)).upd (some 8) (.slice x8b x8n x8c)).upd (some 9) (.int .i64 x9)) h := by kernel_rfl
    exact e ▸ hS
  · intro e g' h' hq
    cases e with
    | normal =>
      have hq : D6 (fun z3 z8b z8n z8c z9 h => n17 z3 z8b z8n z8c z9 Kn Ke3 Ke2 Kr h) g' h' := hq
      obtain ⟨y3, y8b, y8n, y8c, y9, hg', hq⟩ := D6_ok hq
      exact n17_ok y3 y8b y8n y8c y9 Kn Ke3 Ke2 Kr g' hg' h' hq
    | _ => exact hq
abbrev n15 (x3 : List UInt8) (x8b : Option Addr) (x8n : Nat) (x8c : Nat) (x9 : Int) (Kn : T6) (Ke2 : T5) (Kr : T0) (h : H) : Prop := n16 x3 x8b x8n x8c x9 Kn Kn Ke2 Kr h
theorem n15_ok (x3 : List UInt8) (x8b : Option Addr) (x8n : Nat) (x8c : Nat) (x9 : Int) (Kn : T6) (Ke2 : T5) (Kr : T0) (g : Env) (hg : E6 g x3 x8b x8n x8c x9) (h : H) (hS : n15 x3 x8b x8n x8c x9 Kn Ke2 Kr h) : wpC none Tryd.prog 212 n13_c1 (Q3 Kn Ke2 Kr) g h := by
  refine wpC_block' (id := 3) (x := n15_c1) (by kernel_rfl) (n16_ok x3 x8b x8n x8c x9 Kn Kn Ke2 Kr g hg h hS) ?_
  intro e g' h' hq
  cases e <;> exact hq
abbrev n13 (x3 : List UInt8) (x8b : Option Addr) (x8n : Nat) (x8c : Nat) (x9 : Int) (Kn : T6) (Ke2 : T5) (Kr : T0) (h : H) : Prop := n15 x3 x8b x8n x8c x9 (fun z3 z8b z8n z8c z9 h => n14 z3 z8b z8n z8c z9 Kn Ke2 Kr h) Ke2 Kr h
theorem n13_ok (x3 : List UInt8) (x8b : Option Addr) (x8n : Nat) (x8c : Nat) (x9 : Int) (Kn : T6) (Ke2 : T5) (Kr : T0) (g : Env) (hg : E6 g x3 x8b x8n x8c x9) (h : H) (hS : n13 x3 x8b x8n x8c x9 Kn Ke2 Kr h) : wpC none Tryd.prog 212 n12_c2 (Q3 Kn Ke2 Kr) g h := by
  refine wpC_seq' (x := n13_c1) (y := n13_c2) (by kernel_rfl) (n15_ok x3 x8b x8n x8c x9 (fun z3 z8b z8n z8c z9 h => n14 z3 z8b z8n z8c z9 Kn Ke2 Kr h) Ke2 Kr g hg h hS) ?_
  intro e g' h' hq
  cases e with
  | normal =>
    have hq : D6 (fun z3 z8b z8n z8c z9 h => n14 z3 z8b z8n z8c z9 Kn Ke2 Kr h) g' h' := hq
    obtain ⟨y3, y8b, y8n, y8c, y9, hg', hq⟩ := D6_ok hq
    exact n14_ok y3 y8b y8n y8c y9 Kn Ke2 Kr g' hg' h' hq
  | _ => exact hq
abbrev n12 (x3 : List UInt8) (x8b : Option Addr) (x8n : Nat) (x8c : Nat) (x9 : Int) (Kn : T6) (Ke2 : T5) (Kr : T0) (h : H) : Prop :=
  Spl (x9 < (x8n : Int)) (n13 x3 x8b x8n x8c x9 Kn Ke2 Kr h) (Ke2 h)
theorem n12_ok (x3 : List UInt8) (x8b : Option Addr) (x8n : Nat) (x8c : Nat) (x9 : Int) (Kn : T6) (Ke2 : T5) (Kr : T0) (g : Env) (hg : E6 g x3 x8b x8n x8c x9) (h : H) (hS : n12 x3 x8b x8n x8c x9 Kn Ke2 Kr h) : wpC none Tryd.prog 212 n11_c1 (Q3 Kn Ke2 Kr) g h := by
  obtain ⟨hg3, hg8, hg9, hds⟩ := hg
  refine wpC_seq' (x := n12_c1) (y := n12_c2) (Q' := (Q3 (fun z3 z8b z8n z8c z9 h => n13 z3 z8b z8n z8c z9 Kn Ke2 Kr h) Ke2 Kr)) (by kernel_rfl) ?_ ?_
  · refine wpC_of_wpx (by kernel_rfl) (by kernel_rfl) (g' := (((⟨g.v, []⟩ : Env).upd (some 3) (S x3)).upd (some 8) (.slice x8b x8n x8c)).upd (some 9) (.int .i64 x9)) (by rw [env_ds hds, upd_self hg3, upd_self hg8, upd_self hg9]) ?_
    have e : (n12 x3 x8b x8n x8c x9 Kn Ke2 Kr h) = wpx none Tryd.prog 212 n12_c1 (Q3 (fun z3 z8b z8n z8c z9 h => n13 z3 z8b z8n z8c z9 Kn Ke2 Kr h) Ke2 Kr) ((((⟨g.v, []⟩ : Env).upd (some 3) (S x3)).upd (some 8) (.slice x8b x8n x8c)).upd (some 9) (.int .i64 x9)) h := by kernel_rfl
    exact e ▸ hS
  · intro e g' h' hq
    cases e with
    | normal =>
      have hq : D6 (fun z3 z8b z8n z8c z9 h => n13 z3 z8b z8n z8c z9 Kn Ke2 Kr h) g' h' := hq
      obtain ⟨y3, y8b, y8n, y8c, y9, hg', hq⟩ := D6_ok hq
      exact n13_ok y3 y8b y8n y8c y9 Kn Ke2 Kr g' hg' h' hq
    | _ => exact hq
def n11_L (Kn : T5) (Ke2 : T5) (Kr : T0) : Nat → (List UInt8) → (Option Addr) → Nat → Nat → Int → H → Prop
  | 0 => fun _ _ _ _ _ _ => False
  | N + 1 => fun x3 x8b x8n x8c x9 h => n12 x3 x8b x8n x8c x9 (fun z3 z8b z8n z8c z9 h => n11_L Kn Ke2 Kr N z3 z8b z8n z8c z9 h) Ke2 Kr h
abbrev n11 (x3 : List UInt8) (x8b : Option Addr) (x8n : Nat) (x8c : Nat) (x9 : Int) (Kn : T5) (Ke2 : T5) (Kr : T0) (h : H) : Prop := ∃ N, n11_L Kn Ke2 Kr N x3 x8b x8n x8c x9 h
theorem n11_ok (x3 : List UInt8) (x8b : Option Addr) (x8n : Nat) (x8c : Nat) (x9 : Int) (Kn : T5) (Ke2 : T5) (Kr : T0) (g : Env) (hg : E6 g x3 x8b x8n x8c x9) (h : H) (hS : n11 x3 x8b x8n x8c x9 Kn Ke2 Kr h) : wpC none Tryd.prog 212 n10_c1 (Q2 Kn Ke2 Kr) g h := by
  obtain ⟨N0, hS⟩ := hS
  refine wpC_loop' (x := n11_c1) (by kernel_rfl) (fun k g h => ∃ (x3 : List UInt8) (x8b : Option Addr) (x8n : Nat) (x8c : Nat) (x9 : Int), E6 g x3 x8b x8n x8c x9 ∧ n11_L Kn Ke2 Kr k x3 x8b x8n x8c x9 h) (fun g h hr => ?_) (fun N g h hr => ?_) N0 ⟨x3, x8b, x8n, x8c, x9, hg, hS⟩
  · obtain ⟨x3, x8b, x8n, x8c, x9, hg, hS⟩ := hr
    exact hS.elim
  · obtain ⟨x3, x8b, x8n, x8c, x9, hg, hS⟩ := hr
    refine (n12_ok x3 x8b x8n x8c x9 (fun z3 z8b z8n z8c z9 h => n11_L Kn Ke2 Kr N z3 z8b z8n z8c z9 h) Ke2 Kr g hg h hS).mono ?_
    intro e g' h' hq
    cases e with
    | normal => exact D6_ok (K := (fun z3 z8b z8n z8c z9 h => n11_L Kn Ke2 Kr N z3 z8b z8n z8c z9 h)) hq
    | _ => exact hq
abbrev n10 (x3 : List UInt8) (x8b : Option Addr) (x8n : Nat) (x8c : Nat) (x9 : Int) (Kn : T5) (Kr : T0) (h : H) : Prop := n11 x3 x8b x8n x8c x9 Kn Kn Kr h
theorem n10_ok (x3 : List UInt8) (x8b : Option Addr) (x8n : Nat) (x8c : Nat) (x9 : Int) (Kn : T5) (Kr : T0) (g : Env) (hg : E6 g x3 x8b x8n x8c x9) (h : H) (hS : n10 x3 x8b x8n x8c x9 Kn Kr h) : wpC none Tryd.prog 212 n9_c2 (Q1 Kn Kr) g h := by
  refine wpC_block' (id := 2) (x := n10_c1) (by kernel_rfl) (n11_ok x3 x8b x8n x8c x9 Kn Kn Kr g hg h hS) ?_
  intro e g' h' hq
  cases e <;> exact hq
def Q15 (Kn : T6) (Kr : T0) : XPost
  | .normal, g, h => D6 Kn g h
  | .ret, g, h => D0 Kr g h
  | _, _, _ => False
abbrev n9 (x3 : List UInt8) (x8b : Option Addr) (x8n : Nat) (x8c : Nat) (Kn : T5) (Kr : T0) (h : H) : Prop :=
  n10 x3 x8b x8n x8c (0 : Int) Kn Kr h
theorem n9_ok (x3 : List UInt8) (x8b : Option Addr) (x8n : Nat) (x8c : Nat) (Kn : T5) (Kr : T0) (g : Env) (hg : E4 g x3 x8b x8n x8c) (h : H) (hS : n9 x3 x8b x8n x8c Kn Kr h) : wpC none Tryd.prog 212 n7_c1 (Q1 Kn Kr) g h := by
  obtain ⟨hg3, hg8, hds⟩ := hg
  refine wpC_seq' (x := n9_c1) (y := n9_c2) (Q' := (Q15 (fun z3 z8b z8n z8c z9 h => n10 z3 z8b z8n z8c z9 Kn Kr h) Kr)) (by kernel_rfl) ?_ ?_
  · refine wpC_of_wpx (by kernel_rfl) (by kernel_rfl) (g' := ((⟨g.v, []⟩ : Env).upd (some 3) (S x3)).upd (some 8) (.slice x8b x8n x8c)) (by rw [env_ds hds, upd_self hg3, upd_self hg8]) ?_
    have e : (n9 x3 x8b x8n x8c Kn Kr h) = wpx none Tryd.prog 212 n9_c1 (Q15 (fun z3 z8b z8n z8c z9 h => n10 z3 z8b z8n z8c z9 Kn Kr h) Kr) (((⟨g.v, []⟩ : Env).upd (some 3) (S x3)).upd (some 8) (.slice x8b x8n x8c)) h := by kernel_rfl
    exact e ▸ hS
  · intro e g' h' hq
    cases e with
    | normal =>
      have hq : D6 (fun z3 z8b z8n z8c z9 h => n10 z3 z8b z8n z8c z9 Kn Kr h) g' h' := hq
      obtain ⟨y3, y8b, y8n, y8c, y9, hg', hq⟩ := D6_ok hq
      exact n10_ok y3 y8b y8n y8c y9 Kn Kr g' hg' h' hq
    | _ => exact hq
abbrev n7 (x3 : List UInt8) (x8b : Option Addr) (x8n : Nat) (x8c : Nat) (Kn : T0) (Kr : T0) (h : H) : Prop := n9 x3 x8b x8n x8c (fun  h => n8 Kn Kr h) Kr h
theorem n7_ok (x3 : List UInt8) (x8b : Option Addr) (x8n : Nat) (x8c : Nat) (Kn : T0) (Kr : T0) (g : Env) (hg : E4 g x3 x8b x8n x8c) (h : H) (hS : n7 x3 x8b x8n x8c Kn Kr h) : wpC none Tryd.prog 212 n6_c2 (Q0 Kn Kr) g h := by
  refine wpC_seq' (x := n7_c1) (y := n7_c2) (by kernel_rfl) (n9_ok x3 x8b x8n x8c (fun  h => n8 Kn Kr h) Kr g hg h hS) ?_
  intro e g' h' hq
  cases e with
  | normal =>
    have hq : D5 (fun  h => n8 Kn Kr h) g' h' := hq
    obtain ⟨hg', hq⟩ := D5_ok hq
    exact n8_ok  Kn Kr g' hg' h' hq
  | _ => exact hq
def Q16 (Kn : T4) (Kr : T0) : XPost
  | .normal, g, h => D4 Kn g h
  | .ret, g, h => D0 Kr g h
  | _, _, _ => False
abbrev n6 (x3 : List UInt8) (x4b : Option Addr) (x4n : Nat) (x4c : Nat) (Kn : T0) (Kr : T0) (h : H) : Prop :=
  HCalls Tryd.prog 11 ⟨[(.slice x4b x4n x4c)]⟩ h fun v184 h185 => vSlice v184 fun s186b s186n s186c => n7 x3 s186b s186n s186c Kn Kr h185
theorem n6_ok (x3 : List UInt8) (x4b : Option Addr) (x4n : Nat) (x4c : Nat) (Kn : T0) (Kr : T0) (g : Env) (hg : E3 g x3 x4b x4n x4c) (h : H) (hS : n6 x3 x4b x4n x4c Kn Kr h) : wpC none Tryd.prog 212 n5_c2 (Q0 Kn Kr) g h := by
  obtain ⟨hg3, hg4, hds⟩ := hg
  refine wpC_seq' (x := n6_c1) (y := n6_c2) (Q' := (Q16 (fun z3 z8b z8n z8c h => n7 z3 z8b z8n z8c Kn Kr h) Kr)) (by kernel_rfl) ?_ ?_
  · refine wpC_of_wpx (by kernel_rfl) (by kernel_rfl) (g' := ((⟨g.v, []⟩ : Env).upd (some 3) (S x3)).upd (some 4) (.slice x4b x4n x4c)) (by rw [env_ds hds, upd_self hg3, upd_self hg4]) ?_
    have e : (n6 x3 x4b x4n x4c Kn Kr h) = wpx none Tryd.prog 212 n6_c1 (Q16 (fun z3 z8b z8n z8c h => n7 z3 z8b z8n z8c Kn Kr h) Kr) (((⟨g.v, []⟩ : Env).upd (some 3) (S x3)).upd (some 4) (.slice x4b x4n x4c)) h := by kernel_rfl
    exact e ▸ hS
  · intro e g' h' hq
    cases e with
    | normal =>
      have hq : D4 (fun z3 z8b z8n z8c h => n7 z3 z8b z8n z8c Kn Kr h) g' h' := hq
      obtain ⟨y3, y8b, y8n, y8c, hg', hq⟩ := D4_ok hq
      exact n7_ok y3 y8b y8n y8c Kn Kr g' hg' h' hq
    | _ => exact hq
def Q17 (Kn : T3) (Kr : T0) : XPost
  | .normal, g, h => D3 Kn g h
  | .ret, g, h => D0 Kr g h
  | _, _, _ => False
noncomputable def n32_c1 : Code := cFst n5_c1
noncomputable def n32_c2 : Code := cSnd n5_c1
abbrev T12 := (List UInt8) → (Option Addr) → Nat → Nat → Int → H → Prop
def E12 (g : Env) (x3 : List UInt8) (x4b : Option Addr) (x4n : Nat) (x4c : Nat) (x5 : Int) : Prop := g.v 3 = (S x3) ∧ g.v 4 = (.slice x4b x4n x4c) ∧ g.v 5 = (.int .i64 x5) ∧ g.ds = []
def D12 (K : T12) (g : Env) (h : H) : Prop := nilDs g.ds (vStr (g.v 3) fun s187 => vSlice (g.v 4) fun s188b s188n s188c => vInt .i64 (g.v 5) fun i189 => K s187 s188b s188n s188c i189 h)
theorem D12_ok {K : T12} {g : Env} {h : H} (hq : D12 K g h) : ∃ (x3 : List UInt8) (x4b : Option Addr) (x4n : Nat) (x4c : Nat) (x5 : Int), E12 g x3 x4b x4n x4c x5 ∧ K x3 x4b x4n x4c x5 h := by
  obtain ⟨hd, hq⟩ := nilDs_ok hq
  obtain ⟨y191, e190, q192⟩ := vStr_ok hq
  obtain ⟨y194b, y194n, y194c, e193, q195⟩ := vSlice_ok q192
  obtain ⟨y197, e196, q198⟩ := vInt_ok q195
  exact ⟨y191, y194b, y194n, y194c, y197, ⟨e190, e193, e196, hd⟩, q198⟩
noncomputable def n33_c1 : Code := cFst n32_c2
def Q18 (Kn : T3) (Ke0 : T3) (Kr : T0) : XPost
  | .normal, g, h => D3 Kn g h
  | .ret, g, h => D0 Kr g h
  | .exit id, g, h => cond (Nat.beq id 0) (D3 Ke0 g h) (False)
  | _, _, _ => False
noncomputable def n34_c1 : Code := cFst n33_c1
def Q19 (Kn : T12) (Ke0 : T3) (Kr : T0) : XPost
  | .normal, g, h => D12 Kn g h
  | .ret, g, h => D0 Kr g h
  | .exit id, g, h => cond (Nat.beq id 0) (D3 Ke0 g h) (False)
  | _, _, _ => False
noncomputable def n35_c1 : Code := cFst n34_c1
noncomputable def n35_c2 : Code := cSnd n34_c1
noncomputable def n36_c1 : Code := cFst n35_c2
noncomputable def n36_c2 : Code := cSnd n35_c2
abbrev n37 (x3 : List UInt8) (x4b : Option Addr) (x4n : Nat) (x4c : Nat) (x5 : Int) (Kn : T12) (Ke0 : T3) (Kr : T0) (h : H) : Prop :=
  Rng .i64 (x5 + (1 : Int)) ∧ (Kn x3 x4b x4n x4c (x5 + (1 : Int)) h)
theorem n37_ok (x3 : List UInt8) (x4b : Option Addr) (x4n : Nat) (x4c : Nat) (x5 : Int) (Kn : T12) (Ke0 : T3) (Kr : T0) (g : Env) (hg : E12 g x3 x4b x4n x4c x5) (h : H) (hS : n37 x3 x4b x4n x4c x5 Kn Ke0 Kr h) : wpC none Tryd.prog 212 n36_c2 (Q19 Kn Ke0 Kr) g h := by
  obtain ⟨hg3, hg4, hg5, hds⟩ := hg
  refine wpC_of_wpx (by kernel_rfl) (by kernel_rfl) (g' := (((⟨g.v, []⟩ : Env).upd (some 3) (S x3)).upd (some 4) (.slice x4b x4n x4c)).upd (some 5) (.int .i64 x5)) (by rw [env_ds hds, upd_self hg3, upd_self hg4, upd_self hg5]) ?_
  have e : (n37 x3 x4b x4n x4c x5 Kn Ke0 Kr h) = wpx none Tryd.prog 212 n36_c2 (Q19 Kn Ke0 Kr) ((((⟨g.v, []⟩ : Env).upd (some 3) (S x3)).upd (some 4) (.slice x4b x4n x4c)).upd (some 5) (.int .i64 x5)) h := by kernel_rfl
  exact e ▸ hS
noncomputable def n38_c1 : Code := cFst n36_c1
def Q20 (Kn : T12) (Ke1 : T12) (Ke0 : T3) (Kr : T0) : XPost
  | .normal, g, h => D12 Kn g h
  | .ret, g, h => D0 Kr g h
  | .exit id, g, h => cond (Nat.beq id 1) (D12 Ke1 g h) (cond (Nat.beq id 0) (D3 Ke0 g h) (False))
  | _, _, _ => False
noncomputable def n39_c1 : Code := cFst n38_c1
noncomputable def n39_c2 : Code := cSnd n38_c1
abbrev T13 := (List UInt8) → (Option Addr) → Nat → Nat → Int → Addr → Bool → H → Prop
def E13 (g : Env) (x3 : List UInt8) (x4b : Option Addr) (x4n : Nat) (x4c : Nat) (x5 : Int) (x6 : Addr) (x7 : Bool) : Prop := g.v 3 = (S x3) ∧ g.v 4 = (.slice x4b x4n x4c) ∧ g.v 5 = (.int .i64 x5) ∧ g.v 6 = (.pointer (some x6)) ∧ g.v 7 = (.bool x7) ∧ g.ds = []
def D13 (K : T13) (g : Env) (h : H) : Prop := nilDs g.ds (vStr (g.v 3) fun s199 => vSlice (g.v 4) fun s200b s200n s200c => vInt .i64 (g.v 5) fun i201 => vAddr (g.v 6) fun a202 => vBool (g.v 7) fun b203 => K s199 s200b s200n s200c i201 a202 b203 h)
theorem D13_ok {K : T13} {g : Env} {h : H} (hq : D13 K g h) : ∃ (x3 : List UInt8) (x4b : Option Addr) (x4n : Nat) (x4c : Nat) (x5 : Int) (x6 : Addr) (x7 : Bool), E13 g x3 x4b x4n x4c x5 x6 x7 ∧ K x3 x4b x4n x4c x5 x6 x7 h := by
  obtain ⟨hd, hq⟩ := nilDs_ok hq
  obtain ⟨y205, e204, q206⟩ := vStr_ok hq
  obtain ⟨y208b, y208n, y208c, e207, q209⟩ := vSlice_ok q206
  obtain ⟨y211, e210, q212⟩ := vInt_ok q209
  obtain ⟨y214, e213, q215⟩ := vAddr_ok q212
  obtain ⟨y217, e216, q218⟩ := vBool_ok q215
  exact ⟨y205, y208b, y208n, y208c, y211, y214, y217, ⟨e204, e207, e210, e213, e216, hd⟩, q218⟩
abbrev n40 (x3 : List UInt8) (x4b : Option Addr) (x4n : Nat) (x4c : Nat) (x5 : Int) (x6 : Addr) (x7 : Bool) (Kn : T12) (Ke1 : T12) (Ke0 : T3) (Kr : T0) (h : H) : Prop :=
  cond x7 (∃ i219, cell h ((x6).add 0) = some (.int .u8 i219) ∧ (∃ i220, cell h ((x6).add 1) = some (.int .i64 i220) ∧ (∃ i221, cell h ((x6).add 2) = some (.int .i64 i221) ∧ (∃ b222, cell h ((x6).add 3) = some (.bool b222) ∧ (∃ b223, cell h ((x6).add 4) = some (.bool b223) ∧ (newx h #[(.int .u8 i219), (.int .i64 i220), (.int .i64 i221), (.bool b222), (.bool b223)] 25 fun a224 h225 => SemH Tryd.prog (Builtin.append_ #[30, 30] 30 ⟨[(.slice x4b x4n x4c), (.slice (some a224) 1 1)]⟩) h225 fun v226 h227 => vSlice v226 fun s228b s228n s228c => ∃ i229, cell h227 (x6.add 2) = some (.int .i64 i229) ∧ (Rng .i64 ((if (1 : Int) > i229 then (1 : Int) else i229) - (1 : Int)) ∧ (Rng .i64 (x5 + ((if (1 : Int) > i229 then (1 : Int) else i229) - (1 : Int))) ∧ (Kn x3 s228b s228n s228c (x5 + ((if (1 : Int) > i229 then (1 : Int) else i229) - (1 : Int))) h227))))))))) (Kn x3 x4b x4n x4c x5 h)
theorem n40_ok (x3 : List UInt8) (x4b : Option Addr) (x4n : Nat) (x4c : Nat) (x5 : Int) (x6 : Addr) (x7 : Bool) (Kn : T12) (Ke1 : T12) (Ke0 : T3) (Kr : T0) (g : Env) (hg : E13 g x3 x4b x4n x4c x5 x6 x7) (h : H) (hS : n40 x3 x4b x4n x4c x5 x6 x7 Kn Ke1 Ke0 Kr h) : wpC none Tryd.prog 212 n39_c2 (Q20 Kn Ke1 Ke0 Kr) g h := by
  obtain ⟨hg3, hg4, hg5, hg6, hg7, hds⟩ := hg
  refine wpC_of_wpx (by kernel_rfl) (by kernel_rfl) (g' := (((((⟨g.v, []⟩ : Env).upd (some 3) (S x3)).upd (some 4) (.slice x4b x4n x4c)).upd (some 5) (.int .i64 x5)).upd (some 6) (.pointer (some x6))).upd (some 7) (.bool x7)) (by rw [env_ds hds, upd_self hg3, upd_self hg4, upd_self hg5, upd_self hg6, upd_self hg7]) ?_
  have e : (n40 x3 x4b x4n x4c x5 x6 x7 Kn Ke1 Ke0 Kr h) = wpx none Tryd.prog 212 n39_c2 (Q20 Kn Ke1 Ke0 Kr) ((((((⟨g.v, []⟩ : Env).upd (some 3) (S x3)).upd (some 4) (.slice x4b x4n x4c)).upd (some 5) (.int .i64 x5)).upd (some 6) (.pointer (some x6))).upd (some 7) (.bool x7)) h := by kernel_rfl
  exact e ▸ hS
def Q21 (Kn : T13) (Ke1 : T12) (Ke0 : T3) (Kr : T0) : XPost
  | .normal, g, h => D13 Kn g h
  | .ret, g, h => D0 Kr g h
  | .exit id, g, h => cond (Nat.beq id 1) (D12 Ke1 g h) (cond (Nat.beq id 0) (D3 Ke0 g h) (False))
  | _, _, _ => False
abbrev n39 (x3 : List UInt8) (x4b : Option Addr) (x4n : Nat) (x4c : Nat) (x5 : Int) (Kn : T12) (Ke1 : T12) (Ke0 : T3) (Kr : T0) (h : H) : Prop :=
  HCalls Tryd.prog 7 ⟨[(S x3), (.int .i64 x5)]⟩ h fun v230 h231 => vTup v230 fun l232 => uncons l232 fun e233 l234 => vAgg e233 fun l235 => uncons l235 fun e236 l237 => vInt .u8 e236 fun i238 => uncons l237 fun e239 l240 => vInt .i64 e239 fun i241 => uncons l240 fun e242 l243 => vInt .i64 e242 fun i244 => uncons l243 fun e245 l246 => vBool e245 fun b247 => uncons l246 fun e248 l249 => vBool e248 fun b250 => unnil l249 (uncons l234 fun e251 l252 => vBool e251 fun b253 => unnil l252 (cond b253 (newx h231 ⟨[(.int .u8 (0 : Int)), (.int .i64 (0 : Int)), (.int .i64 (0 : Int)), (.bool false), (.bool false)]⟩ 25 fun a254 h255 => stL a254 [(.int .u8 i238), (.int .i64 i241), (.int .i64 i244), (.bool b247), (.bool b250)] 0 h255 fun h256 => n40 x3 x4b x4n x4c x5 a254 true Kn Ke1 Ke0 Kr h256) (newx h231 ⟨[(.int .u8 (0 : Int)), (.int .i64 (0 : Int)), (.int .i64 (0 : Int)), (.bool false), (.bool false)]⟩ 25 fun a257 h258 => stL a257 [(.int .u8 i238), (.int .i64 i241), (.int .i64 i244), (.bool b247), (.bool b250)] 0 h258 fun h259 => n40 x3 x4b x4n x4c x5 a257 false Kn Ke1 Ke0 Kr h259)))
theorem n39_ok (x3 : List UInt8) (x4b : Option Addr) (x4n : Nat) (x4c : Nat) (x5 : Int) (Kn : T12) (Ke1 : T12) (Ke0 : T3) (Kr : T0) (g : Env) (hg : E12 g x3 x4b x4n x4c x5) (h : H) (hS : n39 x3 x4b x4n x4c x5 Kn Ke1 Ke0 Kr h) : wpC none Tryd.prog 212 n38_c1 (Q20 Kn Ke1 Ke0 Kr) g h := by
  obtain ⟨hg3, hg4, hg5, hds⟩ := hg
  refine wpC_seq' (x := n39_c1) (y := n39_c2) (Q' := (Q21 (fun z3 z4b z4n z4c z5 z6 z7 h => n40 z3 z4b z4n z4c z5 z6 z7 Kn Ke1 Ke0 Kr h) Ke1 Ke0 Kr)) (by kernel_rfl) ?_ ?_
  · refine wpC_of_wpx (by kernel_rfl) (by kernel_rfl) (g' := (((⟨g.v, []⟩ : Env).upd (some 3) (S x3)).upd (some 4) (.slice x4b x4n x4c)).upd (some 5) (.int .i64 x5)) (by rw [env_ds hds, upd_self hg3, upd_self hg4, upd_self hg5]) ?_
    have e : (n39 x3 x4b x4n x4c x5 Kn Ke1 Ke0 Kr h) = wpx none Tryd.prog 212 n39_c1 (Q21 (fun z3 z4b z4n z4c z5 z6 z7 h => n40 z3 z4b z4n z4c z5 z6 z7 Kn Ke1 Ke0 Kr h) Ke1 Ke0 Kr) ((((⟨g.v, []⟩ : Env).upd (some 3) (S x3)).upd (some 4) (.slice x4b x4n x4c)).upd (some 5) (.int .i64 x5)) h := by kernel_rfl
    exact e ▸ hS
  · intro e g' h' hq
    cases e with
    | normal =>
      have hq : D13 (fun z3 z4b z4n z4c z5 z6 z7 h => n40 z3 z4b z4n z4c z5 z6 z7 Kn Ke1 Ke0 Kr h) g' h' := hq
      obtain ⟨y3, y4b, y4n, y4c, y5, y6, y7, hg', hq⟩ := D13_ok hq
      exact n40_ok y3 y4b y4n y4c y5 y6 y7 Kn Ke1 Ke0 Kr g' hg' h' hq
    | _ => exact hq
abbrev n38 (x3 : List UInt8) (x4b : Option Addr) (x4n : Nat) (x4c : Nat) (x5 : Int) (Kn : T12) (Ke0 : T3) (Kr : T0) (h : H) : Prop := n39 x3 x4b x4n x4c x5 Kn Kn Ke0 Kr h
theorem n38_ok (x3 : List UInt8) (x4b : Option Addr) (x4n : Nat) (x4c : Nat) (x5 : Int) (Kn : T12) (Ke0 : T3) (Kr : T0) (g : Env) (hg : E12 g x3 x4b x4n x4c x5) (h : H) (hS : n38 x3 x4b x4n x4c x5 Kn Ke0 Kr h) : wpC none Tryd.prog 212 n36_c1 (Q19 Kn Ke0 Kr) g h := by
  refine wpC_block' (id := 1) (x := n38_c1) (by kernel_rfl) (n39_ok x3 x4b x4n x4c x5 Kn Kn Ke0 Kr g hg h hS) ?_
  intro e g' h' hq
  cases e <;> exact hq
abbrev n36 (x3 : List UInt8) (x4b : Option Addr) (x4n : Nat) (x4c : Nat) (x5 : Int) (Kn : T12) (Ke0 : T3) (Kr : T0) (h : H) : Prop := n38 x3 x4b x4n x4c x5 (fun z3 z4b z4n z4c z5 h => n37 z3 z4b z4n z4c z5 Kn Ke0 Kr h) Ke0 Kr h
theorem n36_ok (x3 : List UInt8) (x4b : Option Addr) (x4n : Nat) (x4c : Nat) (x5 : Int) (Kn : T12) (Ke0 : T3) (Kr : T0) (g : Env) (hg : E12 g x3 x4b x4n x4c x5) (h : H) (hS : n36 x3 x4b x4n x4c x5 Kn Ke0 Kr h) : wpC none Tryd.prog 212 n35_c2 (Q19 Kn Ke0 Kr) g h := by
  refine wpC_seq' (x := n36_c1) (y := n36_c2) (by kernel_rfl) (n38_ok x3 x4b x4n x4c x5 (fun z3 z4b z4n z4c z5 h => n37 z3 z4b z4n z4c z5 Kn Ke0 Kr h) Ke0 Kr g hg h hS) ?_
  intro e g' h' hq
  cases e with
  | normal =>
    have hq : D12 (fun z3 z4b z4n z4c z5 h => n37 z3 z4b z4n z4c z5 Kn Ke0 Kr h) g' h' := hq
    obtain ⟨y3, y4b, y4n, y4c, y5, hg', hq⟩ := D12_ok hq
    exact n37_ok y3 y4b y4n y4c y5 Kn Ke0 Kr g' hg' h' hq
  | _ => exact hq
abbrev n35 (x3 : List UInt8) (x4b : Option Addr) (x4n : Nat) (x4c : Nat) (x5 : Int) (Kn : T12) (Ke0 : T3) (Kr : T0) (h : H) : Prop :=
  Spl (x5 < (x3.length : Int)) (n36 x3 x4b x4n x4c x5 Kn Ke0 Kr h) (Ke0 x3 x4b x4n x4c h)
theorem n35_ok (x3 : List UInt8) (x4b : Option Addr) (x4n : Nat) (x4c : Nat) (x5 : Int) (Kn : T12) (Ke0 : T3) (Kr : T0) (g : Env) (hg : E12 g x3 x4b x4n x4c x5) (h : H) (hS : n35 x3 x4b x4n x4c x5 Kn Ke0 Kr h) : wpC none Tryd.prog 212 n34_c1 (Q19 Kn Ke0 Kr) g h := by
  obtain ⟨hg3, hg4, hg5, hds⟩ := hg
  refine wpC_seq' (x := n35_c1) (y := n35_c2) (Q' := (Q19 (fun z3 z4b z4n z4c z5 h => n36 z3 z4b z4n z4c z5 Kn Ke0 Kr h) Ke0 Kr)) (by kernel_rfl) ?_ ?_
  · refine wpC_of_wpx (by kernel_rfl) (by kernel_rfl) (g' := (((⟨g.v, []⟩ : Env).upd (some 3) (S x3)).upd (some 4) (.slice x4b x4n x4c)).upd (some 5) (.int .i64 x5)) (by rw [env_ds hds, upd_self hg3, upd_self hg4, upd_self hg5]) ?_
    have e : (n35 x3 x4b x4n x4c x5 Kn Ke0 Kr h) = wpx none Tryd.prog 212 n35_c1 (Q19 (fun z3 z4b z4n z4c z5 h => n36 z3 z4b z4n z4c z5 Kn Ke0 Kr h) Ke0 Kr) ((((⟨g.v, []⟩ : Env).upd (some 3) (S x3)).upd (some 4) (.slice x4b x4n x4c)).upd (some 5) (.int .i64 x5)) h := by kernel_rfl
    exact e ▸ hS
  · intro e g' h' hq
    cases e with
    | normal =>
      have hq : D12 (fun z3 z4b z4n z4c z5 h => n36 z3 z4b z4n z4c z5 Kn Ke0 Kr h) g' h' := hq
      obtain ⟨y3, y4b, y4n, y4c, y5, hg', hq⟩ := D12_ok hq
      exact n36_ok y3 y4b y4n y4c y5 Kn Ke0 Kr g' hg' h' hq
    | _ => exact hq
def n34_L (Kn : T3) (Ke0 : T3) (Kr : T0) : Nat → (List UInt8) → (Option Addr) → Nat → Nat → Int → H → Prop
  | 0 => fun _ _ _ _ _ _ => False
  | N + 1 => fun x3 x4b x4n x4c x5 h => n35 x3 x4b x4n x4c x5 (fun z3 z4b z4n z4c z5 h => n34_L Kn Ke0 Kr N z3 z4b z4n z4c z5 h) Ke0 Kr h
abbrev n34 (x3 : List UInt8) (x4b : Option Addr) (x4n : Nat) (x4c : Nat) (x5 : Int) (Kn : T3) (Ke0 : T3) (Kr : T0) (h : H) : Prop := ∃ N, n34_L Kn Ke0 Kr N x3 x4b x4n x4c x5 h
theorem n34_ok (x3 : List UInt8) (x4b : Option Addr) (x4n : Nat) (x4c : Nat) (x5 : Int) (Kn : T3) (Ke0 : T3) (Kr : T0) (g : Env) (hg : E12 g x3 x4b x4n x4c x5) (h : H) (hS : n34 x3 x4b x4n x4c x5 Kn Ke0 Kr h) : wpC none Tryd.prog 212 n33_c1 (Q18 Kn Ke0 Kr) g h := by
  obtain ⟨N0, hS⟩ := hS
  refine wpC_loop' (x := n34_c1) (by kernel_rfl) (fun k g h => ∃ (x3 : List UInt8) (x4b : Option Addr) (x4n : Nat) (x4c : Nat) (x5 : Int), E12 g x3 x4b x4n x4c x5 ∧ n34_L Kn Ke0 Kr k x3 x4b x4n x4c x5 h) (fun g h hr => ?_) (fun N g h hr => ?_) N0 ⟨x3, x4b, x4n, x4c, x5, hg, hS⟩
  · obtain ⟨x3, x4b, x4n, x4c, x5, hg, hS⟩ := hr
    exact hS.elim
  · obtain ⟨x3, x4b, x4n, x4c, x5, hg, hS⟩ := hr
    refine (n35_ok x3 x4b x4n x4c x5 (fun z3 z4b z4n z4c z5 h => n34_L Kn Ke0 Kr N z3 z4b z4n z4c z5 h) Ke0 Kr g hg h hS).mono ?_
    intro e g' h' hq
    cases e with
    | normal => exact D12_ok (K := (fun z3 z4b z4n z4c z5 h => n34_L Kn Ke0 Kr N z3 z4b z4n z4c z5 h)) hq
    | _ => exact hq
abbrev n33 (x3 : List UInt8) (x4b : Option Addr) (x4n : Nat) (x4c : Nat) (x5 : Int) (Kn : T3) (Kr : T0) (h : H) : Prop := n34 x3 x4b x4n x4c x5 Kn Kn Kr h
theorem n33_ok (x3 : List UInt8) (x4b : Option Addr) (x4n : Nat) (x4c : Nat) (x5 : Int) (Kn : T3) (Kr : T0) (g : Env) (hg : E12 g x3 x4b x4n x4c x5) (h : H) (hS : n33 x3 x4b x4n x4c x5 Kn Kr h) : wpC none Tryd.prog 212 n32_c2 (Q17 Kn Kr) g h := by
  refine wpC_block' (id := 0) (x := n33_c1) (by kernel_rfl) (n34_ok x3 x4b x4n x4c x5 Kn Kn Kr g hg h hS) ?_
  intro e g' h' hq
  cases e <;> exact hq
def Q22 (Kn : T12) (Kr : T0) : XPost
  | .normal, g, h => D12 Kn g h
  | .ret, g, h => D0 Kr g h
  | _, _, _ => False
abbrev n32 (x3 : List UInt8) (x4b : Option Addr) (x4n : Nat) (x4c : Nat) (Kn : T3) (Kr : T0) (h : H) : Prop :=
  n33 x3 x4b x4n x4c (0 : Int) Kn Kr h
theorem n32_ok (x3 : List UInt8) (x4b : Option Addr) (x4n : Nat) (x4c : Nat) (Kn : T3) (Kr : T0) (g : Env) (hg : E3 g x3 x4b x4n x4c) (h : H) (hS : n32 x3 x4b x4n x4c Kn Kr h) : wpC none Tryd.prog 212 n5_c1 (Q17 Kn Kr) g h := by
  obtain ⟨hg3, hg4, hds⟩ := hg
  refine wpC_seq' (x := n32_c1) (y := n32_c2) (Q' := (Q22 (fun z3 z4b z4n z4c z5 h => n33 z3 z4b z4n z4c z5 Kn Kr h) Kr)) (by kernel_rfl) ?_ ?_
  · refine wpC_of_wpx (by kernel_rfl) (by kernel_rfl) (g' := ((⟨g.v, []⟩ : Env).upd (some 3) (S x3)).upd (some 4) (.slice x4b x4n x4c)) (by rw [env_ds hds, upd_self hg3, upd_self hg4]) ?_
    have e : (n32 x3 x4b x4n x4c Kn Kr h) = wpx none Tryd.prog 212 n32_c1 (Q22 (fun z3 z4b z4n z4c z5 h => n33 z3 z4b z4n z4c z5 Kn Kr h) Kr) (((⟨g.v, []⟩ : Env).upd (some 3) (S x3)).upd (some 4) (.slice x4b x4n x4c)) h := by kernel_rfl
    exact e ▸ hS
  · intro e g' h' hq
    cases e with
    | normal =>
      have hq : D12 (fun z3 z4b z4n z4c z5 h => n33 z3 z4b z4n z4c z5 Kn Kr h) g' h' := hq
      obtain ⟨y3, y4b, y4n, y4c, y5, hg', hq⟩ := D12_ok hq
      exact n33_ok y3 y4b y4n y4c y5 Kn Kr g' hg' h' hq
    | _ => exact hq
abbrev n5 (x3 : List UInt8) (x4b : Option Addr) (x4n : Nat) (x4c : Nat) (Kn : T0) (Kr : T0) (h : H) : Prop := n32 x3 x4b x4n x4c (fun z3 z4b z4n z4c h => n6 z3 z4b z4n z4c Kn Kr h) Kr h
theorem n5_ok (x3 : List UInt8) (x4b : Option Addr) (x4n : Nat) (x4c : Nat) (Kn : T0) (Kr : T0) (g : Env) (hg : E3 g x3 x4b x4n x4c) (h : H) (hS : n5 x3 x4b x4n x4c Kn Kr h) : wpC none Tryd.prog 212 n4_c2 (Q0 Kn Kr) g h := by
  refine wpC_seq' (x := n5_c1) (y := n5_c2) (by kernel_rfl) (n32_ok x3 x4b x4n x4c (fun z3 z4b z4n z4c h => n6 z3 z4b z4n z4c Kn Kr h) Kr g hg h hS) ?_
  intro e g' h' hq
  cases e with
  | normal =>
    have hq : D3 (fun z3 z4b z4n z4c h => n6 z3 z4b z4n z4c Kn Kr h) g' h' := hq
    obtain ⟨y3, y4b, y4n, y4c, hg', hq⟩ := D3_ok hq
    exact n6_ok y3 y4b y4n y4c Kn Kr g' hg' h' hq
  | _ => exact hq
abbrev n4 (x3 : List UInt8) (Kn : T0) (Kr : T0) (h : H) : Prop :=
  n5 x3 none 0 0 Kn Kr h
theorem n4_ok (x3 : List UInt8) (Kn : T0) (Kr : T0) (g : Env) (hg : E2 g x3) (h : H) (hS : n4 x3 Kn Kr h) : wpC none Tryd.prog 212 n3_c2 (Q0 Kn Kr) g h := by
  obtain ⟨hg3, hds⟩ := hg
  refine wpC_seq' (x := n4_c1) (y := n4_c2) (Q' := (Q17 (fun z3 z4b z4n z4c h => n5 z3 z4b z4n z4c Kn Kr h) Kr)) (by kernel_rfl) ?_ ?_
  · refine wpC_of_wpx (by kernel_rfl) (by kernel_rfl) (g' := (⟨g.v, []⟩ : Env).upd (some 3) (S x3)) (by rw [env_ds hds, upd_self hg3]) ?_
    have e : (n4 x3 Kn Kr h) = wpx none Tryd.prog 212 n4_c1 (Q17 (fun z3 z4b z4n z4c h => n5 z3 z4b z4n z4c Kn Kr h) Kr) ((⟨g.v, []⟩ : Env).upd (some 3) (S x3)) h := by kernel_rfl
    exact e ▸ hS
  · intro e g' h' hq
    cases e with
    | normal =>
      have hq : D3 (fun z3 z4b z4n z4c h => n5 z3 z4b z4n z4c Kn Kr h) g' h' := hq
      obtain ⟨y3, y4b, y4n, y4c, hg', hq⟩ := D3_ok hq
      exact n5_ok y3 y4b y4n y4c Kn Kr g' hg' h' hq
    | _ => exact hq
def Q23 (Kn : T2) (Kr : T0) : XPost
  | .normal, g, h => D2 Kn g h
  | .ret, g, h => D0 Kr g h
  | _, _, _ => False
abbrev n3 (x0b : Option Addr) (x0n : Nat) (x0c : Nat) (Kn : T0) (Kr : T0) (h : H) : Prop :=
  HCalls Tryd.prog 6 ⟨[(.slice x0b x0n x0c)]⟩ h fun v260 h261 => vStr v260 fun s262 => n4 s262 Kn Kr h261
theorem n3_ok (x0b : Option Addr) (x0n : Nat) (x0c : Nat) (Kn : T0) (Kr : T0) (g : Env) (hg : E1 g x0b x0n x0c) (h : H) (hS : n3 x0b x0n x0c Kn Kr h) : wpC none Tryd.prog 212 n2_c2 (Q0 Kn Kr) g h := by
  obtain ⟨hg0, hds⟩ := hg
  refine wpC_seq' (x := n3_c1) (y := n3_c2) (Q' := (Q23 (fun z3 h => n4 z3 Kn Kr h) Kr)) (by kernel_rfl) ?_ ?_
  · refine wpC_of_wpx (by kernel_rfl) (by kernel_rfl) (g' := (⟨g.v, []⟩ : Env).upd (some 0) (.slice x0b x0n x0c)) (by rw [env_ds hds, upd_self hg0]) ?_
    have e : (n3 x0b x0n x0c Kn Kr h) = wpx none Tryd.prog 212 n3_c1 (Q23 (fun z3 h => n4 z3 Kn Kr h) Kr) ((⟨g.v, []⟩ : Env).upd (some 0) (.slice x0b x0n x0c)) h := by kernel_rfl
    exact e ▸ hS
  · intro e g' h' hq
    cases e with
    | normal =>
      have hq : D2 (fun z3 h => n4 z3 Kn Kr h) g' h' := hq
      obtain ⟨y3, hg', hq⟩ := D2_ok hq
      exact n4_ok y3 Kn Kr g' hg' h' hq
    | _ => exact hq
def Q24 (Kn : T1) (Kr : T0) : XPost
  | .normal, g, h => D1 Kn g h
  | .ret, g, h => D0 Kr g h
  | _, _, _ => False
abbrev n2 (x0b : Option Addr) (x0n : Nat) (x0c : Nat) (Kn : T0) (Kr : T0) (h : H) : Prop :=
  Spl ((x0n : Int) > (300 : Int)) (HCalls Tryd.prog 9 ⟨[]⟩ h fun v263 h264 => vBool v263 fun b265 => cond b265 (Kr true h264) (Kr false h264)) (HCalls Tryd.prog 9 ⟨[]⟩ h fun v266 h267 => vBool v266 fun b268 => cond b268 (n3 x0b x0n x0c Kn Kr h267) (HCalls Tryd.prog 9 ⟨[]⟩ h267 fun v269 h270 => vBool v269 fun b271 => cond b271 (Kr true h270) (Kr false h270)))
theorem n2_ok (x0b : Option Addr) (x0n : Nat) (x0c : Nat) (Kn : T0) (Kr : T0) (g : Env) (hg : E1 g x0b x0n x0c) (h : H) (hS : n2 x0b x0n x0c Kn Kr h) : wpC none Tryd.prog 212 n1_c2 (Q0 Kn Kr) g h := by
  obtain ⟨hg0, hds⟩ := hg
  refine wpC_seq' (x := n2_c1) (y := n2_c2) (Q' := (Q24 (fun z0b z0n z0c h => n3 z0b z0n z0c Kn Kr h) Kr)) (by kernel_rfl) ?_ ?_
  · refine wpC_of_wpx (by kernel_rfl) (by kernel_rfl) (g' := (⟨g.v, []⟩ : Env).upd (some 0) (.slice x0b x0n x0c)) (by rw [env_ds hds, upd_self hg0]) ?_
    have e : (n2 x0b x0n x0c Kn Kr h) = wpx none Tryd.prog 212 n2_c1 (Q24 (fun z0b z0n z0c h => n3 z0b z0n z0c Kn Kr h) Kr) ((⟨g.v, []⟩ : Env).upd (some 0) (.slice x0b x0n x0c)) h := by kernel_rfl
    exact e ▸ hS
  · intro e g' h' hq
    cases e with
    | normal =>
      have hq : D1 (fun z0b z0n z0c h => n3 z0b z0n z0c Kn Kr h) g' h' := hq
      obtain ⟨y0b, y0n, y0c, hg', hq⟩ := D1_ok hq
      exact n3_ok y0b y0n y0c Kn Kr g' hg' h' hq
    | _ => exact hq
abbrev n1 (x0b : Option Addr) (x0n : Nat) (x0c : Nat) (Kn : T0) (Kr : T0) (h : H) : Prop :=
  n2 x0b x0n x0c Kn Kr h
theorem n1_ok (x0b : Option Addr) (x0n : Nat) (x0c : Nat) (Kn : T0) (Kr : T0) (g : Env) (hg : E1 g x0b x0n x0c) (h : H) (hS : n1 x0b x0n x0c Kn Kr h) : wpC none Tryd.prog 212 code (Q0 Kn Kr) g h := by
  obtain ⟨hg0, hds⟩ := hg
  refine wpC_seq' (x := n1_c1) (y := n1_c2) (Q' := (Q24 (fun z0b z0n z0c h => n2 z0b z0n z0c Kn Kr h) Kr)) (by kernel_rfl) ?_ ?_
  · refine wpC_of_wpx (by kernel_rfl) (by kernel_rfl) (g' := (⟨g.v, []⟩ : Env).upd (some 0) (.slice x0b x0n x0c)) (by rw [env_ds hds, upd_self hg0]) ?_
    have e : (n1 x0b x0n x0c Kn Kr h) = wpx none Tryd.prog 212 n1_c1 (Q24 (fun z0b z0n z0c h => n2 z0b z0n z0c Kn Kr h) Kr) ((⟨g.v, []⟩ : Env).upd (some 0) (.slice x0b x0n x0c)) h := by kernel_rfl
    exact e ▸ hS
  · intro e g' h' hq
    cases e with
    | normal =>
      have hq : D1 (fun z0b z0n z0c h => n2 z0b z0n z0c Kn Kr h) g' h' := hq
      obtain ⟨y0b, y0n, y0c, hg', hq⟩ := D1_ok hq
      exact n2_ok y0b y0n y0c Kn Kr g' hg' h' hq
    | _ => exact hq
/-- WHAT tympan/tympanlaw27.StarsNest ASKS -/
abbrev asks (x0b : Option Addr) (x0n : Nat) (x0c : Nat) (K : Value → H → Prop) (h : H) : Prop := n1 x0b x0n x0c (fun y2 h => K (.bool y2) h) (fun y2 h => K (.bool y2) h) h
theorem ok (x0b : Option Addr) (x0n : Nat) (x0c : Nat) (K : Value → H → Prop) (h : H) (hS : asks x0b x0n x0c K h) : HCalls Tryd.prog 5 ⟨[(.slice x0b x0n x0c)]⟩ h K := by
  refine calls_of_wpC (c := code) Tryd.func5 (by kernel_rfl) (Nat.le_of_ble_eq_true (by kernel_rfl)) ?_
  refine (n1_ok x0b x0n x0c (fun y2 h => K (.bool y2) h) (fun y2 h => K (.bool y2) h) (env0 [(.slice x0b x0n x0c)]) ⟨rfl, rfl⟩ h hS).mono ?_
  intro e g' h' hq
  cases e with
  | normal =>
    have hq : D0 (fun y2 h => K (.bool y2) h) g' h' := hq
    obtain ⟨y2, ⟨hg2, hd⟩, hq⟩ := D0_ok hq
    show leaveX g'.ds h' _
    rw [hd]
    show K (g'.v 2) h'
    rw [hg2]
    exact hq
  | ret =>
    have hq : D0 (fun y2 h => K (.bool y2) h) g' h' := hq
    obtain ⟨y2, ⟨hg2, hd⟩, hq⟩ := D0_ok hq
    show leaveX g'.ds h' _
    rw [hd]
    show K (g'.v 2) h'
    rw [hg2]
    exact hq
  | _ => exact hq
end Sx.l27_StarsNest
end Go.Proofs
