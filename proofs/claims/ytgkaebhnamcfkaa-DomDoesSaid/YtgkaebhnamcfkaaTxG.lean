/- The shallow forms of functions, printed by sh.py out of the translation; each with its proof. No condition. -/
import Derived.Test.YtgkaebhnamcfkaaShJ
import Derived.Test.YtgkaebhnamcfkaaProg
namespace Go.Proofs
open Go Go.Sh
set_option linter.unusedVariables false
set_option maxRecDepth 100000

/-! ### tympan/tympanlaw10.DomDoes -/
namespace Sx.l10_DomDoes
noncomputable def code : Code := bodyOf Try.f4
abbrev T0 := Bool → H → Prop
def E0 (g : Env) (x2 : Bool) : Prop := g.v 2 = (.bool x2) ∧ g.ds = []
def D0 (K : T0) (g : Env) (h : H) : Prop := nilDs g.ds (vBool (g.v 2) fun b1 => K b1 h)
theorem D0_ok {K : T0} {g : Env} {h : H} (hq : D0 K g h) : ∃ (x2 : Bool), E0 g x2 ∧ K x2 h := by
  obtain ⟨hd, hq⟩ := nilDs_ok hq
  obtain ⟨y3, e2, q4⟩ := vBool_ok hq
  exact ⟨y3, ⟨e2, hd⟩, q4⟩
def Q0 (Kn : T0) (Kr : T0) : XPost
  | .normal, g, h => D0 Kn g h
  | .ret, g, h => D0 Kr g h
  | _, _, _ => False
abbrev T1 := (Option Addr) → Nat → Nat → H → Prop
def E1 (g : Env) (x0b : Option Addr) (x0n : Nat) (x0c : Nat) : Prop := g.v 0 = (.slice x0b x0n x0c) ∧ g.ds = []
def D1 (K : T1) (g : Env) (h : H) : Prop := nilDs g.ds (vSlice (g.v 0) fun s5b s5n s5c => K s5b s5n s5c h)
theorem D1_ok {K : T1} {g : Env} {h : H} (hq : D1 K g h) : ∃ (x0b : Option Addr) (x0n : Nat) (x0c : Nat), E1 g x0b x0n x0c ∧ K x0b x0n x0c h := by
  obtain ⟨hd, hq⟩ := nilDs_ok hq
  obtain ⟨y7b, y7n, y7c, e6, q8⟩ := vSlice_ok hq
  exact ⟨y7b, y7n, y7c, ⟨e6, hd⟩, q8⟩
noncomputable def n1_c1 : Code := cFst code
noncomputable def n1_c2 : Code := cSnd code
noncomputable def n2_c1 : Code := cFst n1_c2
noncomputable def n2_c2 : Code := cSnd n1_c2
noncomputable def n3_c1 : Code := cFst n2_c2
noncomputable def n3_c2 : Code := cSnd n2_c2
abbrev T2 := (Option Addr) → Nat → Nat → (Option Addr) → H → Prop
def E2 (g : Env) (x0b : Option Addr) (x0n : Nat) (x0c : Nat) (x3 : Option Addr) : Prop := g.v 0 = (.slice x0b x0n x0c) ∧ g.v 3 = (.pointer x3) ∧ g.ds = []
def D2 (K : T2) (g : Env) (h : H) : Prop := nilDs g.ds (vSlice (g.v 0) fun s9b s9n s9c => vPtr (g.v 3) fun p10 => K s9b s9n s9c p10 h)
theorem D2_ok {K : T2} {g : Env} {h : H} (hq : D2 K g h) : ∃ (x0b : Option Addr) (x0n : Nat) (x0c : Nat) (x3 : Option Addr), E2 g x0b x0n x0c x3 ∧ K x0b x0n x0c x3 h := by
  obtain ⟨hd, hq⟩ := nilDs_ok hq
  obtain ⟨y12b, y12n, y12c, e11, q13⟩ := vSlice_ok hq
  obtain ⟨y15, e14, q16⟩ := vPtr_ok q13
  exact ⟨y12b, y12n, y12c, y15, ⟨e11, e14, hd⟩, q16⟩
noncomputable def n4_c1 : Code := cFst n3_c2
noncomputable def n4_c2 : Code := cSnd n3_c2
abbrev T3 := (Option Addr) → Nat → Nat → (Option Addr) → (Option Addr) → H → Prop
def E3 (g : Env) (x0b : Option Addr) (x0n : Nat) (x0c : Nat) (x3 : Option Addr) (x4 : Option Addr) : Prop := g.v 0 = (.slice x0b x0n x0c) ∧ g.v 3 = (.pointer x3) ∧ g.v 4 = (.pointer x4) ∧ g.ds = []
def D3 (K : T3) (g : Env) (h : H) : Prop := nilDs g.ds (vSlice (g.v 0) fun s17b s17n s17c => vPtr (g.v 3) fun p18 => vPtr (g.v 4) fun p19 => K s17b s17n s17c p18 p19 h)
theorem D3_ok {K : T3} {g : Env} {h : H} (hq : D3 K g h) : ∃ (x0b : Option Addr) (x0n : Nat) (x0c : Nat) (x3 : Option Addr) (x4 : Option Addr), E3 g x0b x0n x0c x3 x4 ∧ K x0b x0n x0c x3 x4 h := by
  obtain ⟨hd, hq⟩ := nilDs_ok hq
  obtain ⟨y21b, y21n, y21c, e20, q22⟩ := vSlice_ok hq
  obtain ⟨y24, e23, q25⟩ := vPtr_ok q22
  obtain ⟨y27, e26, q28⟩ := vPtr_ok q25
  exact ⟨y21b, y21n, y21c, y24, y27, ⟨e20, e23, e26, hd⟩, q28⟩
noncomputable def n5_c1 : Code := cFst n4_c2
noncomputable def n5_c2 : Code := cSnd n4_c2
abbrev T4 := (Option Addr) → Nat → Nat → (Option Addr) → (Option Addr) → Int → H → Prop
def E4 (g : Env) (x0b : Option Addr) (x0n : Nat) (x0c : Nat) (x3 : Option Addr) (x4 : Option Addr) (x5 : Int) : Prop := g.v 0 = (.slice x0b x0n x0c) ∧ g.v 3 = (.pointer x3) ∧ g.v 4 = (.pointer x4) ∧ g.v 5 = (.int .i64 x5) ∧ g.ds = []
def D4 (K : T4) (g : Env) (h : H) : Prop := nilDs g.ds (vSlice (g.v 0) fun s29b s29n s29c => vPtr (g.v 3) fun p30 => vPtr (g.v 4) fun p31 => vInt .i64 (g.v 5) fun i32 => K s29b s29n s29c p30 p31 i32 h)
theorem D4_ok {K : T4} {g : Env} {h : H} (hq : D4 K g h) : ∃ (x0b : Option Addr) (x0n : Nat) (x0c : Nat) (x3 : Option Addr) (x4 : Option Addr) (x5 : Int), E4 g x0b x0n x0c x3 x4 x5 ∧ K x0b x0n x0c x3 x4 x5 h := by
  obtain ⟨hd, hq⟩ := nilDs_ok hq
  obtain ⟨y34b, y34n, y34c, e33, q35⟩ := vSlice_ok hq
  obtain ⟨y37, e36, q38⟩ := vPtr_ok q35
  obtain ⟨y40, e39, q41⟩ := vPtr_ok q38
  obtain ⟨y43, e42, q44⟩ := vInt_ok q41
  exact ⟨y34b, y34n, y34c, y37, y40, y43, ⟨e33, e36, e39, e42, hd⟩, q44⟩
noncomputable def n6_c1 : Code := cFst n5_c2
noncomputable def n6_c2 : Code := cSnd n5_c2
abbrev T5 := H → Prop
def E5 (g : Env)  : Prop := g.ds = []
def D5 (K : T5) (g : Env) (h : H) : Prop := nilDs g.ds (K h)
theorem D5_ok {K : T5} {g : Env} {h : H} (hq : D5 K g h) : E5 g  ∧ K  h := by
  obtain ⟨hd, hq⟩ := nilDs_ok hq
  skip
  exact ⟨hd, hq⟩
abbrev n7  (Kn : T0) (Kr : T0) (h : H) : Prop :=
  Kr true h
theorem n7_ok  (Kn : T0) (Kr : T0) (g : Env) (hg : E5 g ) (h : H) (hS : n7  Kn Kr h) : wpC none Try.prog 153 n6_c2 (Q0 Kn Kr) g h := by
  have hds : g.ds = [] := hg
  refine wpC_of_wpx (by kernel_rfl) (by kernel_rfl) (g' := ⟨g.v, []⟩) (by rw [env_ds hds]) ?_
  have e : (n7  Kn Kr h) = wpx none Try.prog 153 n6_c2 (Q0 Kn Kr) (⟨g.v, []⟩) h := by kernel_rfl
  exact e ▸ hS
def Q1 (Kn : T5) (Kr : T0) : XPost
  | .normal, g, h => D5 Kn g h
  | .ret, g, h => D0 Kr g h
  | _, _, _ => False
noncomputable def n8_c1 : Code := cFst n6_c1
noncomputable def n8_c2 : Code := cSnd n6_c1
abbrev T6 := (Option Addr) → Nat → Nat → (Option Addr) → (Option Addr) → Int → Int → H → Prop
def E6 (g : Env) (x0b : Option Addr) (x0n : Nat) (x0c : Nat) (x3 : Option Addr) (x4 : Option Addr) (x5 : Int) (x6 : Int) : Prop := g.v 0 = (.slice x0b x0n x0c) ∧ g.v 3 = (.pointer x3) ∧ g.v 4 = (.pointer x4) ∧ g.v 5 = (.int .i64 x5) ∧ g.v 6 = (.int .i64 x6) ∧ g.ds = []
def D6 (K : T6) (g : Env) (h : H) : Prop := nilDs g.ds (vSlice (g.v 0) fun s45b s45n s45c => vPtr (g.v 3) fun p46 => vPtr (g.v 4) fun p47 => vInt .i64 (g.v 5) fun i48 => vInt .i64 (g.v 6) fun i49 => K s45b s45n s45c p46 p47 i48 i49 h)
theorem D6_ok {K : T6} {g : Env} {h : H} (hq : D6 K g h) : ∃ (x0b : Option Addr) (x0n : Nat) (x0c : Nat) (x3 : Option Addr) (x4 : Option Addr) (x5 : Int) (x6 : Int), E6 g x0b x0n x0c x3 x4 x5 x6 ∧ K x0b x0n x0c x3 x4 x5 x6 h := by
  obtain ⟨hd, hq⟩ := nilDs_ok hq
  obtain ⟨y51b, y51n, y51c, e50, q52⟩ := vSlice_ok hq
  obtain ⟨y54, e53, q55⟩ := vPtr_ok q52
  obtain ⟨y57, e56, q58⟩ := vPtr_ok q55
  obtain ⟨y60, e59, q61⟩ := vInt_ok q58
  obtain ⟨y63, e62, q64⟩ := vInt_ok q61
  exact ⟨y51b, y51n, y51c, y54, y57, y60, y63, ⟨e50, e53, e56, e59, e62, hd⟩, q64⟩
noncomputable def n9_c1 : Code := cFst n8_c2
def Q2 (Kn : T5) (Ke0 : T5) (Kr : T0) : XPost
  | .normal, g, h => D5 Kn g h
  | .ret, g, h => D0 Kr g h
  | .exit id, g, h => cond (Nat.beq id 0) (D5 Ke0 g h) (False)
  | _, _, _ => False
noncomputable def n10_c1 : Code := cFst n9_c1
def Q3 (Kn : T6) (Ke0 : T5) (Kr : T0) : XPost
  | .normal, g, h => D6 Kn g h
  | .ret, g, h => D0 Kr g h
  | .exit id, g, h => cond (Nat.beq id 0) (D5 Ke0 g h) (False)
  | _, _, _ => False
noncomputable def n11_c1 : Code := cFst n10_c1
noncomputable def n11_c2 : Code := cSnd n10_c1
noncomputable def n12_c1 : Code := cFst n11_c2
noncomputable def n12_c2 : Code := cSnd n11_c2
abbrev n13 (x0b : Option Addr) (x0n : Nat) (x0c : Nat) (x3 : Option Addr) (x4 : Option Addr) (x5 : Int) (x6 : Int) (Kn : T6) (Ke0 : T5) (Kr : T0) (h : H) : Prop :=
  Rng .i64 (x6 + (1 : Int)) ∧ (Kn x0b x0n x0c x3 x4 x5 (x6 + (1 : Int)) h)
theorem n13_ok (x0b : Option Addr) (x0n : Nat) (x0c : Nat) (x3 : Option Addr) (x4 : Option Addr) (x5 : Int) (x6 : Int) (Kn : T6) (Ke0 : T5) (Kr : T0) (g : Env) (hg : E6 g x0b x0n x0c x3 x4 x5 x6) (h : H) (hS : n13 x0b x0n x0c x3 x4 x5 x6 Kn Ke0 Kr h) : wpC none Try.prog 153 n12_c2 (Q3 Kn Ke0 Kr) g h := by
  obtain ⟨hg0, hg3, hg4, hg5, hg6, hds⟩ := hg
  refine wpC_of_wpx (by kernel_rfl) (by kernel_rfl) (g' := (((((⟨g.v, []⟩ : Env).upd (some 0) (.slice x0b x0n x0c)).upd (some 3) (.pointer x3)).upd (some 4) (.pointer x4)).upd (some 5) (.int .i64 x5)).upd (some 6) (.int .i64 x6)) (by rw [env_ds hds, upd_self hg0, upd_self hg3, upd_self hg4, upd_self hg5, upd_self hg6]) ?_
  have e : (n13 x0b x0n x0c x3 x4 x5 x6 Kn Ke0 Kr h) = wpx none Try.prog 153 n12_c2 (Q3 Kn Ke0 Kr) ((((((⟨g.v, []⟩ : Env).upd (some 0) (.slice x0b x0n x0c)).upd (some 3) (.pointer x3)).upd (some 4) (.pointer x4)).upd (some 5) (.int .i64 x5)).upd (some 6) (.int .i64 x6)) h := by kernel_rfl
  exact e ▸ hS
noncomputable def n14_c1 : Code := cFst n12_c1
def Q4 (Kn : T6) (Ke1 : T6) (Ke0 : T5) (Kr : T0) : XPost
  | .normal, g, h => D6 Kn g h
  | .ret, g, h => D0 Kr g h
  | .exit id, g, h => cond (Nat.beq id 1) (D6 Ke1 g h) (cond (Nat.beq id 0) (D5 Ke0 g h) (False))
  | _, _, _ => False
noncomputable def n15_c1 : Code := cFst n14_c1
noncomputable def n15_c2 : Code := cSnd n14_c1
abbrev T7 := (Option Addr) → Nat → Nat → (Option Addr) → (Option Addr) → Int → Int → Addr → H → Prop
def E7 (g : Env) (x0b : Option Addr) (x0n : Nat) (x0c : Nat) (x3 : Option Addr) (x4 : Option Addr) (x5 : Int) (x6 : Int) (x7 : Addr) : Prop := g.v 0 = (.slice x0b x0n x0c) ∧ g.v 3 = (.pointer x3) ∧ g.v 4 = (.pointer x4) ∧ g.v 5 = (.int .i64 x5) ∧ g.v 6 = (.int .i64 x6) ∧ g.v 7 = (.pointer (some x7)) ∧ g.ds = []
def D7 (K : T7) (g : Env) (h : H) : Prop := nilDs g.ds (vSlice (g.v 0) fun s65b s65n s65c => vPtr (g.v 3) fun p66 => vPtr (g.v 4) fun p67 => vInt .i64 (g.v 5) fun i68 => vInt .i64 (g.v 6) fun i69 => vAddr (g.v 7) fun a70 => K s65b s65n s65c p66 p67 i68 i69 a70 h)
theorem D7_ok {K : T7} {g : Env} {h : H} (hq : D7 K g h) : ∃ (x0b : Option Addr) (x0n : Nat) (x0c : Nat) (x3 : Option Addr) (x4 : Option Addr) (x5 : Int) (x6 : Int) (x7 : Addr), E7 g x0b x0n x0c x3 x4 x5 x6 x7 ∧ K x0b x0n x0c x3 x4 x5 x6 x7 h := by
  obtain ⟨hd, hq⟩ := nilDs_ok hq
  obtain ⟨y72b, y72n, y72c, e71, q73⟩ := vSlice_ok hq
  obtain ⟨y75, e74, q76⟩ := vPtr_ok q73
  obtain ⟨y78, e77, q79⟩ := vPtr_ok q76
  obtain ⟨y81, e80, q82⟩ := vInt_ok q79
  obtain ⟨y84, e83, q85⟩ := vInt_ok q82
  obtain ⟨y87, e86, q88⟩ := vAddr_ok q85
  exact ⟨y72b, y72n, y72c, y75, y78, y81, y84, y87, ⟨e71, e74, e77, e80, e83, e86, hd⟩, q88⟩
noncomputable def n16_c1 : Code := cFst n15_c2
noncomputable def n16_c2 : Code := cSnd n15_c2
noncomputable def n17_c1 : Code := cFst n16_c2
noncomputable def n17_c2 : Code := cSnd n16_c2
abbrev T8 := (Option Addr) → Nat → Nat → (Option Addr) → (Option Addr) → Int → Int → Bool → H → Prop
def E8 (g : Env) (x0b : Option Addr) (x0n : Nat) (x0c : Nat) (x3 : Option Addr) (x4 : Option Addr) (x5 : Int) (x6 : Int) (x8 : Bool) : Prop := g.v 0 = (.slice x0b x0n x0c) ∧ g.v 3 = (.pointer x3) ∧ g.v 4 = (.pointer x4) ∧ g.v 5 = (.int .i64 x5) ∧ g.v 6 = (.int .i64 x6) ∧ g.v 8 = (.bool x8) ∧ g.ds = []
def D8 (K : T8) (g : Env) (h : H) : Prop := nilDs g.ds (vSlice (g.v 0) fun s89b s89n s89c => vPtr (g.v 3) fun p90 => vPtr (g.v 4) fun p91 => vInt .i64 (g.v 5) fun i92 => vInt .i64 (g.v 6) fun i93 => vBool (g.v 8) fun b94 => K s89b s89n s89c p90 p91 i92 i93 b94 h)
theorem D8_ok {K : T8} {g : Env} {h : H} (hq : D8 K g h) : ∃ (x0b : Option Addr) (x0n : Nat) (x0c : Nat) (x3 : Option Addr) (x4 : Option Addr) (x5 : Int) (x6 : Int) (x8 : Bool), E8 g x0b x0n x0c x3 x4 x5 x6 x8 ∧ K x0b x0n x0c x3 x4 x5 x6 x8 h := by
  obtain ⟨hd, hq⟩ := nilDs_ok hq
  obtain ⟨y96b, y96n, y96c, e95, q97⟩ := vSlice_ok hq
  obtain ⟨y99, e98, q100⟩ := vPtr_ok q97
  obtain ⟨y102, e101, q103⟩ := vPtr_ok q100
  obtain ⟨y105, e104, q106⟩ := vInt_ok q103
  obtain ⟨y108, e107, q109⟩ := vInt_ok q106
  obtain ⟨y111, e110, q112⟩ := vBool_ok q109
  exact ⟨y96b, y96n, y96c, y99, y102, y105, y108, y111, ⟨e95, e98, e101, e104, e107, e110, hd⟩, q112⟩
abbrev n18 (x0b : Option Addr) (x0n : Nat) (x0c : Nat) (x3 : Option Addr) (x4 : Option Addr) (x5 : Int) (x6 : Int) (x8 : Bool) (Kn : T6) (Ke1 : T6) (Ke0 : T5) (Kr : T0) (h : H) : Prop :=
  cond x8 (Rng .i64 (x5 + (2 : Int)) ∧ (HCalls Try.prog 28 ⟨[(.pointer x3), (.pointer x4), (.int .i64 (x5 + (2 : Int)))]⟩ h fun v113 h114 => vBool v113 fun b115 => cond b115 (Kn x0b x0n x0c x3 x4 x5 x6 h114) (Kr false h114))) (Kr false h)
theorem n18_ok (x0b : Option Addr) (x0n : Nat) (x0c : Nat) (x3 : Option Addr) (x4 : Option Addr) (x5 : Int) (x6 : Int) (x8 : Bool) (Kn : T6) (Ke1 : T6) (Ke0 : T5) (Kr : T0) (g : Env) (hg : E8 g x0b x0n x0c x3 x4 x5 x6 x8) (h : H) (hS : n18 x0b x0n x0c x3 x4 x5 x6 x8 Kn Ke1 Ke0 Kr h) : wpC none Try.prog 153 n17_c2 (Q4 Kn Ke1 Ke0 Kr) g h := by
  obtain ⟨hg0, hg3, hg4, hg5, hg6, hg8, hds⟩ := hg
  refine wpC_of_wpx (by kernel_rfl) (by kernel_rfl) (g' := ((((((⟨g.v, []⟩ : Env).upd (some 0) (.slice x0b x0n x0c)).upd (some 3) (.pointer x3)).upd (some 4) (.pointer x4)).upd (some 5) (.int .i64 x5)).upd (some 6) (.int .i64 x6)).upd (some 8) (.bool x8)) (by rw [env_ds hds, upd_self hg0, upd_self hg3, upd_self hg4, upd_self hg5, upd_self hg6, upd_self hg8]) ?_
  have e : (n18 x0b x0n x0c x3 x4 x5 x6 x8 Kn Ke1 Ke0 Kr h) = wpx none Try.prog 153 n17_c2 (Q4 Kn Ke1 Ke0 Kr) (((((((⟨g.v, []⟩ : Env).upd (some 0) (.slice x0b x0n x0c)).upd (some 3) (.pointer x3)).upd (some 4) (.pointer x4)).upd (some 5) (.int .i64 x5)).upd (some 6) (.int .i64 x6)).upd (some 8) (.bool x8)) h := by kernel_rfl
  exact e ▸ hS
def Q5 (Kn : T8) (Ke1 : T6) (Ke0 : T5) (Kr : T0) : XPost
  | .normal, g, h => D8 Kn g h
  | .ret, g, h => D0 Kr g h
  | .exit id, g, h => cond (Nat.beq id 1) (D6 Ke1 g h) (cond (Nat.beq id 0) (D5 Ke0 g h) (False))
  | _, _, _ => False
noncomputable def n19_c1 : Code := cFst n17_c1
noncomputable def n19_c2 : Code := cSnd n17_c1
abbrev T9 := (Option Addr) → Nat → Nat → (Option Addr) → (Option Addr) → Int → Int → Addr → Int → H → Prop
def E9 (g : Env) (x0b : Option Addr) (x0n : Nat) (x0c : Nat) (x3 : Option Addr) (x4 : Option Addr) (x5 : Int) (x6 : Int) (x7 : Addr) (x35 : Int) : Prop := g.v 0 = (.slice x0b x0n x0c) ∧ g.v 3 = (.pointer x3) ∧ g.v 4 = (.pointer x4) ∧ g.v 5 = (.int .i64 x5) ∧ g.v 6 = (.int .i64 x6) ∧ g.v 7 = (.pointer (some x7)) ∧ g.v 35 = (.int .u8 x35) ∧ g.ds = []
def D9 (K : T9) (g : Env) (h : H) : Prop := nilDs g.ds (vSlice (g.v 0) fun s116b s116n s116c => vPtr (g.v 3) fun p117 => vPtr (g.v 4) fun p118 => vInt .i64 (g.v 5) fun i119 => vInt .i64 (g.v 6) fun i120 => vAddr (g.v 7) fun a121 => vInt .u8 (g.v 35) fun i122 => K s116b s116n s116c p117 p118 i119 i120 a121 i122 h)
theorem D9_ok {K : T9} {g : Env} {h : H} (hq : D9 K g h) : ∃ (x0b : Option Addr) (x0n : Nat) (x0c : Nat) (x3 : Option Addr) (x4 : Option Addr) (x5 : Int) (x6 : Int) (x7 : Addr) (x35 : Int), E9 g x0b x0n x0c x3 x4 x5 x6 x7 x35 ∧ K x0b x0n x0c x3 x4 x5 x6 x7 x35 h := by
  obtain ⟨hd, hq⟩ := nilDs_ok hq
  obtain ⟨y124b, y124n, y124c, e123, q125⟩ := vSlice_ok hq
  obtain ⟨y127, e126, q128⟩ := vPtr_ok q125
  obtain ⟨y130, e129, q131⟩ := vPtr_ok q128
  obtain ⟨y133, e132, q134⟩ := vInt_ok q131
  obtain ⟨y136, e135, q137⟩ := vInt_ok q134
  obtain ⟨y139, e138, q140⟩ := vAddr_ok q137
  obtain ⟨y142, e141, q143⟩ := vInt_ok q140
  exact ⟨y124b, y124n, y124c, y127, y130, y133, y136, y139, y142, ⟨e123, e126, e129, e132, e135, e138, e141, hd⟩, q143⟩
noncomputable def n20_c1 : Code := cFst n19_c2
def Q6 (Kn : T8) (Ke2 : T8) (Ke1 : T6) (Ke0 : T5) (Kr : T0) : XPost
  | .normal, g, h => D8 Kn g h
  | .ret, g, h => D0 Kr g h
  | .exit id, g, h => cond (Nat.beq id 2) (D8 Ke2 g h) (cond (Nat.beq id 1) (D6 Ke1 g h) (cond (Nat.beq id 0) (D5 Ke0 g h) (False)))
  | _, _, _ => False
noncomputable def n21_c1 : Code := cFst n20_c1
noncomputable def n21_c2 : Code := cSnd n20_c1
abbrev T10 := (Option Addr) → Nat → Nat → (Option Addr) → (Option Addr) → Int → Int → Addr → Int → Bool → H → Prop
def E10 (g : Env) (x0b : Option Addr) (x0n : Nat) (x0c : Nat) (x3 : Option Addr) (x4 : Option Addr) (x5 : Int) (x6 : Int) (x7 : Addr) (x35 : Int) (x57 : Bool) : Prop := g.v 0 = (.slice x0b x0n x0c) ∧ g.v 3 = (.pointer x3) ∧ g.v 4 = (.pointer x4) ∧ g.v 5 = (.int .i64 x5) ∧ g.v 6 = (.int .i64 x6) ∧ g.v 7 = (.pointer (some x7)) ∧ g.v 35 = (.int .u8 x35) ∧ g.v 57 = (.bool x57) ∧ g.ds = []
def D10 (K : T10) (g : Env) (h : H) : Prop := nilDs g.ds (vSlice (g.v 0) fun s144b s144n s144c => vPtr (g.v 3) fun p145 => vPtr (g.v 4) fun p146 => vInt .i64 (g.v 5) fun i147 => vInt .i64 (g.v 6) fun i148 => vAddr (g.v 7) fun a149 => vInt .u8 (g.v 35) fun i150 => vBool (g.v 57) fun b151 => K s144b s144n s144c p145 p146 i147 i148 a149 i150 b151 h)
theorem D10_ok {K : T10} {g : Env} {h : H} (hq : D10 K g h) : ∃ (x0b : Option Addr) (x0n : Nat) (x0c : Nat) (x3 : Option Addr) (x4 : Option Addr) (x5 : Int) (x6 : Int) (x7 : Addr) (x35 : Int) (x57 : Bool), E10 g x0b x0n x0c x3 x4 x5 x6 x7 x35 x57 ∧ K x0b x0n x0c x3 x4 x5 x6 x7 x35 x57 h := by
  obtain ⟨hd, hq⟩ := nilDs_ok hq
  obtain ⟨y153b, y153n, y153c, e152, q154⟩ := vSlice_ok hq
  obtain ⟨y156, e155, q157⟩ := vPtr_ok q154
  obtain ⟨y159, e158, q160⟩ := vPtr_ok q157
  obtain ⟨y162, e161, q163⟩ := vInt_ok q160
  obtain ⟨y165, e164, q166⟩ := vInt_ok q163
  obtain ⟨y168, e167, q169⟩ := vAddr_ok q166
  obtain ⟨y171, e170, q172⟩ := vInt_ok q169
  obtain ⟨y174, e173, q175⟩ := vBool_ok q172
  exact ⟨y153b, y153n, y153c, y156, y159, y162, y165, y168, y171, y174, ⟨e152, e155, e158, e161, e164, e167, e170, e173, hd⟩, q175⟩
noncomputable def n22_c1 : Code := cFst n21_c2
noncomputable def n22_c2 : Code := cSnd n21_c2
abbrev n23 (x0b : Option Addr) (x0n : Nat) (x0c : Nat) (x3 : Option Addr) (x4 : Option Addr) (x5 : Int) (x6 : Int) (x7 : Addr) (Kn : T8) (Ke2 : T8) (Ke1 : T6) (Ke0 : T5) (Kr : T0) (h : H) : Prop :=
  ∃ i176, cell h (((x7.add 1)).add 0) = some (.int .u8 i176) ∧ (∃ i177, cell h (((x7.add 1)).add 1) = some (.int .u8 i177) ∧ (∃ s178, cell h (((x7.add 1)).add 2) = some (S s178) ∧ (∃ s179b s179n s179c, cell h (((x7.add 1)).add 3) = some (.slice s179b s179n s179c) ∧ (∃ s180, cell h (((x7.add 1)).add 4) = some (S s180) ∧ (∃ s181b s181n s181c, cell h (((x7.add 1)).add 5) = some (.slice s181b s181n s181c) ∧ (newx h #[(.int .u8 i176), (.int .u8 i177), (S s178), (.slice s179b s179n s179c), (S s180), (.slice s181b s181n s181c)] 31 fun a182 h183 => HCalls Try.prog 13 ⟨[(.slice (some a182) 1 1)]⟩ h183 fun v184 h185 => vSlice v184 fun s186b s186n s186c => (0 ≤ (0 : Int) ∧ (0 : Int) < (s186n : Int)) ∧ (vSome s186b fun a187 => ∃ i188, cell h185 (((a187.add (Int.toNat (0 : Int) * 6))).add 0) = some (.int .u8 i188) ∧ (∃ i189, cell h185 (((a187.add (Int.toNat (0 : Int) * 6))).add 1) = some (.int .u8 i189) ∧ (∃ s190, cell h185 (((a187.add (Int.toNat (0 : Int) * 6))).add 2) = some (S s190) ∧ (∃ s191b s191n s191c, cell h185 (((a187.add (Int.toNat (0 : Int) * 6))).add 3) = some (.slice s191b s191n s191c) ∧ (∃ s192, cell h185 (((a187.add (Int.toNat (0 : Int) * 6))).add 4) = some (S s192) ∧ (∃ s193b s193n s193c, cell h185 (((a187.add (Int.toNat (0 : Int) * 6))).add 5) = some (.slice s193b s193n s193c) ∧ (HCalls Try.prog 10 ⟨[(.pointer x3), (.agg ⟨[(.int .u8 i188), (.int .u8 i189), (S s190), (.slice s191b s191n s191c), (S s192), (.slice s193b s193n s193c)]⟩)]⟩ h185 fun v194 h195 => vInt .i64 v194 fun i196 => ∃ i197, cell h195 (((x7.add 1)).add 0) = some (.int .u8 i197) ∧ (∃ i198, cell h195 (((x7.add 1)).add 1) = some (.int .u8 i198) ∧ (∃ s199, cell h195 (((x7.add 1)).add 2) = some (S s199) ∧ (∃ s200b s200n s200c, cell h195 (((x7.add 1)).add 3) = some (.slice s200b s200n s200c) ∧ (∃ s201, cell h195 (((x7.add 1)).add 4) = some (S s201) ∧ (∃ s202b s202n s202c, cell h195 (((x7.add 1)).add 5) = some (.slice s202b s202n s202c) ∧ (HCalls Try.prog 18 ⟨[(.pointer x4), (.agg ⟨[(.int .u8 i197), (.int .u8 i198), (S s199), (.slice s200b s200n s200c), (S s201), (.slice s202b s202n s202c)]⟩)]⟩ h195 fun v203 h204 => vInt .i64 v203 fun i205 => HCalls Try.prog 14 ⟨[(.slice s186b s186n s186c)]⟩ h204 fun v206 h207 => Spl (i196 = i205) (Kn x0b x0n x0c x3 x4 (if i205 > x5 then i205 else x5) x6 true h207) (Kn x0b x0n x0c x3 x4 (if i205 > x5 then i205 else x5) x6 false h207))))))))))))))))))))
theorem n23_ok (x0b : Option Addr) (x0n : Nat) (x0c : Nat) (x3 : Option Addr) (x4 : Option Addr) (x5 : Int) (x6 : Int) (x7 : Addr) (Kn : T8) (Ke2 : T8) (Ke1 : T6) (Ke0 : T5) (Kr : T0) (g : Env) (hg : E7 g x0b x0n x0c x3 x4 x5 x6 x7) (h : H) (hS : n23 x0b x0n x0c x3 x4 x5 x6 x7 Kn Ke2 Ke1 Ke0 Kr h) : wpC none Try.prog 153 n22_c1 (Q6 Kn Ke2 Ke1 Ke0 Kr) g h := by
  obtain ⟨hg0, hg3, hg4, hg5, hg6, hg7, hds⟩ := hg
  refine wpC_of_wpx (by kernel_rfl) (by kernel_rfl) (g' := ((((((⟨g.v, []⟩ : Env).upd (some 0) (.slice x0b x0n x0c)).upd (some 3) (.pointer x3)).upd (some 4) (.pointer x4)).upd (some 5) (.int .i64 x5)).upd (some 6) (.int .i64 x6)).upd (some 7) (.pointer (some x7))) (by rw [env_ds hds, upd_self hg0, upd_self hg3, upd_self hg4, upd_self hg5, upd_self hg6, upd_self hg7]) ?_
  have e : (n23 x0b x0n x0c x3 x4 x5 x6 x7 Kn Ke2 Ke1 Ke0 Kr h) = wpx none Try.prog 153 n22_c1 (Q6 Kn Ke2 Ke1 Ke0 Kr) (((((((⟨g.v, []⟩ : Env).upd (some 0) (.slice x0b x0n x0c)).upd (some 3) (.pointer x3)).upd (some 4) (.pointer x4)).upd (some 5) (.int .i64 x5)).upd (some 6) (.int .i64 x6)).upd (some 7) (.pointer (some x7))) h := by kernel_rfl
  exact e ▸ hS
noncomputable def n24_c1 : Code := cFst n22_c2
noncomputable def n24_c2 : Code := cSnd n22_c2
abbrev T11 := (Option Addr) → Nat → Nat → (Option Addr) → (Option Addr) → Int → Int → Addr → Int → Bool → H → Prop
def E11 (g : Env) (x0b : Option Addr) (x0n : Nat) (x0c : Nat) (x3 : Option Addr) (x4 : Option Addr) (x5 : Int) (x6 : Int) (x7 : Addr) (x35 : Int) (x81 : Bool) : Prop := g.v 0 = (.slice x0b x0n x0c) ∧ g.v 3 = (.pointer x3) ∧ g.v 4 = (.pointer x4) ∧ g.v 5 = (.int .i64 x5) ∧ g.v 6 = (.int .i64 x6) ∧ g.v 7 = (.pointer (some x7)) ∧ g.v 35 = (.int .u8 x35) ∧ g.v 81 = (.bool x81) ∧ g.ds = []
def D11 (K : T11) (g : Env) (h : H) : Prop := nilDs g.ds (vSlice (g.v 0) fun s208b s208n s208c => vPtr (g.v 3) fun p209 => vPtr (g.v 4) fun p210 => vInt .i64 (g.v 5) fun i211 => vInt .i64 (g.v 6) fun i212 => vAddr (g.v 7) fun a213 => vInt .u8 (g.v 35) fun i214 => vBool (g.v 81) fun b215 => K s208b s208n s208c p209 p210 i211 i212 a213 i214 b215 h)
theorem D11_ok {K : T11} {g : Env} {h : H} (hq : D11 K g h) : ∃ (x0b : Option Addr) (x0n : Nat) (x0c : Nat) (x3 : Option Addr) (x4 : Option Addr) (x5 : Int) (x6 : Int) (x7 : Addr) (x35 : Int) (x81 : Bool), E11 g x0b x0n x0c x3 x4 x5 x6 x7 x35 x81 ∧ K x0b x0n x0c x3 x4 x5 x6 x7 x35 x81 h := by
  obtain ⟨hd, hq⟩ := nilDs_ok hq
  obtain ⟨y217b, y217n, y217c, e216, q218⟩ := vSlice_ok hq
  obtain ⟨y220, e219, q221⟩ := vPtr_ok q218
  obtain ⟨y223, e222, q224⟩ := vPtr_ok q221
  obtain ⟨y226, e225, q227⟩ := vInt_ok q224
  obtain ⟨y229, e228, q230⟩ := vInt_ok q227
  obtain ⟨y232, e231, q233⟩ := vAddr_ok q230
  obtain ⟨y235, e234, q236⟩ := vInt_ok q233
  obtain ⟨y238, e237, q239⟩ := vBool_ok q236
  exact ⟨y217b, y217n, y217c, y220, y223, y226, y229, y232, y235, y238, ⟨e216, e219, e222, e225, e228, e231, e234, e237, hd⟩, q239⟩
noncomputable def n25_c1 : Code := cFst n24_c2
noncomputable def n25_c2 : Code := cSnd n24_c2
abbrev n26 (x0b : Option Addr) (x0n : Nat) (x0c : Nat) (x3 : Option Addr) (x4 : Option Addr) (x5 : Int) (x6 : Int) (x7 : Addr) (Kn : T8) (Ke2 : T8) (Ke1 : T6) (Ke0 : T5) (Kr : T0) (h : H) : Prop :=
  ∃ i240, cell h (x7.add 7) = some (.int .i64 i240) ∧ (HCalls Try.prog 19 ⟨[(.pointer x3), (.int .i64 i240)]⟩ h fun v241 h242 => vInt .i64 v241 fun i243 => ∃ i244, cell h242 (x7.add 7) = some (.int .i64 i244) ∧ (HCalls Try.prog 20 ⟨[(.pointer x4), (.int .i64 i244)]⟩ h242 fun v245 h246 => vInt .i64 v245 fun i247 => Spl (i243 = i247) (Kn x0b x0n x0c x3 x4 (if i247 > x5 then i247 else x5) x6 true h246) (Kn x0b x0n x0c x3 x4 (if i247 > x5 then i247 else x5) x6 false h246)))
theorem n26_ok (x0b : Option Addr) (x0n : Nat) (x0c : Nat) (x3 : Option Addr) (x4 : Option Addr) (x5 : Int) (x6 : Int) (x7 : Addr) (Kn : T8) (Ke2 : T8) (Ke1 : T6) (Ke0 : T5) (Kr : T0) (g : Env) (hg : E7 g x0b x0n x0c x3 x4 x5 x6 x7) (h : H) (hS : n26 x0b x0n x0c x3 x4 x5 x6 x7 Kn Ke2 Ke1 Ke0 Kr h) : wpC none Try.prog 153 n25_c1 (Q6 Kn Ke2 Ke1 Ke0 Kr) g h := by
  obtain ⟨hg0, hg3, hg4, hg5, hg6, hg7, hds⟩ := hg
  refine wpC_of_wpx (by kernel_rfl) (by kernel_rfl) (g' := ((((((⟨g.v, []⟩ : Env).upd (some 0) (.slice x0b x0n x0c)).upd (some 3) (.pointer x3)).upd (some 4) (.pointer x4)).upd (some 5) (.int .i64 x5)).upd (some 6) (.int .i64 x6)).upd (some 7) (.pointer (some x7))) (by rw [env_ds hds, upd_self hg0, upd_self hg3, upd_self hg4, upd_self hg5, upd_self hg6, upd_self hg7]) ?_
  have e : (n26 x0b x0n x0c x3 x4 x5 x6 x7 Kn Ke2 Ke1 Ke0 Kr h) = wpx none Try.prog 153 n25_c1 (Q6 Kn Ke2 Ke1 Ke0 Kr) (((((((⟨g.v, []⟩ : Env).upd (some 0) (.slice x0b x0n x0c)).upd (some 3) (.pointer x3)).upd (some 4) (.pointer x4)).upd (some 5) (.int .i64 x5)).upd (some 6) (.int .i64 x6)).upd (some 7) (.pointer (some x7))) h := by kernel_rfl
  exact e ▸ hS
noncomputable def n27_c1 : Code := cFst n25_c2
noncomputable def n27_c2 : Code := cSnd n25_c2
abbrev T12 := (Option Addr) → Nat → Nat → (Option Addr) → (Option Addr) → Int → Int → Addr → Int → Bool → H → Prop
def E12 (g : Env) (x0b : Option Addr) (x0n : Nat) (x0c : Nat) (x3 : Option Addr) (x4 : Option Addr) (x5 : Int) (x6 : Int) (x7 : Addr) (x35 : Int) (x97 : Bool) : Prop := g.v 0 = (.slice x0b x0n x0c) ∧ g.v 3 = (.pointer x3) ∧ g.v 4 = (.pointer x4) ∧ g.v 5 = (.int .i64 x5) ∧ g.v 6 = (.int .i64 x6) ∧ g.v 7 = (.pointer (some x7)) ∧ g.v 35 = (.int .u8 x35) ∧ g.v 97 = (.bool x97) ∧ g.ds = []
def D12 (K : T12) (g : Env) (h : H) : Prop := nilDs g.ds (vSlice (g.v 0) fun s248b s248n s248c => vPtr (g.v 3) fun p249 => vPtr (g.v 4) fun p250 => vInt .i64 (g.v 5) fun i251 => vInt .i64 (g.v 6) fun i252 => vAddr (g.v 7) fun a253 => vInt .u8 (g.v 35) fun i254 => vBool (g.v 97) fun b255 => K s248b s248n s248c p249 p250 i251 i252 a253 i254 b255 h)
theorem D12_ok {K : T12} {g : Env} {h : H} (hq : D12 K g h) : ∃ (x0b : Option Addr) (x0n : Nat) (x0c : Nat) (x3 : Option Addr) (x4 : Option Addr) (x5 : Int) (x6 : Int) (x7 : Addr) (x35 : Int) (x97 : Bool), E12 g x0b x0n x0c x3 x4 x5 x6 x7 x35 x97 ∧ K x0b x0n x0c x3 x4 x5 x6 x7 x35 x97 h := by
  obtain ⟨hd, hq⟩ := nilDs_ok hq
  obtain ⟨y257b, y257n, y257c, e256, q258⟩ := vSlice_ok hq
  obtain ⟨y260, e259, q261⟩ := vPtr_ok q258
  obtain ⟨y263, e262, q264⟩ := vPtr_ok q261
  obtain ⟨y266, e265, q267⟩ := vInt_ok q264
  obtain ⟨y269, e268, q270⟩ := vInt_ok q267
  obtain ⟨y272, e271, q273⟩ := vAddr_ok q270
  obtain ⟨y275, e274, q276⟩ := vInt_ok q273
  obtain ⟨y278, e277, q279⟩ := vBool_ok q276
  exact ⟨y257b, y257n, y257c, y260, y263, y266, y269, y272, y275, y278, ⟨e256, e259, e262, e265, e268, e271, e274, e277, hd⟩, q279⟩
noncomputable def n28_c1 : Code := cFst n27_c2
noncomputable def n28_c2 : Code := cSnd n27_c2
abbrev n29 (x0b : Option Addr) (x0n : Nat) (x0c : Nat) (x3 : Option Addr) (x4 : Option Addr) (x5 : Int) (x6 : Int) (x7 : Addr) (Kn : T8) (Ke2 : T8) (Ke1 : T6) (Ke0 : T5) (Kr : T0) (h : H) : Prop :=
  (((∃ i280, cell h (x7.add 7) = some (.int .i64 i280) ∧ (∃ i281, cell h (x7.add 8) = some (.int .i64 i281) ∧ (∃ i282, cell h (x7.add 9) = some (.int .i64 i282) ∧ (HCalls Try.prog 11 ⟨[(.pointer x3), (.int .i64 i280), (.int .i64 i281), (.int .i64 i282)]⟩ h fun v283 h284 => vBool v283 fun b285 => cond b285 (∃ i286, cell h284 (x7.add 7) = some (.int .i64 i286) ∧ (∃ i287, cell h284 (x7.add 8) = some (.int .i64 i287) ∧ (∃ i288, cell h284 (x7.add 9) = some (.int .i64 i288) ∧ (HCalls Try.prog 21 ⟨[(.pointer x4), (.int .i64 i286), (.int .i64 i287), (.int .i64 i288)]⟩ h284 fun v289 h290 => vBool v289 fun b291 => cond b291 (Kn x0b x0n x0c x3 x4 x5 x6 true h290) (Kn x0b x0n x0c x3 x4 x5 x6 false h290))))) (∃ i292, cell h284 (x7.add 7) = some (.int .i64 i292) ∧ (∃ i293, cell h284 (x7.add 8) = some (.int .i64 i293) ∧ (∃ i294, cell h284 (x7.add 9) = some (.int .i64 i294) ∧ (HCalls Try.prog 21 ⟨[(.pointer x4), (.int .i64 i292), (.int .i64 i293), (.int .i64 i294)]⟩ h284 fun v295 h296 => vBool v295 fun b297 => cond b297 (Kn x0b x0n x0c x3 x4 x5 x6 false h296) (Kn x0b x0n x0c x3 x4 x5 x6 true h296))))))))) ∧ (∃ i298, cell h (x7.add 7) = some (.int .i64 i298) ∧ (∃ i299, cell h (x7.add 8) = some (.int .i64 i299) ∧ (∃ i300, cell h (x7.add 9) = some (.int .i64 i300) ∧ (∃ i301, cell h (x7.add 9) = some (.int .i64 i301) ∧ (HCalls Try.prog 11 ⟨[(.pointer x3), (.int .i64 i298), (.int .i64 i299), (.int .i64 i300)]⟩ h fun v302 h303 => vBool v302 fun b304 => cond b304 (∃ i305, cell h303 (x7.add 7) = some (.int .i64 i305) ∧ (∃ i306, cell h303 (x7.add 8) = some (.int .i64 i306) ∧ (HCalls Try.prog 21 ⟨[(.pointer x4), (.int .i64 i305), (.int .i64 i306), (.int .i64 i301)]⟩ h303 fun v307 h308 => vBool v307 fun b309 => cond b309 (Kn x0b x0n x0c x3 x4 x5 x6 true h308) (Kn x0b x0n x0c x3 x4 x5 x6 false h308)))) (∃ i310, cell h303 (x7.add 7) = some (.int .i64 i310) ∧ (∃ i311, cell h303 (x7.add 8) = some (.int .i64 i311) ∧ (HCalls Try.prog 21 ⟨[(.pointer x4), (.int .i64 i310), (.int .i64 i311), (.int .i64 i301)]⟩ h303 fun v312 h313 => vBool v312 fun b314 => cond b314 (Kn x0b x0n x0c x3 x4 x5 x6 false h313) (Kn x0b x0n x0c x3 x4 x5 x6 true h313)))))))))) ∧ ((∃ i315, cell h (x7.add 7) = some (.int .i64 i315) ∧ (∃ i316, cell h (x7.add 8) = some (.int .i64 i316) ∧ (∃ i317, cell h (x7.add 9) = some (.int .i64 i317) ∧ (∃ i318, cell h (x7.add 8) = some (.int .i64 i318) ∧ (HCalls Try.prog 11 ⟨[(.pointer x3), (.int .i64 i315), (.int .i64 i316), (.int .i64 i317)]⟩ h fun v319 h320 => vBool v319 fun b321 => cond b321 (∃ i322, cell h320 (x7.add 7) = some (.int .i64 i322) ∧ (∃ i323, cell h320 (x7.add 9) = some (.int .i64 i323) ∧ (HCalls Try.prog 21 ⟨[(.pointer x4), (.int .i64 i322), (.int .i64 i318), (.int .i64 i323)]⟩ h320 fun v324 h325 => vBool v324 fun b326 => cond b326 (Kn x0b x0n x0c x3 x4 x5 x6 true h325) (Kn x0b x0n x0c x3 x4 x5 x6 false h325)))) (∃ i327, cell h320 (x7.add 7) = some (.int .i64 i327) ∧ (∃ i328, cell h320 (x7.add 9) = some (.int .i64 i328) ∧ (HCalls Try.prog 21 ⟨[(.pointer x4), (.int .i64 i327), (.int .i64 i318), (.int .i64 i328)]⟩ h320 fun v329 h330 => vBool v329 fun b331 => cond b331 (Kn x0b x0n x0c x3 x4 x5 x6 false h330) (Kn x0b x0n x0c x3 x4 x5 x6 true h330))))))))) ∧ (∃ i332, cell h (x7.add 7) = some (.int .i64 i332) ∧ (∃ i333, cell h (x7.add 8) = some (.int .i64 i333) ∧ (∃ i334, cell h (x7.add 9) = some (.int .i64 i334) ∧ (∃ i335, cell h (x7.add 8) = some (.int .i64 i335) ∧ (∃ i336, cell h (x7.add 9) = some (.int .i64 i336) ∧ (HCalls Try.prog 11 ⟨[(.pointer x3), (.int .i64 i332), (.int .i64 i333), (.int .i64 i334)]⟩ h fun v337 h338 => vBool v337 fun b339 => cond b339 (∃ i340, cell h338 (x7.add 7) = some (.int .i64 i340) ∧ (HCalls Try.prog 21 ⟨[(.pointer x4), (.int .i64 i340), (.int .i64 i335), (.int .i64 i336)]⟩ h338 fun v341 h342 => vBool v341 fun b343 => cond b343 (Kn x0b x0n x0c x3 x4 x5 x6 true h342) (Kn x0b x0n x0c x3 x4 x5 x6 false h342))) (∃ i344, cell h338 (x7.add 7) = some (.int .i64 i344) ∧ (HCalls Try.prog 21 ⟨[(.pointer x4), (.int .i64 i344), (.int .i64 i335), (.int .i64 i336)]⟩ h338 fun v345 h346 => vBool v345 fun b347 => cond b347 (Kn x0b x0n x0c x3 x4 x5 x6 false h346) (Kn x0b x0n x0c x3 x4 x5 x6 true h346))))))))))) ∧ (((∃ i348, cell h (x7.add 7) = some (.int .i64 i348) ∧ (∃ i349, cell h (x7.add 8) = some (.int .i64 i349) ∧ (∃ i350, cell h (x7.add 9) = some (.int .i64 i350) ∧ (∃ i351, cell h (x7.add 7) = some (.int .i64 i351) ∧ (HCalls Try.prog 11 ⟨[(.pointer x3), (.int .i64 i348), (.int .i64 i349), (.int .i64 i350)]⟩ h fun v352 h353 => vBool v352 fun b354 => cond b354 (∃ i355, cell h353 (x7.add 8) = some (.int .i64 i355) ∧ (∃ i356, cell h353 (x7.add 9) = some (.int .i64 i356) ∧ (HCalls Try.prog 21 ⟨[(.pointer x4), (.int .i64 i351), (.int .i64 i355), (.int .i64 i356)]⟩ h353 fun v357 h358 => vBool v357 fun b359 => cond b359 (Kn x0b x0n x0c x3 x4 x5 x6 true h358) (Kn x0b x0n x0c x3 x4 x5 x6 false h358)))) (∃ i360, cell h353 (x7.add 8) = some (.int .i64 i360) ∧ (∃ i361, cell h353 (x7.add 9) = some (.int .i64 i361) ∧ (HCalls Try.prog 21 ⟨[(.pointer x4), (.int .i64 i351), (.int .i64 i360), (.int .i64 i361)]⟩ h353 fun v362 h363 => vBool v362 fun b364 => cond b364 (Kn x0b x0n x0c x3 x4 x5 x6 false h363) (Kn x0b x0n x0c x3 x4 x5 x6 true h363))))))))) ∧ (∃ i365, cell h (x7.add 7) = some (.int .i64 i365) ∧ (∃ i366, cell h (x7.add 8) = some (.int .i64 i366) ∧ (∃ i367, cell h (x7.add 9) = some (.int .i64 i367) ∧ (∃ i368, cell h (x7.add 7) = some (.int .i64 i368) ∧ (∃ i369, cell h (x7.add 9) = some (.int .i64 i369) ∧ (HCalls Try.prog 11 ⟨[(.pointer x3), (.int .i64 i365), (.int .i64 i366), (.int .i64 i367)]⟩ h fun v370 h371 => vBool v370 fun b372 => cond b372 (∃ i373, cell h371 (x7.add 8) = some (.int .i64 i373) ∧ (HCalls Try.prog 21 ⟨[(.pointer x4), (.int .i64 i368), (.int .i64 i373), (.int .i64 i369)]⟩ h371 fun v374 h375 => vBool v374 fun b376 => cond b376 (Kn x0b x0n x0c x3 x4 x5 x6 true h375) (Kn x0b x0n x0c x3 x4 x5 x6 false h375))) (∃ i377, cell h371 (x7.add 8) = some (.int .i64 i377) ∧ (HCalls Try.prog 21 ⟨[(.pointer x4), (.int .i64 i368), (.int .i64 i377), (.int .i64 i369)]⟩ h371 fun v378 h379 => vBool v378 fun b380 => cond b380 (Kn x0b x0n x0c x3 x4 x5 x6 false h379) (Kn x0b x0n x0c x3 x4 x5 x6 true h379)))))))))) ∧ ((∃ i381, cell h (x7.add 7) = some (.int .i64 i381) ∧ (∃ i382, cell h (x7.add 8) = some (.int .i64 i382) ∧ (∃ i383, cell h (x7.add 9) = some (.int .i64 i383) ∧ (∃ i384, cell h (x7.add 7) = some (.int .i64 i384) ∧ (∃ i385, cell h (x7.add 8) = some (.int .i64 i385) ∧ (HCalls Try.prog 11 ⟨[(.pointer x3), (.int .i64 i381), (.int .i64 i382), (.int .i64 i383)]⟩ h fun v386 h387 => vBool v386 fun b388 => cond b388 (∃ i389, cell h387 (x7.add 9) = some (.int .i64 i389) ∧ (HCalls Try.prog 21 ⟨[(.pointer x4), (.int .i64 i384), (.int .i64 i385), (.int .i64 i389)]⟩ h387 fun v390 h391 => vBool v390 fun b392 => cond b392 (Kn x0b x0n x0c x3 x4 x5 x6 true h391) (Kn x0b x0n x0c x3 x4 x5 x6 false h391))) (∃ i393, cell h387 (x7.add 9) = some (.int .i64 i393) ∧ (HCalls Try.prog 21 ⟨[(.pointer x4), (.int .i64 i384), (.int .i64 i385), (.int .i64 i393)]⟩ h387 fun v394 h395 => vBool v394 fun b396 => cond b396 (Kn x0b x0n x0c x3 x4 x5 x6 false h395) (Kn x0b x0n x0c x3 x4 x5 x6 true h395))))))))) ∧ (∃ i397, cell h (x7.add 7) = some (.int .i64 i397) ∧ (∃ i398, cell h (x7.add 8) = some (.int .i64 i398) ∧ (∃ i399, cell h (x7.add 9) = some (.int .i64 i399) ∧ (∃ i400, cell h (x7.add 7) = some (.int .i64 i400) ∧ (∃ i401, cell h (x7.add 8) = some (.int .i64 i401) ∧ (∃ i402, cell h (x7.add 9) = some (.int .i64 i402) ∧ (HCalls Try.prog 11 ⟨[(.pointer x3), (.int .i64 i397), (.int .i64 i398), (.int .i64 i399)]⟩ h fun v403 h404 => vBool v403 fun b405 => cond b405 (HCalls Try.prog 21 ⟨[(.pointer x4), (.int .i64 i400), (.int .i64 i401), (.int .i64 i402)]⟩ h404 fun v406 h407 => vBool v406 fun b408 => cond b408 (Kn x0b x0n x0c x3 x4 x5 x6 true h407) (Kn x0b x0n x0c x3 x4 x5 x6 false h407)) (HCalls Try.prog 21 ⟨[(.pointer x4), (.int .i64 i400), (.int .i64 i401), (.int .i64 i402)]⟩ h404 fun v409 h410 => vBool v409 fun b411 => cond b411 (Kn x0b x0n x0c x3 x4 x5 x6 false h410) (Kn x0b x0n x0c x3 x4 x5 x6 true h410)))))))))))
theorem n29_ok (x0b : Option Addr) (x0n : Nat) (x0c : Nat) (x3 : Option Addr) (x4 : Option Addr) (x5 : Int) (x6 : Int) (x7 : Addr) (Kn : T8) (Ke2 : T8) (Ke1 : T6) (Ke0 : T5) (Kr : T0) (g : Env) (hg : E7 g x0b x0n x0c x3 x4 x5 x6 x7) (h : H) (hS : n29 x0b x0n x0c x3 x4 x5 x6 x7 Kn Ke2 Ke1 Ke0 Kr h) : wpC none Try.prog 153 n28_c1 (Q6 Kn Ke2 Ke1 Ke0 Kr) g h := by
  obtain ⟨hg0, hg3, hg4, hg5, hg6, hg7, hds⟩ := hg
  refine wpC_of_wpx (by kernel_rfl) (by kernel_rfl) (g' := ((((((⟨g.v, []⟩ : Env).upd (some 0) (.slice x0b x0n x0c)).upd (some 3) (.pointer x3)).upd (some 4) (.pointer x4)).upd (some 5) (.int .i64 x5)).upd (some 6) (.int .i64 x6)).upd (some 7) (.pointer (some x7))) (by rw [env_ds hds, upd_self hg0, upd_self hg3, upd_self hg4, upd_self hg5, upd_self hg6, upd_self hg7]) ?_
  have e : (n29 x0b x0n x0c x3 x4 x5 x6 x7 Kn Ke2 Ke1 Ke0 Kr h) = wpx none Try.prog 153 n28_c1 (Q6 Kn Ke2 Ke1 Ke0 Kr) (((((((⟨g.v, []⟩ : Env).upd (some 0) (.slice x0b x0n x0c)).upd (some 3) (.pointer x3)).upd (some 4) (.pointer x4)).upd (some 5) (.int .i64 x5)).upd (some 6) (.int .i64 x6)).upd (some 7) (.pointer (some x7))) h := by kernel_rfl
  exact e ▸ hS
noncomputable def n30_c1 : Code := cFst n28_c2
noncomputable def n30_c2 : Code := cSnd n28_c2
abbrev T13 := (Option Addr) → Nat → Nat → (Option Addr) → (Option Addr) → Int → Int → Addr → Int → Bool → H → Prop
def E13 (g : Env) (x0b : Option Addr) (x0n : Nat) (x0c : Nat) (x3 : Option Addr) (x4 : Option Addr) (x5 : Int) (x6 : Int) (x7 : Addr) (x35 : Int) (x117 : Bool) : Prop := g.v 0 = (.slice x0b x0n x0c) ∧ g.v 3 = (.pointer x3) ∧ g.v 4 = (.pointer x4) ∧ g.v 5 = (.int .i64 x5) ∧ g.v 6 = (.int .i64 x6) ∧ g.v 7 = (.pointer (some x7)) ∧ g.v 35 = (.int .u8 x35) ∧ g.v 117 = (.bool x117) ∧ g.ds = []
def D13 (K : T13) (g : Env) (h : H) : Prop := nilDs g.ds (vSlice (g.v 0) fun s412b s412n s412c => vPtr (g.v 3) fun p413 => vPtr (g.v 4) fun p414 => vInt .i64 (g.v 5) fun i415 => vInt .i64 (g.v 6) fun i416 => vAddr (g.v 7) fun a417 => vInt .u8 (g.v 35) fun i418 => vBool (g.v 117) fun b419 => K s412b s412n s412c p413 p414 i415 i416 a417 i418 b419 h)
theorem D13_ok {K : T13} {g : Env} {h : H} (hq : D13 K g h) : ∃ (x0b : Option Addr) (x0n : Nat) (x0c : Nat) (x3 : Option Addr) (x4 : Option Addr) (x5 : Int) (x6 : Int) (x7 : Addr) (x35 : Int) (x117 : Bool), E13 g x0b x0n x0c x3 x4 x5 x6 x7 x35 x117 ∧ K x0b x0n x0c x3 x4 x5 x6 x7 x35 x117 h := by
  obtain ⟨hd, hq⟩ := nilDs_ok hq
  obtain ⟨y421b, y421n, y421c, e420, q422⟩ := vSlice_ok hq
  obtain ⟨y424, e423, q425⟩ := vPtr_ok q422
  obtain ⟨y427, e426, q428⟩ := vPtr_ok q425
  obtain ⟨y430, e429, q431⟩ := vInt_ok q428
  obtain ⟨y433, e432, q434⟩ := vInt_ok q431
  obtain ⟨y436, e435, q437⟩ := vAddr_ok q434
  obtain ⟨y439, e438, q440⟩ := vInt_ok q437
  obtain ⟨y442, e441, q443⟩ := vBool_ok q440
  exact ⟨y421b, y421n, y421c, y424, y427, y430, y433, y436, y439, y442, ⟨e420, e423, e426, e429, e432, e435, e438, e441, hd⟩, q443⟩
noncomputable def n31_c1 : Code := cFst n30_c2
noncomputable def n31_c2 : Code := cSnd n30_c2
abbrev n32 (x0b : Option Addr) (x0n : Nat) (x0c : Nat) (x3 : Option Addr) (x4 : Option Addr) (x5 : Int) (x6 : Int) (x7 : Addr) (Kn : T8) (Ke2 : T8) (Ke1 : T6) (Ke0 : T5) (Kr : T0) (h : H) : Prop :=
  (∃ i444, cell h (x7.add 7) = some (.int .i64 i444) ∧ (HCalls Try.prog 22 ⟨[(.pointer x3), (.int .i64 i444)]⟩ h fun v445 h446 => vBool v445 fun b447 => cond b447 (∃ i448, cell h446 (x7.add 7) = some (.int .i64 i448) ∧ (HCalls Try.prog 23 ⟨[(.pointer x4), (.int .i64 i448)]⟩ h446 fun v449 h450 => vBool v449 fun b451 => cond b451 (Kn x0b x0n x0c x3 x4 x5 x6 true h450) (Kn x0b x0n x0c x3 x4 x5 x6 false h450))) (∃ i452, cell h446 (x7.add 7) = some (.int .i64 i452) ∧ (HCalls Try.prog 23 ⟨[(.pointer x4), (.int .i64 i452)]⟩ h446 fun v453 h454 => vBool v453 fun b455 => cond b455 (Kn x0b x0n x0c x3 x4 x5 x6 false h454) (Kn x0b x0n x0c x3 x4 x5 x6 true h454))))) ∧ (∃ i456, cell h (x7.add 7) = some (.int .i64 i456) ∧ (∃ i457, cell h (x7.add 7) = some (.int .i64 i457) ∧ (HCalls Try.prog 22 ⟨[(.pointer x3), (.int .i64 i456)]⟩ h fun v458 h459 => vBool v458 fun b460 => cond b460 (HCalls Try.prog 23 ⟨[(.pointer x4), (.int .i64 i457)]⟩ h459 fun v461 h462 => vBool v461 fun b463 => cond b463 (Kn x0b x0n x0c x3 x4 x5 x6 true h462) (Kn x0b x0n x0c x3 x4 x5 x6 false h462)) (HCalls Try.prog 23 ⟨[(.pointer x4), (.int .i64 i457)]⟩ h459 fun v464 h465 => vBool v464 fun b466 => cond b466 (Kn x0b x0n x0c x3 x4 x5 x6 false h465) (Kn x0b x0n x0c x3 x4 x5 x6 true h465)))))
theorem n32_ok (x0b : Option Addr) (x0n : Nat) (x0c : Nat) (x3 : Option Addr) (x4 : Option Addr) (x5 : Int) (x6 : Int) (x7 : Addr) (Kn : T8) (Ke2 : T8) (Ke1 : T6) (Ke0 : T5) (Kr : T0) (g : Env) (hg : E7 g x0b x0n x0c x3 x4 x5 x6 x7) (h : H) (hS : n32 x0b x0n x0c x3 x4 x5 x6 x7 Kn Ke2 Ke1 Ke0 Kr h) : wpC none Try.prog 153 n31_c1 (Q6 Kn Ke2 Ke1 Ke0 Kr) g h := by
  obtain ⟨hg0, hg3, hg4, hg5, hg6, hg7, hds⟩ := hg
  refine wpC_of_wpx (by kernel_rfl) (by kernel_rfl) (g' := ((((((⟨g.v, []⟩ : Env).upd (some 0) (.slice x0b x0n x0c)).upd (some 3) (.pointer x3)).upd (some 4) (.pointer x4)).upd (some 5) (.int .i64 x5)).upd (some 6) (.int .i64 x6)).upd (some 7) (.pointer (some x7))) (by rw [env_ds hds, upd_self hg0, upd_self hg3, upd_self hg4, upd_self hg5, upd_self hg6, upd_self hg7]) ?_
  have e : (n32 x0b x0n x0c x3 x4 x5 x6 x7 Kn Ke2 Ke1 Ke0 Kr h) = wpx none Try.prog 153 n31_c1 (Q6 Kn Ke2 Ke1 Ke0 Kr) (((((((⟨g.v, []⟩ : Env).upd (some 0) (.slice x0b x0n x0c)).upd (some 3) (.pointer x3)).upd (some 4) (.pointer x4)).upd (some 5) (.int .i64 x5)).upd (some 6) (.int .i64 x6)).upd (some 7) (.pointer (some x7))) h := by kernel_rfl
  exact e ▸ hS
noncomputable def n33_c1 : Code := cFst n31_c2
noncomputable def n33_c2 : Code := cSnd n31_c2
abbrev T14 := (Option Addr) → Nat → Nat → (Option Addr) → (Option Addr) → Int → Int → Addr → Bool → H → Prop
def E14 (g : Env) (x0b : Option Addr) (x0n : Nat) (x0c : Nat) (x3 : Option Addr) (x4 : Option Addr) (x5 : Int) (x6 : Int) (x7 : Addr) (x128 : Bool) : Prop := g.v 0 = (.slice x0b x0n x0c) ∧ g.v 3 = (.pointer x3) ∧ g.v 4 = (.pointer x4) ∧ g.v 5 = (.int .i64 x5) ∧ g.v 6 = (.int .i64 x6) ∧ g.v 7 = (.pointer (some x7)) ∧ g.v 128 = (.bool x128) ∧ g.ds = []
def D14 (K : T14) (g : Env) (h : H) : Prop := nilDs g.ds (vSlice (g.v 0) fun s467b s467n s467c => vPtr (g.v 3) fun p468 => vPtr (g.v 4) fun p469 => vInt .i64 (g.v 5) fun i470 => vInt .i64 (g.v 6) fun i471 => vAddr (g.v 7) fun a472 => vBool (g.v 128) fun b473 => K s467b s467n s467c p468 p469 i470 i471 a472 b473 h)
theorem D14_ok {K : T14} {g : Env} {h : H} (hq : D14 K g h) : ∃ (x0b : Option Addr) (x0n : Nat) (x0c : Nat) (x3 : Option Addr) (x4 : Option Addr) (x5 : Int) (x6 : Int) (x7 : Addr) (x128 : Bool), E14 g x0b x0n x0c x3 x4 x5 x6 x7 x128 ∧ K x0b x0n x0c x3 x4 x5 x6 x7 x128 h := by
  obtain ⟨hd, hq⟩ := nilDs_ok hq
  obtain ⟨y475b, y475n, y475c, e474, q476⟩ := vSlice_ok hq
  obtain ⟨y478, e477, q479⟩ := vPtr_ok q476
  obtain ⟨y481, e480, q482⟩ := vPtr_ok q479
  obtain ⟨y484, e483, q485⟩ := vInt_ok q482
  obtain ⟨y487, e486, q488⟩ := vInt_ok q485
  obtain ⟨y490, e489, q491⟩ := vAddr_ok q488
  obtain ⟨y493, e492, q494⟩ := vBool_ok q491
  exact ⟨y475b, y475n, y475c, y478, y481, y484, y487, y490, y493, ⟨e474, e477, e480, e483, e486, e489, e492, hd⟩, q494⟩
abbrev n34 (x0b : Option Addr) (x0n : Nat) (x0c : Nat) (x3 : Option Addr) (x4 : Option Addr) (x5 : Int) (x6 : Int) (x7 : Addr) (x128 : Bool) (Kn : T8) (Ke2 : T8) (Ke1 : T6) (Ke0 : T5) (Kr : T0) (h : H) : Prop :=
  cond x128 (((∃ i495, cell h (x7.add 7) = some (.int .i64 i495) ∧ (∃ i496, cell h (x7.add 8) = some (.int .i64 i496) ∧ (HCalls Try.prog 24 ⟨[(.pointer x3), (.int .i64 i495), (.int .i64 i496)]⟩ h fun v497 h498 => vBool v497 fun b499 => cond b499 (∃ i500, cell h498 (x7.add 7) = some (.int .i64 i500) ∧ (∃ i501, cell h498 (x7.add 8) = some (.int .i64 i501) ∧ (HCalls Try.prog 25 ⟨[(.pointer x4), (.int .i64 i500), (.int .i64 i501)]⟩ h498 fun v502 h503 => vBool v502 fun b504 => cond b504 (Kn x0b x0n x0c x3 x4 x5 x6 true h503) (Kn x0b x0n x0c x3 x4 x5 x6 false h503)))) (∃ i505, cell h498 (x7.add 7) = some (.int .i64 i505) ∧ (∃ i506, cell h498 (x7.add 8) = some (.int .i64 i506) ∧ (HCalls Try.prog 25 ⟨[(.pointer x4), (.int .i64 i505), (.int .i64 i506)]⟩ h498 fun v507 h508 => vBool v507 fun b509 => cond b509 (Kn x0b x0n x0c x3 x4 x5 x6 false h508) (Kn x0b x0n x0c x3 x4 x5 x6 true h508))))))) ∧ (∃ i510, cell h (x7.add 7) = some (.int .i64 i510) ∧ (∃ i511, cell h (x7.add 8) = some (.int .i64 i511) ∧ (∃ i512, cell h (x7.add 8) = some (.int .i64 i512) ∧ (HCalls Try.prog 24 ⟨[(.pointer x3), (.int .i64 i510), (.int .i64 i511)]⟩ h fun v513 h514 => vBool v513 fun b515 => cond b515 (∃ i516, cell h514 (x7.add 7) = some (.int .i64 i516) ∧ (HCalls Try.prog 25 ⟨[(.pointer x4), (.int .i64 i516), (.int .i64 i512)]⟩ h514 fun v517 h518 => vBool v517 fun b519 => cond b519 (Kn x0b x0n x0c x3 x4 x5 x6 true h518) (Kn x0b x0n x0c x3 x4 x5 x6 false h518))) (∃ i520, cell h514 (x7.add 7) = some (.int .i64 i520) ∧ (HCalls Try.prog 25 ⟨[(.pointer x4), (.int .i64 i520), (.int .i64 i512)]⟩ h514 fun v521 h522 => vBool v521 fun b523 => cond b523 (Kn x0b x0n x0c x3 x4 x5 x6 false h522) (Kn x0b x0n x0c x3 x4 x5 x6 true h522)))))))) ∧ ((∃ i524, cell h (x7.add 7) = some (.int .i64 i524) ∧ (∃ i525, cell h (x7.add 8) = some (.int .i64 i525) ∧ (∃ i526, cell h (x7.add 7) = some (.int .i64 i526) ∧ (HCalls Try.prog 24 ⟨[(.pointer x3), (.int .i64 i524), (.int .i64 i525)]⟩ h fun v527 h528 => vBool v527 fun b529 => cond b529 (∃ i530, cell h528 (x7.add 8) = some (.int .i64 i530) ∧ (HCalls Try.prog 25 ⟨[(.pointer x4), (.int .i64 i526), (.int .i64 i530)]⟩ h528 fun v531 h532 => vBool v531 fun b533 => cond b533 (Kn x0b x0n x0c x3 x4 x5 x6 true h532) (Kn x0b x0n x0c x3 x4 x5 x6 false h532))) (∃ i534, cell h528 (x7.add 8) = some (.int .i64 i534) ∧ (HCalls Try.prog 25 ⟨[(.pointer x4), (.int .i64 i526), (.int .i64 i534)]⟩ h528 fun v535 h536 => vBool v535 fun b537 => cond b537 (Kn x0b x0n x0c x3 x4 x5 x6 false h536) (Kn x0b x0n x0c x3 x4 x5 x6 true h536))))))) ∧ (∃ i538, cell h (x7.add 7) = some (.int .i64 i538) ∧ (∃ i539, cell h (x7.add 8) = some (.int .i64 i539) ∧ (∃ i540, cell h (x7.add 7) = some (.int .i64 i540) ∧ (∃ i541, cell h (x7.add 8) = some (.int .i64 i541) ∧ (HCalls Try.prog 24 ⟨[(.pointer x3), (.int .i64 i538), (.int .i64 i539)]⟩ h fun v542 h543 => vBool v542 fun b544 => cond b544 (HCalls Try.prog 25 ⟨[(.pointer x4), (.int .i64 i540), (.int .i64 i541)]⟩ h543 fun v545 h546 => vBool v545 fun b547 => cond b547 (Kn x0b x0n x0c x3 x4 x5 x6 true h546) (Kn x0b x0n x0c x3 x4 x5 x6 false h546)) (HCalls Try.prog 25 ⟨[(.pointer x4), (.int .i64 i540), (.int .i64 i541)]⟩ h543 fun v548 h549 => vBool v548 fun b550 => cond b550 (Kn x0b x0n x0c x3 x4 x5 x6 false h549) (Kn x0b x0n x0c x3 x4 x5 x6 true h549))))))))) ((((∃ i551, cell h (x7.add 7) = some (.int .i64 i551) ∧ (∃ i552, cell h (x7.add 8) = some (.int .i64 i552) ∧ (∃ s553, cell h ((x7.add 1).add 4) = some (S s553) ∧ (HCalls Try.prog 26 ⟨[(.pointer x3), (.int .i64 i551), (.int .i64 i552), (S s553)]⟩ h fun v554 h555 => vBool v554 fun b556 => cond b556 (∃ i557, cell h555 (x7.add 7) = some (.int .i64 i557) ∧ (∃ i558, cell h555 (x7.add 8) = some (.int .i64 i558) ∧ (∃ s559, cell h555 ((x7.add 1).add 4) = some (S s559) ∧ (HCalls Try.prog 27 ⟨[(.pointer x4), (.int .i64 i557), (.int .i64 i558), (S s559)]⟩ h555 fun v560 h561 => vBool v560 fun b562 => cond b562 (Rng .i64 (x5 + (1 : Int)) ∧ (Kn x0b x0n x0c x3 x4 (x5 + (1 : Int)) x6 true h561)) (Rng .i64 (x5 + (1 : Int)) ∧ (Kn x0b x0n x0c x3 x4 (x5 + (1 : Int)) x6 false h561)))))) (∃ i563, cell h555 (x7.add 7) = some (.int .i64 i563) ∧ (∃ i564, cell h555 (x7.add 8) = some (.int .i64 i564) ∧ (∃ s565, cell h555 ((x7.add 1).add 4) = some (S s565) ∧ (HCalls Try.prog 27 ⟨[(.pointer x4), (.int .i64 i563), (.int .i64 i564), (S s565)]⟩ h555 fun v566 h567 => vBool v566 fun b568 => cond b568 (Rng .i64 (x5 + (1 : Int)) ∧ (Kn x0b x0n x0c x3 x4 (x5 + (1 : Int)) x6 false h567)) (Rng .i64 (x5 + (1 : Int)) ∧ (Kn x0b x0n x0c x3 x4 (x5 + (1 : Int)) x6 true h567)))))))))) ∧ (∃ i569, cell h (x7.add 7) = some (.int .i64 i569) ∧ (∃ i570, cell h (x7.add 8) = some (.int .i64 i570) ∧ (∃ s571, cell h ((x7.add 1).add 4) = some (S s571) ∧ (∃ s572, cell h ((x7.add 1).add 4) = some (S s572) ∧ (HCalls Try.prog 26 ⟨[(.pointer x3), (.int .i64 i569), (.int .i64 i570), (S s571)]⟩ h fun v573 h574 => vBool v573 fun b575 => cond b575 (∃ i576, cell h574 (x7.add 7) = some (.int .i64 i576) ∧ (∃ i577, cell h574 (x7.add 8) = some (.int .i64 i577) ∧ (HCalls Try.prog 27 ⟨[(.pointer x4), (.int .i64 i576), (.int .i64 i577), (S s572)]⟩ h574 fun v578 h579 => vBool v578 fun b580 => cond b580 (Rng .i64 (x5 + (1 : Int)) ∧ (Kn x0b x0n x0c x3 x4 (x5 + (1 : Int)) x6 true h579)) (Rng .i64 (x5 + (1 : Int)) ∧ (Kn x0b x0n x0c x3 x4 (x5 + (1 : Int)) x6 false h579))))) (∃ i581, cell h574 (x7.add 7) = some (.int .i64 i581) ∧ (∃ i582, cell h574 (x7.add 8) = some (.int .i64 i582) ∧ (HCalls Try.prog 27 ⟨[(.pointer x4), (.int .i64 i581), (.int .i64 i582), (S s572)]⟩ h574 fun v583 h584 => vBool v583 fun b585 => cond b585 (Rng .i64 (x5 + (1 : Int)) ∧ (Kn x0b x0n x0c x3 x4 (x5 + (1 : Int)) x6 false h584)) (Rng .i64 (x5 + (1 : Int)) ∧ (Kn x0b x0n x0c x3 x4 (x5 + (1 : Int)) x6 true h584))))))))))) ∧ ((∃ i586, cell h (x7.add 7) = some (.int .i64 i586) ∧ (∃ i587, cell h (x7.add 8) = some (.int .i64 i587) ∧ (∃ s588, cell h ((x7.add 1).add 4) = some (S s588) ∧ (∃ i589, cell h (x7.add 8) = some (.int .i64 i589) ∧ (HCalls Try.prog 26 ⟨[(.pointer x3), (.int .i64 i586), (.int .i64 i587), (S s588)]⟩ h fun v590 h591 => vBool v590 fun b592 => cond b592 (∃ i593, cell h591 (x7.add 7) = some (.int .i64 i593) ∧ (∃ s594, cell h591 ((x7.add 1).add 4) = some (S s594) ∧ (HCalls Try.prog 27 ⟨[(.pointer x4), (.int .i64 i593), (.int .i64 i589), (S s594)]⟩ h591 fun v595 h596 => vBool v595 fun b597 => cond b597 (Rng .i64 (x5 + (1 : Int)) ∧ (Kn x0b x0n x0c x3 x4 (x5 + (1 : Int)) x6 true h596)) (Rng .i64 (x5 + (1 : Int)) ∧ (Kn x0b x0n x0c x3 x4 (x5 + (1 : Int)) x6 false h596))))) (∃ i598, cell h591 (x7.add 7) = some (.int .i64 i598) ∧ (∃ s599, cell h591 ((x7.add 1).add 4) = some (S s599) ∧ (HCalls Try.prog 27 ⟨[(.pointer x4), (.int .i64 i598), (.int .i64 i589), (S s599)]⟩ h591 fun v600 h601 => vBool v600 fun b602 => cond b602 (Rng .i64 (x5 + (1 : Int)) ∧ (Kn x0b x0n x0c x3 x4 (x5 + (1 : Int)) x6 false h601)) (Rng .i64 (x5 + (1 : Int)) ∧ (Kn x0b x0n x0c x3 x4 (x5 + (1 : Int)) x6 true h601)))))))))) ∧ (∃ i603, cell h (x7.add 7) = some (.int .i64 i603) ∧ (∃ i604, cell h (x7.add 8) = some (.int .i64 i604) ∧ (∃ s605, cell h ((x7.add 1).add 4) = some (S s605) ∧ (∃ i606, cell h (x7.add 8) = some (.int .i64 i606) ∧ (∃ s607, cell h ((x7.add 1).add 4) = some (S s607) ∧ (HCalls Try.prog 26 ⟨[(.pointer x3), (.int .i64 i603), (.int .i64 i604), (S s605)]⟩ h fun v608 h609 => vBool v608 fun b610 => cond b610 (∃ i611, cell h609 (x7.add 7) = some (.int .i64 i611) ∧ (HCalls Try.prog 27 ⟨[(.pointer x4), (.int .i64 i611), (.int .i64 i606), (S s607)]⟩ h609 fun v612 h613 => vBool v612 fun b614 => cond b614 (Rng .i64 (x5 + (1 : Int)) ∧ (Kn x0b x0n x0c x3 x4 (x5 + (1 : Int)) x6 true h613)) (Rng .i64 (x5 + (1 : Int)) ∧ (Kn x0b x0n x0c x3 x4 (x5 + (1 : Int)) x6 false h613)))) (∃ i615, cell h609 (x7.add 7) = some (.int .i64 i615) ∧ (HCalls Try.prog 27 ⟨[(.pointer x4), (.int .i64 i615), (.int .i64 i606), (S s607)]⟩ h609 fun v616 h617 => vBool v616 fun b618 => cond b618 (Rng .i64 (x5 + (1 : Int)) ∧ (Kn x0b x0n x0c x3 x4 (x5 + (1 : Int)) x6 false h617)) (Rng .i64 (x5 + (1 : Int)) ∧ (Kn x0b x0n x0c x3 x4 (x5 + (1 : Int)) x6 true h617)))))))))))) ∧ (((∃ i619, cell h (x7.add 7) = some (.int .i64 i619) ∧ (∃ i620, cell h (x7.add 8) = some (.int .i64 i620) ∧ (∃ s621, cell h ((x7.add 1).add 4) = some (S s621) ∧ (∃ i622, cell h (x7.add 7) = some (.int .i64 i622) ∧ (HCalls Try.prog 26 ⟨[(.pointer x3), (.int .i64 i619), (.int .i64 i620), (S s621)]⟩ h fun v623 h624 => vBool v623 fun b625 => cond b625 (∃ i626, cell h624 (x7.add 8) = some (.int .i64 i626) ∧ (∃ s627, cell h624 ((x7.add 1).add 4) = some (S s627) ∧ (HCalls Try.prog 27 ⟨[(.pointer x4), (.int .i64 i622), (.int .i64 i626), (S s627)]⟩ h624 fun v628 h629 => vBool v628 fun b630 => cond b630 (Rng .i64 (x5 + (1 : Int)) ∧ (Kn x0b x0n x0c x3 x4 (x5 + (1 : Int)) x6 true h629)) (Rng .i64 (x5 + (1 : Int)) ∧ (Kn x0b x0n x0c x3 x4 (x5 + (1 : Int)) x6 false h629))))) (∃ i631, cell h624 (x7.add 8) = some (.int .i64 i631) ∧ (∃ s632, cell h624 ((x7.add 1).add 4) = some (S s632) ∧ (HCalls Try.prog 27 ⟨[(.pointer x4), (.int .i64 i622), (.int .i64 i631), (S s632)]⟩ h624 fun v633 h634 => vBool v633 fun b635 => cond b635 (Rng .i64 (x5 + (1 : Int)) ∧ (Kn x0b x0n x0c x3 x4 (x5 + (1 : Int)) x6 false h634)) (Rng .i64 (x5 + (1 : Int)) ∧ (Kn x0b x0n x0c x3 x4 (x5 + (1 : Int)) x6 true h634)))))))))) ∧ (∃ i636, cell h (x7.add 7) = some (.int .i64 i636) ∧ (∃ i637, cell h (x7.add 8) = some (.int .i64 i637) ∧ (∃ s638, cell h ((x7.add 1).add 4) = some (S s638) ∧ (∃ i639, cell h (x7.add 7) = some (.int .i64 i639) ∧ (∃ s640, cell h ((x7.add 1).add 4) = some (S s640) ∧ (HCalls Try.prog 26 ⟨[(.pointer x3), (.int .i64 i636), (.int .i64 i637), (S s638)]⟩ h fun v641 h642 => vBool v641 fun b643 => cond b643 (∃ i644, cell h642 (x7.add 8) = some (.int .i64 i644) ∧ (HCalls Try.prog 27 ⟨[(.pointer x4), (.int .i64 i639), (.int .i64 i644), (S s640)]⟩ h642 fun v645 h646 => vBool v645 fun b647 => cond b647 (Rng .i64 (x5 + (1 : Int)) ∧ (Kn x0b x0n x0c x3 x4 (x5 + (1 : Int)) x6 true h646)) (Rng .i64 (x5 + (1 : Int)) ∧ (Kn x0b x0n x0c x3 x4 (x5 + (1 : Int)) x6 false h646)))) (∃ i648, cell h642 (x7.add 8) = some (.int .i64 i648) ∧ (HCalls Try.prog 27 ⟨[(.pointer x4), (.int .i64 i639), (.int .i64 i648), (S s640)]⟩ h642 fun v649 h650 => vBool v649 fun b651 => cond b651 (Rng .i64 (x5 + (1 : Int)) ∧ (Kn x0b x0n x0c x3 x4 (x5 + (1 : Int)) x6 false h650)) (Rng .i64 (x5 + (1 : Int)) ∧ (Kn x0b x0n x0c x3 x4 (x5 + (1 : Int)) x6 true h650))))))))))) ∧ ((∃ i652, cell h (x7.add 7) = some (.int .i64 i652) ∧ (∃ i653, cell h (x7.add 8) = some (.int .i64 i653) ∧ (∃ s654, cell h ((x7.add 1).add 4) = some (S s654) ∧ (∃ i655, cell h (x7.add 7) = some (.int .i64 i655) ∧ (∃ i656, cell h (x7.add 8) = some (.int .i64 i656) ∧ (HCalls Try.prog 26 ⟨[(.pointer x3), (.int .i64 i652), (.int .i64 i653), (S s654)]⟩ h fun v657 h658 => vBool v657 fun b659 => cond b659 (∃ s660, cell h658 ((x7.add 1).add 4) = some (S s660) ∧ (HCalls Try.prog 27 ⟨[(.pointer x4), (.int .i64 i655), (.int .i64 i656), (S s660)]⟩ h658 fun v661 h662 => vBool v661 fun b663 => cond b663 (Rng .i64 (x5 + (1 : Int)) ∧ (Kn x0b x0n x0c x3 x4 (x5 + (1 : Int)) x6 true h662)) (Rng .i64 (x5 + (1 : Int)) ∧ (Kn x0b x0n x0c x3 x4 (x5 + (1 : Int)) x6 false h662)))) (∃ s664, cell h658 ((x7.add 1).add 4) = some (S s664) ∧ (HCalls Try.prog 27 ⟨[(.pointer x4), (.int .i64 i655), (.int .i64 i656), (S s664)]⟩ h658 fun v665 h666 => vBool v665 fun b667 => cond b667 (Rng .i64 (x5 + (1 : Int)) ∧ (Kn x0b x0n x0c x3 x4 (x5 + (1 : Int)) x6 false h666)) (Rng .i64 (x5 + (1 : Int)) ∧ (Kn x0b x0n x0c x3 x4 (x5 + (1 : Int)) x6 true h666)))))))))) ∧ (∃ i668, cell h (x7.add 7) = some (.int .i64 i668) ∧ (∃ i669, cell h (x7.add 8) = some (.int .i64 i669) ∧ (∃ s670, cell h ((x7.add 1).add 4) = some (S s670) ∧ (∃ i671, cell h (x7.add 7) = some (.int .i64 i671) ∧ (∃ i672, cell h (x7.add 8) = some (.int .i64 i672) ∧ (∃ s673, cell h ((x7.add 1).add 4) = some (S s673) ∧ (HCalls Try.prog 26 ⟨[(.pointer x3), (.int .i64 i668), (.int .i64 i669), (S s670)]⟩ h fun v674 h675 => vBool v674 fun b676 => cond b676 (HCalls Try.prog 27 ⟨[(.pointer x4), (.int .i64 i671), (.int .i64 i672), (S s673)]⟩ h675 fun v677 h678 => vBool v677 fun b679 => cond b679 (Rng .i64 (x5 + (1 : Int)) ∧ (Kn x0b x0n x0c x3 x4 (x5 + (1 : Int)) x6 true h678)) (Rng .i64 (x5 + (1 : Int)) ∧ (Kn x0b x0n x0c x3 x4 (x5 + (1 : Int)) x6 false h678))) (HCalls Try.prog 27 ⟨[(.pointer x4), (.int .i64 i671), (.int .i64 i672), (S s673)]⟩ h675 fun v680 h681 => vBool v680 fun b682 => cond b682 (Rng .i64 (x5 + (1 : Int)) ∧ (Kn x0b x0n x0c x3 x4 (x5 + (1 : Int)) x6 false h681)) (Rng .i64 (x5 + (1 : Int)) ∧ (Kn x0b x0n x0c x3 x4 (x5 + (1 : Int)) x6 true h681)))))))))))))
theorem n34_ok (x0b : Option Addr) (x0n : Nat) (x0c : Nat) (x3 : Option Addr) (x4 : Option Addr) (x5 : Int) (x6 : Int) (x7 : Addr) (x128 : Bool) (Kn : T8) (Ke2 : T8) (Ke1 : T6) (Ke0 : T5) (Kr : T0) (g : Env) (hg : E14 g x0b x0n x0c x3 x4 x5 x6 x7 x128) (h : H) (hS : n34 x0b x0n x0c x3 x4 x5 x6 x7 x128 Kn Ke2 Ke1 Ke0 Kr h) : wpC none Try.prog 153 n33_c2 (Q6 Kn Ke2 Ke1 Ke0 Kr) g h := by
  obtain ⟨hg0, hg3, hg4, hg5, hg6, hg7, hg128, hds⟩ := hg
  refine wpC_of_wpx (by kernel_rfl) (by kernel_rfl) (g' := (((((((⟨g.v, []⟩ : Env).upd (some 0) (.slice x0b x0n x0c)).upd (some 3) (.pointer x3)).upd (some 4) (.pointer x4)).upd (some 5) (.int .i64 x5)).upd (some 6) (.int .i64 x6)).upd (some 7) (.pointer (some x7))).upd (some 128) (.bool x128)) (by rw [env_ds hds, upd_self hg0, upd_self hg3, upd_self hg4, upd_self hg5, upd_self hg6, upd_self hg7, upd_self hg128]) ?_
  have e : (n34 x0b x0n x0c x3 x4 x5 x6 x7 x128 Kn Ke2 Ke1 Ke0 Kr h) = wpx none Try.prog 153 n33_c2 (Q6 Kn Ke2 Ke1 Ke0 Kr) ((((((((⟨g.v, []⟩ : Env).upd (some 0) (.slice x0b x0n x0c)).upd (some 3) (.pointer x3)).upd (some 4) (.pointer x4)).upd (some 5) (.int .i64 x5)).upd (some 6) (.int .i64 x6)).upd (some 7) (.pointer (some x7))).upd (some 128) (.bool x128)) h := by kernel_rfl
  exact e ▸ hS
def Q7 (Kn : T14) (Ke2 : T8) (Ke1 : T6) (Ke0 : T5) (Kr : T0) : XPost
  | .normal, g, h => D14 Kn g h
  | .ret, g, h => D0 Kr g h
  | .exit id, g, h => cond (Nat.beq id 2) (D8 Ke2 g h) (cond (Nat.beq id 1) (D6 Ke1 g h) (cond (Nat.beq id 0) (D5 Ke0 g h) (False)))
  | _, _, _ => False
abbrev n33 (x0b : Option Addr) (x0n : Nat) (x0c : Nat) (x3 : Option Addr) (x4 : Option Addr) (x5 : Int) (x6 : Int) (x7 : Addr) (x35 : Int) (Kn : T8) (Ke2 : T8) (Ke1 : T6) (Ke0 : T5) (Kr : T0) (h : H) : Prop :=
  Spl (x35 = (6 : Int)) (n34 x0b x0n x0c x3 x4 x5 x6 x7 true Kn Ke2 Ke1 Ke0 Kr h) (n34 x0b x0n x0c x3 x4 x5 x6 x7 false Kn Ke2 Ke1 Ke0 Kr h)
theorem n33_ok (x0b : Option Addr) (x0n : Nat) (x0c : Nat) (x3 : Option Addr) (x4 : Option Addr) (x5 : Int) (x6 : Int) (x7 : Addr) (x35 : Int) (Kn : T8) (Ke2 : T8) (Ke1 : T6) (Ke0 : T5) (Kr : T0) (g : Env) (hg : E9 g x0b x0n x0c x3 x4 x5 x6 x7 x35) (h : H) (hS : n33 x0b x0n x0c x3 x4 x5 x6 x7 x35 Kn Ke2 Ke1 Ke0 Kr h) : wpC none Try.prog 153 n31_c2 (Q6 Kn Ke2 Ke1 Ke0 Kr) g h := by
  obtain ⟨hg0, hg3, hg4, hg5, hg6, hg7, hg35, hds⟩ := hg
  refine wpC_seq' (x := n33_c1) (y := n33_c2) (Q' := (Q7 (fun z0b z0n z0c z3 z4 z5 z6 z7 z128 h => n34 z0b z0n z0c z3 z4 z5 z6 z7 z128 Kn Ke2 Ke1 Ke0 Kr h) Ke2 Ke1 Ke0 Kr)) (by kernel_rfl) ?_ ?_
  · refine wpC_of_wpx (by kernel_rfl) (by kernel_rfl) (g' := (((((((⟨g.v, []⟩ : Env).upd (some 0) (.slice x0b x0n x0c)).upd (some 3) (.pointer x3)).upd (some 4) (.pointer x4)).upd (some 5) (.int .i64 x5)).upd (some 6) (.int .i64 x6)).upd (some 7) (.pointer (some x7))).upd (some 35) (.int .u8 x35)) (by rw [env_ds hds, upd_self hg0, upd_self hg3, upd_self hg4, upd_self hg5, upd_self hg6, upd_self hg7, upd_self hg35]) ?_
    have e : (n33 x0b x0n x0c x3 x4 x5 x6 x7 x35 Kn Ke2 Ke1 Ke0 Kr h) = wpx none Try.prog 153 n33_c1 (Q7 (fun z0b z0n z0c z3 z4 z5 z6 z7 z128 h => n34 z0b z0n z0c z3 z4 z5 z6 z7 z128 Kn Ke2 Ke1 Ke0 Kr h) Ke2 Ke1 Ke0 Kr) ((((((((⟨g.v, []⟩ : Env).upd (some 0) (.slice x0b x0n x0c)).upd (some 3) (.pointer x3)).upd (some 4) (.pointer x4)).upd (some 5) (.int .i64 x5)).upd (some 6) (.int .i64 x6)).upd (some 7) (.pointer (some x7))).upd (some 35) (.int .u8 x35)) h := by kernel_rfl
    exact e ▸ hS
  · intro e g' h' hq
    cases e with
    | normal =>
      have hq : D14 (fun z0b z0n z0c z3 z4 z5 z6 z7 z128 h => n34 z0b z0n z0c z3 z4 z5 z6 z7 z128 Kn Ke2 Ke1 Ke0 Kr h) g' h' := hq
      obtain ⟨y0b, y0n, y0c, y3, y4, y5, y6, y7, y128, hg', hq⟩ := D14_ok hq
      exact n34_ok y0b y0n y0c y3 y4 y5 y6 y7 y128 Kn Ke2 Ke1 Ke0 Kr g' hg' h' hq
    | _ => exact hq
abbrev n31 (x0b : Option Addr) (x0n : Nat) (x0c : Nat) (x3 : Option Addr) (x4 : Option Addr) (x5 : Int) (x6 : Int) (x7 : Addr) (x35 : Int) (x117 : Bool) (Kn : T8) (Ke2 : T8) (Ke1 : T6) (Ke0 : T5) (Kr : T0) (h : H) : Prop := cond x117 (n32 x0b x0n x0c x3 x4 x5 x6 x7 Kn Ke2 Ke1 Ke0 Kr h) (n33 x0b x0n x0c x3 x4 x5 x6 x7 x35 Kn Ke2 Ke1 Ke0 Kr h)
theorem n31_ok (x0b : Option Addr) (x0n : Nat) (x0c : Nat) (x3 : Option Addr) (x4 : Option Addr) (x5 : Int) (x6 : Int) (x7 : Addr) (x35 : Int) (x117 : Bool) (Kn : T8) (Ke2 : T8) (Ke1 : T6) (Ke0 : T5) (Kr : T0) (g : Env) (hg : E13 g x0b x0n x0c x3 x4 x5 x6 x7 x35 x117) (h : H) (hS : n31 x0b x0n x0c x3 x4 x5 x6 x7 x35 x117 Kn Ke2 Ke1 Ke0 Kr h) : wpC none Try.prog 153 n30_c2 (Q6 Kn Ke2 Ke1 Ke0 Kr) g h := by
  obtain ⟨hg0, hg3, hg4, hg5, hg6, hg7, hg35, hg117, hds⟩ := hg
  have hx : evalE 153 g (.tmp 117) = .bool x117 := by
    show cond (Nat.blt 117 153) (g.v 117) undef = _
    rw [hg117]; rfl
  unfold n31 at hS
  refine wpC_cond' (o := .tmp 117) (x := n31_c1) (y := n31_c2) (by kernel_rfl) hx (fun hb => ?_) (fun hb => ?_)
  · subst hb
    exact n32_ok x0b x0n x0c x3 x4 x5 x6 x7 Kn Ke2 Ke1 Ke0 Kr g ⟨hg0, hg3, hg4, hg5, hg6, hg7, hds⟩ h hS
  · subst hb
    exact n33_ok x0b x0n x0c x3 x4 x5 x6 x7 x35 Kn Ke2 Ke1 Ke0 Kr g ⟨hg0, hg3, hg4, hg5, hg6, hg7, hg35, hds⟩ h hS
def Q8 (Kn : T13) (Ke2 : T8) (Ke1 : T6) (Ke0 : T5) (Kr : T0) : XPost
  | .normal, g, h => D13 Kn g h
  | .ret, g, h => D0 Kr g h
  | .exit id, g, h => cond (Nat.beq id 2) (D8 Ke2 g h) (cond (Nat.beq id 1) (D6 Ke1 g h) (cond (Nat.beq id 0) (D5 Ke0 g h) (False)))
  | _, _, _ => False
abbrev n30 (x0b : Option Addr) (x0n : Nat) (x0c : Nat) (x3 : Option Addr) (x4 : Option Addr) (x5 : Int) (x6 : Int) (x7 : Addr) (x35 : Int) (Kn : T8) (Ke2 : T8) (Ke1 : T6) (Ke0 : T5) (Kr : T0) (h : H) : Prop :=
  Spl (x35 = (5 : Int)) (n31 x0b x0n x0c x3 x4 x5 x6 x7 x35 true Kn Ke2 Ke1 Ke0 Kr h) (n31 x0b x0n x0c x3 x4 x5 x6 x7 x35 false Kn Ke2 Ke1 Ke0 Kr h)
theorem n30_ok (x0b : Option Addr) (x0n : Nat) (x0c : Nat) (x3 : Option Addr) (x4 : Option Addr) (x5 : Int) (x6 : Int) (x7 : Addr) (x35 : Int) (Kn : T8) (Ke2 : T8) (Ke1 : T6) (Ke0 : T5) (Kr : T0) (g : Env) (hg : E9 g x0b x0n x0c x3 x4 x5 x6 x7 x35) (h : H) (hS : n30 x0b x0n x0c x3 x4 x5 x6 x7 x35 Kn Ke2 Ke1 Ke0 Kr h) : wpC none Try.prog 153 n28_c2 (Q6 Kn Ke2 Ke1 Ke0 Kr) g h := by
  obtain ⟨hg0, hg3, hg4, hg5, hg6, hg7, hg35, hds⟩ := hg
  refine wpC_seq' (x := n30_c1) (y := n30_c2) (Q' := (Q8 (fun z0b z0n z0c z3 z4 z5 z6 z7 z35 z117 h => n31 z0b z0n z0c z3 z4 z5 z6 z7 z35 z117 Kn Ke2 Ke1 Ke0 Kr h) Ke2 Ke1 Ke0 Kr)) (by kernel_rfl) ?_ ?_
  · refine wpC_of_wpx (by kernel_rfl) (by kernel_rfl) (g' := (((((((⟨g.v, []⟩ : Env).upd (some 0) (.slice x0b x0n x0c)).upd (some 3) (.pointer x3)).upd (some 4) (.pointer x4)).upd (some 5) (.int .i64 x5)).upd (some 6) (.int .i64 x6)).upd (some 7) (.pointer (some x7))).upd (some 35) (.int .u8 x35)) (by rw [env_ds hds, upd_self hg0, upd_self hg3, upd_self hg4, upd_self hg5, upd_self hg6, upd_self hg7, upd_self hg35]) ?_
    have e : (n30 x0b x0n x0c x3 x4 x5 x6 x7 x35 Kn Ke2 Ke1 Ke0 Kr h) = wpx none Try.prog 153 n30_c1 (Q8 (fun z0b z0n z0c z3 z4 z5 z6 z7 z35 z117 h => n31 z0b z0n z0c z3 z4 z5 z6 z7 z35 z117 Kn Ke2 Ke1 Ke0 Kr h) Ke2 Ke1 Ke0 Kr) ((((((((⟨g.v, []⟩ : Env).upd (some 0) (.slice x0b x0n x0c)).upd (some 3) (.pointer x3)).upd (some 4) (.pointer x4)).upd (some 5) (.int .i64 x5)).upd (some 6) (.int .i64 x6)).upd (some 7) (.pointer (some x7))).upd (some 35) (.int .u8 x35)) h := by kernel_rfl
    exact e ▸ hS
  · intro e g' h' hq
    cases e with
    | normal =>
      have hq : D13 (fun z0b z0n z0c z3 z4 z5 z6 z7 z35 z117 h => n31 z0b z0n z0c z3 z4 z5 z6 z7 z35 z117 Kn Ke2 Ke1 Ke0 Kr h) g' h' := hq
      obtain ⟨y0b, y0n, y0c, y3, y4, y5, y6, y7, y35, y117, hg', hq⟩ := D13_ok hq
      exact n31_ok y0b y0n y0c y3 y4 y5 y6 y7 y35 y117 Kn Ke2 Ke1 Ke0 Kr g' hg' h' hq
    | _ => exact hq
abbrev n28 (x0b : Option Addr) (x0n : Nat) (x0c : Nat) (x3 : Option Addr) (x4 : Option Addr) (x5 : Int) (x6 : Int) (x7 : Addr) (x35 : Int) (x97 : Bool) (Kn : T8) (Ke2 : T8) (Ke1 : T6) (Ke0 : T5) (Kr : T0) (h : H) : Prop := cond x97 (n29 x0b x0n x0c x3 x4 x5 x6 x7 Kn Ke2 Ke1 Ke0 Kr h) (n30 x0b x0n x0c x3 x4 x5 x6 x7 x35 Kn Ke2 Ke1 Ke0 Kr h)
theorem n28_ok (x0b : Option Addr) (x0n : Nat) (x0c : Nat) (x3 : Option Addr) (x4 : Option Addr) (x5 : Int) (x6 : Int) (x7 : Addr) (x35 : Int) (x97 : Bool) (Kn : T8) (Ke2 : T8) (Ke1 : T6) (Ke0 : T5) (Kr : T0) (g : Env) (hg : E12 g x0b x0n x0c x3 x4 x5 x6 x7 x35 x97) (h : H) (hS : n28 x0b x0n x0c x3 x4 x5 x6 x7 x35 x97 Kn Ke2 Ke1 Ke0 Kr h) : wpC none Try.prog 153 n27_c2 (Q6 Kn Ke2 Ke1 Ke0 Kr) g h := by
  obtain ⟨hg0, hg3, hg4, hg5, hg6, hg7, hg35, hg97, hds⟩ := hg
  have hx : evalE 153 g (.tmp 97) = .bool x97 := by
    show cond (Nat.blt 97 153) (g.v 97) undef = _
    rw [hg97]; rfl
  unfold n28 at hS
  refine wpC_cond' (o := .tmp 97) (x := n28_c1) (y := n28_c2) (by kernel_rfl) hx (fun hb => ?_) (fun hb => ?_)
  · subst hb
    exact n29_ok x0b x0n x0c x3 x4 x5 x6 x7 Kn Ke2 Ke1 Ke0 Kr g ⟨hg0, hg3, hg4, hg5, hg6, hg7, hds⟩ h hS
  · subst hb
    exact n30_ok x0b x0n x0c x3 x4 x5 x6 x7 x35 Kn Ke2 Ke1 Ke0 Kr g ⟨hg0, hg3, hg4, hg5, hg6, hg7, hg35, hds⟩ h hS
def Q9 (Kn : T12) (Ke2 : T8) (Ke1 : T6) (Ke0 : T5) (Kr : T0) : XPost
  | .normal, g, h => D12 Kn g h
  | .ret, g, h => D0 Kr g h
  | .exit id, g, h => cond (Nat.beq id 2) (D8 Ke2 g h) (cond (Nat.beq id 1) (D6 Ke1 g h) (cond (Nat.beq id 0) (D5 Ke0 g h) (False)))
  | _, _, _ => False
abbrev n27 (x0b : Option Addr) (x0n : Nat) (x0c : Nat) (x3 : Option Addr) (x4 : Option Addr) (x5 : Int) (x6 : Int) (x7 : Addr) (x35 : Int) (Kn : T8) (Ke2 : T8) (Ke1 : T6) (Ke0 : T5) (Kr : T0) (h : H) : Prop :=
  Spl (x35 = (3 : Int)) (n28 x0b x0n x0c x3 x4 x5 x6 x7 x35 true Kn Ke2 Ke1 Ke0 Kr h) (Spl (x35 = (4 : Int)) (n28 x0b x0n x0c x3 x4 x5 x6 x7 x35 true Kn Ke2 Ke1 Ke0 Kr h) (n28 x0b x0n x0c x3 x4 x5 x6 x7 x35 false Kn Ke2 Ke1 Ke0 Kr h))
theorem n27_ok (x0b : Option Addr) (x0n : Nat) (x0c : Nat) (x3 : Option Addr) (x4 : Option Addr) (x5 : Int) (x6 : Int) (x7 : Addr) (x35 : Int) (Kn : T8) (Ke2 : T8) (Ke1 : T6) (Ke0 : T5) (Kr : T0) (g : Env) (hg : E9 g x0b x0n x0c x3 x4 x5 x6 x7 x35) (h : H) (hS : n27 x0b x0n x0c x3 x4 x5 x6 x7 x35 Kn Ke2 Ke1 Ke0 Kr h) : wpC none Try.prog 153 n25_c2 (Q6 Kn Ke2 Ke1 Ke0 Kr) g h := by
  obtain ⟨hg0, hg3, hg4, hg5, hg6, hg7, hg35, hds⟩ := hg
  refine wpC_seq' (x := n27_c1) (y := n27_c2) (Q' := (Q9 (fun z0b z0n z0c z3 z4 z5 z6 z7 z35 z97 h => n28 z0b z0n z0c z3 z4 z5 z6 z7 z35 z97 Kn Ke2 Ke1 Ke0 Kr h) Ke2 Ke1 Ke0 Kr)) (by kernel_rfl) ?_ ?_
  · refine wpC_of_wpx (by kernel_rfl) (by kernel_rfl) (g' := (((((((⟨g.v, []⟩ : Env).upd (some 0) (.slice x0b x0n x0c)).upd (some 3) (.pointer x3)).upd (some 4) (.pointer x4)).upd (some 5) (.int .i64 x5)).upd (some 6) (.int .i64 x6)).upd (some 7) (.pointer (some x7))).upd (some 35) (.int .u8 x35)) (by rw [env_ds hds, upd_self hg0, upd_self hg3, upd_self hg4, upd_self hg5, upd_self hg6, upd_self hg7, upd_self hg35]) ?_
    have e : (n27 x0b x0n x0c x3 x4 x5 x6 x7 x35 Kn Ke2 Ke1 Ke0 Kr h) = wpx none Try.prog 153 n27_c1 (Q9 (fun z0b z0n z0c z3 z4 z5 z6 z7 z35 z97 h => n28 z0b z0n z0c z3 z4 z5 z6 z7 z35 z97 Kn Ke2 Ke1 Ke0 Kr h) Ke2 Ke1 Ke0 Kr) ((((((((⟨g.v, []⟩ : Env).upd (some 0) (.slice x0b x0n x0c)).upd (some 3) (.pointer x3)).upd (some 4) (.pointer x4)).upd (some 5) (.int .i64 x5)).upd (some 6) (.int .i64 x6)).upd (some 7) (.pointer (some x7))).upd (some 35) (.int .u8 x35)) h := by kernel_rfl
    exact e ▸ hS
  · intro e g' h' hq
    cases e with
    | normal =>
      have hq : D12 (fun z0b z0n z0c z3 z4 z5 z6 z7 z35 z97 h => n28 z0b z0n z0c z3 z4 z5 z6 z7 z35 z97 Kn Ke2 Ke1 Ke0 Kr h) g' h' := hq
      obtain ⟨y0b, y0n, y0c, y3, y4, y5, y6, y7, y35, y97, hg', hq⟩ := D12_ok hq
      exact n28_ok y0b y0n y0c y3 y4 y5 y6 y7 y35 y97 Kn Ke2 Ke1 Ke0 Kr g' hg' h' hq
    | _ => exact hq
abbrev n25 (x0b : Option Addr) (x0n : Nat) (x0c : Nat) (x3 : Option Addr) (x4 : Option Addr) (x5 : Int) (x6 : Int) (x7 : Addr) (x35 : Int) (x81 : Bool) (Kn : T8) (Ke2 : T8) (Ke1 : T6) (Ke0 : T5) (Kr : T0) (h : H) : Prop := cond x81 (n26 x0b x0n x0c x3 x4 x5 x6 x7 Kn Ke2 Ke1 Ke0 Kr h) (n27 x0b x0n x0c x3 x4 x5 x6 x7 x35 Kn Ke2 Ke1 Ke0 Kr h)
theorem n25_ok (x0b : Option Addr) (x0n : Nat) (x0c : Nat) (x3 : Option Addr) (x4 : Option Addr) (x5 : Int) (x6 : Int) (x7 : Addr) (x35 : Int) (x81 : Bool) (Kn : T8) (Ke2 : T8) (Ke1 : T6) (Ke0 : T5) (Kr : T0) (g : Env) (hg : E11 g x0b x0n x0c x3 x4 x5 x6 x7 x35 x81) (h : H) (hS : n25 x0b x0n x0c x3 x4 x5 x6 x7 x35 x81 Kn Ke2 Ke1 Ke0 Kr h) : wpC none Try.prog 153 n24_c2 (Q6 Kn Ke2 Ke1 Ke0 Kr) g h := by
  obtain ⟨hg0, hg3, hg4, hg5, hg6, hg7, hg35, hg81, hds⟩ := hg
  have hx : evalE 153 g (.tmp 81) = .bool x81 := by
    show cond (Nat.blt 81 153) (g.v 81) undef = _
    rw [hg81]; rfl
  unfold n25 at hS
  refine wpC_cond' (o := .tmp 81) (x := n25_c1) (y := n25_c2) (by kernel_rfl) hx (fun hb => ?_) (fun hb => ?_)
  · subst hb
    exact n26_ok x0b x0n x0c x3 x4 x5 x6 x7 Kn Ke2 Ke1 Ke0 Kr g ⟨hg0, hg3, hg4, hg5, hg6, hg7, hds⟩ h hS
  · subst hb
    exact n27_ok x0b x0n x0c x3 x4 x5 x6 x7 x35 Kn Ke2 Ke1 Ke0 Kr g ⟨hg0, hg3, hg4, hg5, hg6, hg7, hg35, hds⟩ h hS
def Q10 (Kn : T11) (Ke2 : T8) (Ke1 : T6) (Ke0 : T5) (Kr : T0) : XPost
  | .normal, g, h => D11 Kn g h
  | .ret, g, h => D0 Kr g h
  | .exit id, g, h => cond (Nat.beq id 2) (D8 Ke2 g h) (cond (Nat.beq id 1) (D6 Ke1 g h) (cond (Nat.beq id 0) (D5 Ke0 g h) (False)))
  | _, _, _ => False
abbrev n24 (x0b : Option Addr) (x0n : Nat) (x0c : Nat) (x3 : Option Addr) (x4 : Option Addr) (x5 : Int) (x6 : Int) (x7 : Addr) (x35 : Int) (Kn : T8) (Ke2 : T8) (Ke1 : T6) (Ke0 : T5) (Kr : T0) (h : H) : Prop :=
  Spl (x35 = (2 : Int)) (n25 x0b x0n x0c x3 x4 x5 x6 x7 x35 true Kn Ke2 Ke1 Ke0 Kr h) (n25 x0b x0n x0c x3 x4 x5 x6 x7 x35 false Kn Ke2 Ke1 Ke0 Kr h)
theorem n24_ok (x0b : Option Addr) (x0n : Nat) (x0c : Nat) (x3 : Option Addr) (x4 : Option Addr) (x5 : Int) (x6 : Int) (x7 : Addr) (x35 : Int) (Kn : T8) (Ke2 : T8) (Ke1 : T6) (Ke0 : T5) (Kr : T0) (g : Env) (hg : E9 g x0b x0n x0c x3 x4 x5 x6 x7 x35) (h : H) (hS : n24 x0b x0n x0c x3 x4 x5 x6 x7 x35 Kn Ke2 Ke1 Ke0 Kr h) : wpC none Try.prog 153 n22_c2 (Q6 Kn Ke2 Ke1 Ke0 Kr) g h := by
  obtain ⟨hg0, hg3, hg4, hg5, hg6, hg7, hg35, hds⟩ := hg
  refine wpC_seq' (x := n24_c1) (y := n24_c2) (Q' := (Q10 (fun z0b z0n z0c z3 z4 z5 z6 z7 z35 z81 h => n25 z0b z0n z0c z3 z4 z5 z6 z7 z35 z81 Kn Ke2 Ke1 Ke0 Kr h) Ke2 Ke1 Ke0 Kr)) (by kernel_rfl) ?_ ?_
  · refine wpC_of_wpx (by kernel_rfl) (by kernel_rfl) (g' := (((((((⟨g.v, []⟩ : Env).upd (some 0) (.slice x0b x0n x0c)).upd (some 3) (.pointer x3)).upd (some 4) (.pointer x4)).upd (some 5) (.int .i64 x5)).upd (some 6) (.int .i64 x6)).upd (some 7) (.pointer (some x7))).upd (some 35) (.int .u8 x35)) (by rw [env_ds hds, upd_self hg0, upd_self hg3, upd_self hg4, upd_self hg5, upd_self hg6, upd_self hg7, upd_self hg35]) ?_
    have e : (n24 x0b x0n x0c x3 x4 x5 x6 x7 x35 Kn Ke2 Ke1 Ke0 Kr h) = wpx none Try.prog 153 n24_c1 (Q10 (fun z0b z0n z0c z3 z4 z5 z6 z7 z35 z81 h => n25 z0b z0n z0c z3 z4 z5 z6 z7 z35 z81 Kn Ke2 Ke1 Ke0 Kr h) Ke2 Ke1 Ke0 Kr) ((((((((⟨g.v, []⟩ : Env).upd (some 0) (.slice x0b x0n x0c)).upd (some 3) (.pointer x3)).upd (some 4) (.pointer x4)).upd (some 5) (.int .i64 x5)).upd (some 6) (.int .i64 x6)).upd (some 7) (.pointer (some x7))).upd (some 35) (.int .u8 x35)) h := by kernel_rfl
    exact e ▸ hS
  · intro e g' h' hq
    cases e with
    | normal =>
      have hq : D11 (fun z0b z0n z0c z3 z4 z5 z6 z7 z35 z81 h => n25 z0b z0n z0c z3 z4 z5 z6 z7 z35 z81 Kn Ke2 Ke1 Ke0 Kr h) g' h' := hq
      obtain ⟨y0b, y0n, y0c, y3, y4, y5, y6, y7, y35, y81, hg', hq⟩ := D11_ok hq
      exact n25_ok y0b y0n y0c y3 y4 y5 y6 y7 y35 y81 Kn Ke2 Ke1 Ke0 Kr g' hg' h' hq
    | _ => exact hq
abbrev n22 (x0b : Option Addr) (x0n : Nat) (x0c : Nat) (x3 : Option Addr) (x4 : Option Addr) (x5 : Int) (x6 : Int) (x7 : Addr) (x35 : Int) (x57 : Bool) (Kn : T8) (Ke2 : T8) (Ke1 : T6) (Ke0 : T5) (Kr : T0) (h : H) : Prop := cond x57 (n23 x0b x0n x0c x3 x4 x5 x6 x7 Kn Ke2 Ke1 Ke0 Kr h) (n24 x0b x0n x0c x3 x4 x5 x6 x7 x35 Kn Ke2 Ke1 Ke0 Kr h)
theorem n22_ok (x0b : Option Addr) (x0n : Nat) (x0c : Nat) (x3 : Option Addr) (x4 : Option Addr) (x5 : Int) (x6 : Int) (x7 : Addr) (x35 : Int) (x57 : Bool) (Kn : T8) (Ke2 : T8) (Ke1 : T6) (Ke0 : T5) (Kr : T0) (g : Env) (hg : E10 g x0b x0n x0c x3 x4 x5 x6 x7 x35 x57) (h : H) (hS : n22 x0b x0n x0c x3 x4 x5 x6 x7 x35 x57 Kn Ke2 Ke1 Ke0 Kr h) : wpC none Try.prog 153 n21_c2 (Q6 Kn Ke2 Ke1 Ke0 Kr) g h := by
  obtain ⟨hg0, hg3, hg4, hg5, hg6, hg7, hg35, hg57, hds⟩ := hg
  have hx : evalE 153 g (.tmp 57) = .bool x57 := by
    show cond (Nat.blt 57 153) (g.v 57) undef = _
    rw [hg57]; rfl
  unfold n22 at hS
  refine wpC_cond' (o := .tmp 57) (x := n22_c1) (y := n22_c2) (by kernel_rfl) hx (fun hb => ?_) (fun hb => ?_)
  · subst hb
    exact n23_ok x0b x0n x0c x3 x4 x5 x6 x7 Kn Ke2 Ke1 Ke0 Kr g ⟨hg0, hg3, hg4, hg5, hg6, hg7, hds⟩ h hS
  · subst hb
    exact n24_ok x0b x0n x0c x3 x4 x5 x6 x7 x35 Kn Ke2 Ke1 Ke0 Kr g ⟨hg0, hg3, hg4, hg5, hg6, hg7, hg35, hds⟩ h hS
def Q11 (Kn : T10) (Ke2 : T8) (Ke1 : T6) (Ke0 : T5) (Kr : T0) : XPost
  | .normal, g, h => D10 Kn g h
  | .ret, g, h => D0 Kr g h
  | .exit id, g, h => cond (Nat.beq id 2) (D8 Ke2 g h) (cond (Nat.beq id 1) (D6 Ke1 g h) (cond (Nat.beq id 0) (D5 Ke0 g h) (False)))
  | _, _, _ => False
abbrev n21 (x0b : Option Addr) (x0n : Nat) (x0c : Nat) (x3 : Option Addr) (x4 : Option Addr) (x5 : Int) (x6 : Int) (x7 : Addr) (x35 : Int) (Kn : T8) (Ke2 : T8) (Ke1 : T6) (Ke0 : T5) (Kr : T0) (h : H) : Prop :=
  Spl (x35 = (0 : Int)) (n22 x0b x0n x0c x3 x4 x5 x6 x7 x35 true Kn Ke2 Ke1 Ke0 Kr h) (Spl (x35 = (1 : Int)) (n22 x0b x0n x0c x3 x4 x5 x6 x7 x35 true Kn Ke2 Ke1 Ke0 Kr h) (n22 x0b x0n x0c x3 x4 x5 x6 x7 x35 false Kn Ke2 Ke1 Ke0 Kr h))
theorem n21_ok (x0b : Option Addr) (x0n : Nat) (x0c : Nat) (x3 : Option Addr) (x4 : Option Addr) (x5 : Int) (x6 : Int) (x7 : Addr) (x35 : Int) (Kn : T8) (Ke2 : T8) (Ke1 : T6) (Ke0 : T5) (Kr : T0) (g : Env) (hg : E9 g x0b x0n x0c x3 x4 x5 x6 x7 x35) (h : H) (hS : n21 x0b x0n x0c x3 x4 x5 x6 x7 x35 Kn Ke2 Ke1 Ke0 Kr h) : wpC none Try.prog 153 n20_c1 (Q6 Kn Ke2 Ke1 Ke0 Kr) g h := by
  obtain ⟨hg0, hg3, hg4, hg5, hg6, hg7, hg35, hds⟩ := hg
  refine wpC_seq' (x := n21_c1) (y := n21_c2) (Q' := (Q11 (fun z0b z0n z0c z3 z4 z5 z6 z7 z35 z57 h => n22 z0b z0n z0c z3 z4 z5 z6 z7 z35 z57 Kn Ke2 Ke1 Ke0 Kr h) Ke2 Ke1 Ke0 Kr)) (by kernel_rfl) ?_ ?_
  · refine wpC_of_wpx (by kernel_rfl) (by kernel_rfl) (g' := (((((((⟨g.v, []⟩ : Env).upd (some 0) (.slice x0b x0n x0c)).upd (some 3) (.pointer x3)).upd (some 4) (.pointer x4)).upd (some 5) (.int .i64 x5)).upd (some 6) (.int .i64 x6)).upd (some 7) (.pointer (some x7))).upd (some 35) (.int .u8 x35)) (by rw [env_ds hds, upd_self hg0, upd_self hg3, upd_self hg4, upd_self hg5, upd_self hg6, upd_self hg7, upd_self hg35]) ?_
    have e : (n21 x0b x0n x0c x3 x4 x5 x6 x7 x35 Kn Ke2 Ke1 Ke0 Kr h) = wpx none Try.prog 153 n21_c1 (Q11 (fun z0b z0n z0c z3 z4 z5 z6 z7 z35 z57 h => n22 z0b z0n z0c z3 z4 z5 z6 z7 z35 z57 Kn Ke2 Ke1 Ke0 Kr h) Ke2 Ke1 Ke0 Kr) ((((((((⟨g.v, []⟩ : Env).upd (some 0) (.slice x0b x0n x0c)).upd (some 3) (.pointer x3)).upd (some 4) (.pointer x4)).upd (some 5) (.int .i64 x5)).upd (some 6) (.int .i64 x6)).upd (some 7) (.pointer (some x7))).upd (some 35) (.int .u8 x35)) h := by kernel_rfl
    exact e ▸ hS
  · intro e g' h' hq
    cases e with
    | normal =>
      have hq : D10 (fun z0b z0n z0c z3 z4 z5 z6 z7 z35 z57 h => n22 z0b z0n z0c z3 z4 z5 z6 z7 z35 z57 Kn Ke2 Ke1 Ke0 Kr h) g' h' := hq
      obtain ⟨y0b, y0n, y0c, y3, y4, y5, y6, y7, y35, y57, hg', hq⟩ := D10_ok hq
      exact n22_ok y0b y0n y0c y3 y4 y5 y6 y7 y35 y57 Kn Ke2 Ke1 Ke0 Kr g' hg' h' hq
    | _ => exact hq
abbrev n20 (x0b : Option Addr) (x0n : Nat) (x0c : Nat) (x3 : Option Addr) (x4 : Option Addr) (x5 : Int) (x6 : Int) (x7 : Addr) (x35 : Int) (Kn : T8) (Ke1 : T6) (Ke0 : T5) (Kr : T0) (h : H) : Prop := n21 x0b x0n x0c x3 x4 x5 x6 x7 x35 Kn Kn Ke1 Ke0 Kr h
theorem n20_ok (x0b : Option Addr) (x0n : Nat) (x0c : Nat) (x3 : Option Addr) (x4 : Option Addr) (x5 : Int) (x6 : Int) (x7 : Addr) (x35 : Int) (Kn : T8) (Ke1 : T6) (Ke0 : T5) (Kr : T0) (g : Env) (hg : E9 g x0b x0n x0c x3 x4 x5 x6 x7 x35) (h : H) (hS : n20 x0b x0n x0c x3 x4 x5 x6 x7 x35 Kn Ke1 Ke0 Kr h) : wpC none Try.prog 153 n19_c2 (Q5 Kn Ke1 Ke0 Kr) g h := by
  refine wpC_block' (id := 2) (x := n20_c1) (by kernel_rfl) (n21_ok x0b x0n x0c x3 x4 x5 x6 x7 x35 Kn Kn Ke1 Ke0 Kr g hg h hS) ?_
  intro e g' h' hq
  cases e <;> exact hq
def Q12 (Kn : T9) (Ke1 : T6) (Ke0 : T5) (Kr : T0) : XPost
  | .normal, g, h => D9 Kn g h
  | .ret, g, h => D0 Kr g h
  | .exit id, g, h => cond (Nat.beq id 1) (D6 Ke1 g h) (cond (Nat.beq id 0) (D5 Ke0 g h) (False))
  | _, _, _ => False
abbrev n19 (x0b : Option Addr) (x0n : Nat) (x0c : Nat) (x3 : Option Addr) (x4 : Option Addr) (x5 : Int) (x6 : Int) (x7 : Addr) (Kn : T8) (Ke1 : T6) (Ke0 : T5) (Kr : T0) (h : H) : Prop :=
  ∃ i683, cell h (x7.add 0) = some (.int .u8 i683) ∧ ((8 : Int) ≠ 0 ∧ (n20 x0b x0n x0c x3 x4 x5 x6 x7 (Int.tmod i683 (8 : Int)) Kn Ke1 Ke0 Kr h))
theorem n19_ok (x0b : Option Addr) (x0n : Nat) (x0c : Nat) (x3 : Option Addr) (x4 : Option Addr) (x5 : Int) (x6 : Int) (x7 : Addr) (Kn : T8) (Ke1 : T6) (Ke0 : T5) (Kr : T0) (g : Env) (hg : E7 g x0b x0n x0c x3 x4 x5 x6 x7) (h : H) (hS : n19 x0b x0n x0c x3 x4 x5 x6 x7 Kn Ke1 Ke0 Kr h) : wpC none Try.prog 153 n17_c1 (Q5 Kn Ke1 Ke0 Kr) g h := by
  obtain ⟨hg0, hg3, hg4, hg5, hg6, hg7, hds⟩ := hg
  refine wpC_seq' (x := n19_c1) (y := n19_c2) (Q' := (Q12 (fun z0b z0n z0c z3 z4 z5 z6 z7 z35 h => n20 z0b z0n z0c z3 z4 z5 z6 z7 z35 Kn Ke1 Ke0 Kr h) Ke1 Ke0 Kr)) (by kernel_rfl) ?_ ?_
  · refine wpC_of_wpx (by kernel_rfl) (by kernel_rfl) (g' := ((((((⟨g.v, []⟩ : Env).upd (some 0) (.slice x0b x0n x0c)).upd (some 3) (.pointer x3)).upd (some 4) (.pointer x4)).upd (some 5) (.int .i64 x5)).upd (some 6) (.int .i64 x6)).upd (some 7) (.pointer (some x7))) (by rw [env_ds hds, upd_self hg0, upd_self hg3, upd_self hg4, upd_self hg5, upd_self hg6, upd_self hg7]) ?_
    have e : (n19 x0b x0n x0c x3 x4 x5 x6 x7 Kn Ke1 Ke0 Kr h) = wpx none Try.prog 153 n19_c1 (Q12 (fun z0b z0n z0c z3 z4 z5 z6 z7 z35 h => n20 z0b z0n z0c z3 z4 z5 z6 z7 z35 Kn Ke1 Ke0 Kr h) Ke1 Ke0 Kr) (((((((⟨g.v, []⟩ : Env).upd (some 0) (.slice x0b x0n x0c)).upd (some 3) (.pointer x3)).upd (some 4) (.pointer x4)).upd (some 5) (.int .i64 x5)).upd (some 6) (.int .i64 x6)).upd (some 7) (.pointer (some x7))) h := by kernel_rfl
    exact e ▸ hS
  · intro e g' h' hq
    cases e with
    | normal =>
      have hq : D9 (fun z0b z0n z0c z3 z4 z5 z6 z7 z35 h => n20 z0b z0n z0c z3 z4 z5 z6 z7 z35 Kn Ke1 Ke0 Kr h) g' h' := hq
      obtain ⟨y0b, y0n, y0c, y3, y4, y5, y6, y7, y35, hg', hq⟩ := D9_ok hq
      exact n20_ok y0b y0n y0c y3 y4 y5 y6 y7 y35 Kn Ke1 Ke0 Kr g' hg' h' hq
    | _ => exact hq
abbrev n17 (x0b : Option Addr) (x0n : Nat) (x0c : Nat) (x3 : Option Addr) (x4 : Option Addr) (x5 : Int) (x6 : Int) (x7 : Addr) (Kn : T6) (Ke1 : T6) (Ke0 : T5) (Kr : T0) (h : H) : Prop := n19 x0b x0n x0c x3 x4 x5 x6 x7 (fun z0b z0n z0c z3 z4 z5 z6 z8 h => n18 z0b z0n z0c z3 z4 z5 z6 z8 Kn Ke1 Ke0 Kr h) Ke1 Ke0 Kr h
theorem n17_ok (x0b : Option Addr) (x0n : Nat) (x0c : Nat) (x3 : Option Addr) (x4 : Option Addr) (x5 : Int) (x6 : Int) (x7 : Addr) (Kn : T6) (Ke1 : T6) (Ke0 : T5) (Kr : T0) (g : Env) (hg : E7 g x0b x0n x0c x3 x4 x5 x6 x7) (h : H) (hS : n17 x0b x0n x0c x3 x4 x5 x6 x7 Kn Ke1 Ke0 Kr h) : wpC none Try.prog 153 n16_c2 (Q4 Kn Ke1 Ke0 Kr) g h := by
  refine wpC_seq' (x := n17_c1) (y := n17_c2) (by kernel_rfl) (n19_ok x0b x0n x0c x3 x4 x5 x6 x7 (fun z0b z0n z0c z3 z4 z5 z6 z8 h => n18 z0b z0n z0c z3 z4 z5 z6 z8 Kn Ke1 Ke0 Kr h) Ke1 Ke0 Kr g hg h hS) ?_
  intro e g' h' hq
  cases e with
  | normal =>
    have hq : D8 (fun z0b z0n z0c z3 z4 z5 z6 z8 h => n18 z0b z0n z0c z3 z4 z5 z6 z8 Kn Ke1 Ke0 Kr h) g' h' := hq
    obtain ⟨y0b, y0n, y0c, y3, y4, y5, y6, y8, hg', hq⟩ := D8_ok hq
    exact n18_ok y0b y0n y0c y3 y4 y5 y6 y8 Kn Ke1 Ke0 Kr g' hg' h' hq
  | _ => exact hq
def Q13 (Kn : T7) (Ke1 : T6) (Ke0 : T5) (Kr : T0) : XPost
  | .normal, g, h => D7 Kn g h
  | .ret, g, h => D0 Kr g h
  | .exit id, g, h => cond (Nat.beq id 1) (D6 Ke1 g h) (cond (Nat.beq id 0) (D5 Ke0 g h) (False))
  | _, _, _ => False
abbrev n16 (x0b : Option Addr) (x0n : Nat) (x0c : Nat) (x3 : Option Addr) (x4 : Option Addr) (x5 : Int) (x6 : Int) (x7 : Addr) (Kn : T6) (Ke1 : T6) (Ke0 : T5) (Kr : T0) (h : H) : Prop :=
  n17 x0b x0n x0c x3 x4 x5 x6 x7 Kn Ke1 Ke0 Kr h
theorem n16_ok (x0b : Option Addr) (x0n : Nat) (x0c : Nat) (x3 : Option Addr) (x4 : Option Addr) (x5 : Int) (x6 : Int) (x7 : Addr) (Kn : T6) (Ke1 : T6) (Ke0 : T5) (Kr : T0) (g : Env) (hg : E7 g x0b x0n x0c x3 x4 x5 x6 x7) (h : H) (hS : n16 x0b x0n x0c x3 x4 x5 x6 x7 Kn Ke1 Ke0 Kr h) : wpC none Try.prog 153 n15_c2 (Q4 Kn Ke1 Ke0 Kr) g h := by
  obtain ⟨hg0, hg3, hg4, hg5, hg6, hg7, hds⟩ := hg
  refine wpC_seq' (x := n16_c1) (y := n16_c2) (Q' := (Q13 (fun z0b z0n z0c z3 z4 z5 z6 z7 h => n17 z0b z0n z0c z3 z4 z5 z6 z7 Kn Ke1 Ke0 Kr h) Ke1 Ke0 Kr)) (by kernel_rfl) ?_ ?_
  · refine wpC_of_wpx (by kernel_rfl) (by kernel_rfl) (g' := ((((((⟨g.v, []⟩ : Env).upd (some 0) (.slice x0b x0n x0c)).upd (some 3) (.pointer x3)).upd (some 4) (.pointer x4)).upd (some 5) (.int .i64 x5)).upd (some 6) (.int .i64 x6)).upd (some 7) (.pointer (some x7))) (by rw [env_ds hds, upd_self hg0, upd_self hg3, upd_self hg4, upd_self hg5, upd_self hg6, upd_self hg7]) ?_
    have e : (n16 x0b x0n x0c x3 x4 x5 x6 x7 Kn Ke1 Ke0 Kr h) = wpx none Try.prog 153 n16_c1 (Q13 (fun z0b z0n z0c z3 z4 z5 z6 z7 h => n17 z0b z0n z0c z3 z4 z5 z6 z7 Kn Ke1 Ke0 Kr h) Ke1 Ke0 Kr) (((((((⟨g.v, []⟩ : Env).upd (some 0) (.slice x0b x0n x0c)).upd (some 3) (.pointer x3)).upd (some 4) (.pointer x4)).upd (some 5) (.int .i64 x5)).upd (some 6) (.int .i64 x6)).upd (some 7) (.pointer (some x7))) h := by kernel_rfl
    exact e ▸ hS
  · intro e g' h' hq
    cases e with
    | normal =>
      have hq : D7 (fun z0b z0n z0c z3 z4 z5 z6 z7 h => n17 z0b z0n z0c z3 z4 z5 z6 z7 Kn Ke1 Ke0 Kr h) g' h' := hq
      obtain ⟨y0b, y0n, y0c, y3, y4, y5, y6, y7, hg', hq⟩ := D7_ok hq
      exact n17_ok y0b y0n y0c y3 y4 y5 y6 y7 Kn Ke1 Ke0 Kr g' hg' h' hq
    | _ => exact hq
abbrev n15 (x0b : Option Addr) (x0n : Nat) (x0c : Nat) (x3 : Option Addr) (x4 : Option Addr) (x5 : Int) (x6 : Int) (Kn : T6) (Ke1 : T6) (Ke0 : T5) (Kr : T0) (h : H) : Prop :=
  (0 ≤ x6 ∧ x6 < (x0n : Int)) ∧ (vSome x0b fun a684 => ∃ i685, cell h (((a684.add (Int.toNat x6 * 10))).add 0) = some (.int .u8 i685) ∧ (∃ i686, cell h (((a684.add (Int.toNat x6 * 10))).add 1) = some (.int .u8 i686) ∧ (∃ i687, cell h (((a684.add (Int.toNat x6 * 10))).add 2) = some (.int .u8 i687) ∧ (∃ s688, cell h (((a684.add (Int.toNat x6 * 10))).add 3) = some (S s688) ∧ (∃ s689b s689n s689c, cell h (((a684.add (Int.toNat x6 * 10))).add 4) = some (.slice s689b s689n s689c) ∧ (∃ s690, cell h (((a684.add (Int.toNat x6 * 10))).add 5) = some (S s690) ∧ (∃ s691b s691n s691c, cell h (((a684.add (Int.toNat x6 * 10))).add 6) = some (.slice s691b s691n s691c) ∧ (∃ i692, cell h (((a684.add (Int.toNat x6 * 10))).add 7) = some (.int .i64 i692) ∧ (∃ i693, cell h (((a684.add (Int.toNat x6 * 10))).add 8) = some (.int .i64 i693) ∧ (∃ i694, cell h (((a684.add (Int.toNat x6 * 10))).add 9) = some (.int .i64 i694) ∧ (newx h ⟨[(.int .u8 (0 : Int)), (.int .u8 (0 : Int)), (.int .u8 (0 : Int)), (S ([] : List UInt8)), (.slice none 0 0), (S ([] : List UInt8)), (.slice none 0 0), (.int .i64 (0 : Int)), (.int .i64 (0 : Int)), (.int .i64 (0 : Int))]⟩ 33 fun a695 h696 => stL a695 [(.int .u8 i685), (.int .u8 i686), (.int .u8 i687), (S s688), (.slice s689b s689n s689c), (S s690), (.slice s691b s691n s691c), (.int .i64 i692), (.int .i64 i693), (.int .i64 i694)] 0 h696 fun h697 => n16 x0b x0n x0c x3 x4 x5 x6 a695 Kn Ke1 Ke0 Kr h697)))))))))))
theorem n15_ok (x0b : Option Addr) (x0n : Nat) (x0c : Nat) (x3 : Option Addr) (x4 : Option Addr) (x5 : Int) (x6 : Int) (Kn : T6) (Ke1 : T6) (Ke0 : T5) (Kr : T0) (g : Env) (hg : E6 g x0b x0n x0c x3 x4 x5 x6) (h : H) (hS : n15 x0b x0n x0c x3 x4 x5 x6 Kn Ke1 Ke0 Kr h) : wpC none Try.prog 153 n14_c1 (Q4 Kn Ke1 Ke0 Kr) g h := by
  obtain ⟨hg0, hg3, hg4, hg5, hg6, hds⟩ := hg
  refine wpC_seq' (x := n15_c1) (y := n15_c2) (Q' := (Q13 (fun z0b z0n z0c z3 z4 z5 z6 z7 h => n16 z0b z0n z0c z3 z4 z5 z6 z7 Kn Ke1 Ke0 Kr h) Ke1 Ke0 Kr)) (by kernel_rfl) ?_ ?_
  · refine wpC_of_wpx (by kernel_rfl) (by kernel_rfl) (g' := (((((⟨g.v, []⟩ : Env).upd (some 0) (.slice x0b x0n x0c)).upd (some 3) (.pointer x3)).upd (some 4) (.pointer x4)).upd (some 5) (.int .i64 x5)).upd (some 6) (.int .i64 x6)) (by rw [env_ds hds, upd_self hg0, upd_self hg3, upd_self hg4, upd_self hg5, upd_self hg6]) ?_
    have e : (n15 x0b x0n x0c x3 x4 x5 x6 Kn Ke1 Ke0 Kr h) = wpx none Try.prog 153 n15_c1 (Q13 (fun z0b z0n z0c z3 z4 z5 z6 z7 h => n16 z0b z0n z0c z3 z4 z5 z6 z7 Kn Ke1 Ke0 Kr h) Ke1 Ke0 Kr) ((((((⟨g.v, []⟩ : Env).upd (some 0) (.slice x0b x0n x0c)).upd (some 3) (.pointer x3)).upd (some 4) (.pointer x4)).upd (some 5) (.int .i64 x5)).upd (some 6) (.int .i64 x6)) h := by kernel_rfl
    exact e ▸ hS
  · intro e g' h' hq
    cases e with
    | normal =>
      have hq : D7 (fun z0b z0n z0c z3 z4 z5 z6 z7 h => n16 z0b z0n z0c z3 z4 z5 z6 z7 Kn Ke1 Ke0 Kr h) g' h' := hq
      obtain ⟨y0b, y0n, y0c, y3, y4, y5, y6, y7, hg', hq⟩ := D7_ok hq
      exact n16_ok y0b y0n y0c y3 y4 y5 y6 y7 Kn Ke1 Ke0 Kr g' hg' h' hq
    | _ => exact hq
abbrev n14 (x0b : Option Addr) (x0n : Nat) (x0c : Nat) (x3 : Option Addr) (x4 : Option Addr) (x5 : Int) (x6 : Int) (Kn : T6) (Ke0 : T5) (Kr : T0) (h : H) : Prop := n15 x0b x0n x0c x3 x4 x5 x6 Kn Kn Ke0 Kr h
theorem n14_ok (x0b : Option Addr) (x0n : Nat) (x0c : Nat) (x3 : Option Addr) (x4 : Option Addr) (x5 : Int) (x6 : Int) (Kn : T6) (Ke0 : T5) (Kr : T0) (g : Env) (hg : E6 g x0b x0n x0c x3 x4 x5 x6) (h : H) (hS : n14 x0b x0n x0c x3 x4 x5 x6 Kn Ke0 Kr h) : wpC none Try.prog 153 n12_c1 (Q3 Kn Ke0 Kr) g h := by
  refine wpC_block' (id := 1) (x := n14_c1) (by kernel_rfl) (n15_ok x0b x0n x0c x3 x4 x5 x6 Kn Kn Ke0 Kr g hg h hS) ?_
  intro e g' h' hq
  cases e <;> exact hq
abbrev n12 (x0b : Option Addr) (x0n : Nat) (x0c : Nat) (x3 : Option Addr) (x4 : Option Addr) (x5 : Int) (x6 : Int) (Kn : T6) (Ke0 : T5) (Kr : T0) (h : H) : Prop := n14 x0b x0n x0c x3 x4 x5 x6 (fun z0b z0n z0c z3 z4 z5 z6 h => n13 z0b z0n z0c z3 z4 z5 z6 Kn Ke0 Kr h) Ke0 Kr h
theorem n12_ok (x0b : Option Addr) (x0n : Nat) (x0c : Nat) (x3 : Option Addr) (x4 : Option Addr) (x5 : Int) (x6 : Int) (Kn : T6) (Ke0 : T5) (Kr : T0) (g : Env) (hg : E6 g x0b x0n x0c x3 x4 x5 x6) (h : H) (hS : n12 x0b x0n x0c x3 x4 x5 x6 Kn Ke0 Kr h) : wpC none Try.prog 153 n11_c2 (Q3 Kn Ke0 Kr) g h := by
  refine wpC_seq' (x := n12_c1) (y := n12_c2) (by kernel_rfl) (n14_ok x0b x0n x0c x3 x4 x5 x6 (fun z0b z0n z0c z3 z4 z5 z6 h => n13 z0b z0n z0c z3 z4 z5 z6 Kn Ke0 Kr h) Ke0 Kr g hg h hS) ?_
  intro e g' h' hq
  cases e with
  | normal =>
    have hq : D6 (fun z0b z0n z0c z3 z4 z5 z6 h => n13 z0b z0n z0c z3 z4 z5 z6 Kn Ke0 Kr h) g' h' := hq
    obtain ⟨y0b, y0n, y0c, y3, y4, y5, y6, hg', hq⟩ := D6_ok hq
    exact n13_ok y0b y0n y0c y3 y4 y5 y6 Kn Ke0 Kr g' hg' h' hq
  | _ => exact hq
abbrev n11 (x0b : Option Addr) (x0n : Nat) (x0c : Nat) (x3 : Option Addr) (x4 : Option Addr) (x5 : Int) (x6 : Int) (Kn : T6) (Ke0 : T5) (Kr : T0) (h : H) : Prop :=
  Spl (x6 < (x0n : Int)) (n12 x0b x0n x0c x3 x4 x5 x6 Kn Ke0 Kr h) (Ke0 h)
theorem n11_ok (x0b : Option Addr) (x0n : Nat) (x0c : Nat) (x3 : Option Addr) (x4 : Option Addr) (x5 : Int) (x6 : Int) (Kn : T6) (Ke0 : T5) (Kr : T0) (g : Env) (hg : E6 g x0b x0n x0c x3 x4 x5 x6) (h : H) (hS : n11 x0b x0n x0c x3 x4 x5 x6 Kn Ke0 Kr h) : wpC none Try.prog 153 n10_c1 (Q3 Kn Ke0 Kr) g h := by
  obtain ⟨hg0, hg3, hg4, hg5, hg6, hds⟩ := hg
  refine wpC_seq' (x := n11_c1) (y := n11_c2) (Q' := (Q3 (fun z0b z0n z0c z3 z4 z5 z6 h => n12 z0b z0n z0c z3 z4 z5 z6 Kn Ke0 Kr h) Ke0 Kr)) (by kernel_rfl) ?_ ?_
  · refine wpC_of_wpx (by kernel_rfl) (by kernel_rfl) (g' := (((((⟨g.v, []⟩ : Env).upd (some 0) (.slice x0b x0n x0c)).upd (some 3) (.pointer x3)).upd (some 4) (.pointer x4)).upd (some 5) (.int .i64 x5)).upd (some 6) (.int .i64 x6)) (by rw [env_ds hds, upd_self hg0, upd_self hg3, upd_self hg4, upd_self hg5, upd_self hg6]) ?_
    have e : (n11 x0b x0n x0c x3 x4 x5 x6 Kn Ke0 Kr h) = wpx none Try.prog 153 n11_c1 (Q3 (fun z0b z0n z0c z3 z4 z5 z6 h => n12 z0b z0n z0c z3 z4 z5 z6 Kn Ke0 Kr h) Ke0 Kr) ((((((⟨g.v, []⟩ : Env).upd (some 0) (.slice x0b x0n x0c)).upd (some 3) (.pointer x3)).upd (some 4) (.pointer x4)).upd (some 5) (.int .i64 x5)).upd (some 6) (.int .i64 x6)) h := by kernel_rfl
    exact e ▸ hS
  · intro e g' h' hq
    cases e with
    | normal =>
      have hq : D6 (fun z0b z0n z0c z3 z4 z5 z6 h => n12 z0b z0n z0c z3 z4 z5 z6 Kn Ke0 Kr h) g' h' := hq
      obtain ⟨y0b, y0n, y0c, y3, y4, y5, y6, hg', hq⟩ := D6_ok hq
      exact n12_ok y0b y0n y0c y3 y4 y5 y6 Kn Ke0 Kr g' hg' h' hq
    | _ => exact hq
def n10_L (Kn : T5) (Ke0 : T5) (Kr : T0) : Nat → (Option Addr) → Nat → Nat → (Option Addr) → (Option Addr) → Int → Int → H → Prop
  | 0 => fun _ _ _ _ _ _ _ _ => False
  | N + 1 => fun x0b x0n x0c x3 x4 x5 x6 h => n11 x0b x0n x0c x3 x4 x5 x6 (fun z0b z0n z0c z3 z4 z5 z6 h => n10_L Kn Ke0 Kr N z0b z0n z0c z3 z4 z5 z6 h) Ke0 Kr h
abbrev n10 (x0b : Option Addr) (x0n : Nat) (x0c : Nat) (x3 : Option Addr) (x4 : Option Addr) (x5 : Int) (x6 : Int) (Kn : T5) (Ke0 : T5) (Kr : T0) (h : H) : Prop := ∃ N, n10_L Kn Ke0 Kr N x0b x0n x0c x3 x4 x5 x6 h
theorem n10_ok (x0b : Option Addr) (x0n : Nat) (x0c : Nat) (x3 : Option Addr) (x4 : Option Addr) (x5 : Int) (x6 : Int) (Kn : T5) (Ke0 : T5) (Kr : T0) (g : Env) (hg : E6 g x0b x0n x0c x3 x4 x5 x6) (h : H) (hS : n10 x0b x0n x0c x3 x4 x5 x6 Kn Ke0 Kr h) : wpC none Try.prog 153 n9_c1 (Q2 Kn Ke0 Kr) g h := by
  obtain ⟨N0, hS⟩ := hS
  refine wpC_loop' (x := n10_c1) (by kernel_rfl) (fun k g h => ∃ (x0b : Option Addr) (x0n : Nat) (x0c : Nat) (x3 : Option Addr) (x4 : Option Addr) (x5 : Int) (x6 : Int), E6 g x0b x0n x0c x3 x4 x5 x6 ∧ n10_L Kn Ke0 Kr k x0b x0n x0c x3 x4 x5 x6 h) (fun g h hr => ?_) (fun N g h hr => ?_) N0 ⟨x0b, x0n, x0c, x3, x4, x5, x6, hg, hS⟩
  · obtain ⟨x0b, x0n, x0c, x3, x4, x5, x6, hg, hS⟩ := hr
    exact hS.elim
  · obtain ⟨x0b, x0n, x0c, x3, x4, x5, x6, hg, hS⟩ := hr
    refine (n11_ok x0b x0n x0c x3 x4 x5 x6 (fun z0b z0n z0c z3 z4 z5 z6 h => n10_L Kn Ke0 Kr N z0b z0n z0c z3 z4 z5 z6 h) Ke0 Kr g hg h hS).mono ?_
    intro e g' h' hq
    cases e with
    | normal => exact D6_ok (K := (fun z0b z0n z0c z3 z4 z5 z6 h => n10_L Kn Ke0 Kr N z0b z0n z0c z3 z4 z5 z6 h)) hq
    | _ => exact hq
abbrev n9 (x0b : Option Addr) (x0n : Nat) (x0c : Nat) (x3 : Option Addr) (x4 : Option Addr) (x5 : Int) (x6 : Int) (Kn : T5) (Kr : T0) (h : H) : Prop := n10 x0b x0n x0c x3 x4 x5 x6 Kn Kn Kr h
theorem n9_ok (x0b : Option Addr) (x0n : Nat) (x0c : Nat) (x3 : Option Addr) (x4 : Option Addr) (x5 : Int) (x6 : Int) (Kn : T5) (Kr : T0) (g : Env) (hg : E6 g x0b x0n x0c x3 x4 x5 x6) (h : H) (hS : n9 x0b x0n x0c x3 x4 x5 x6 Kn Kr h) : wpC none Try.prog 153 n8_c2 (Q1 Kn Kr) g h := by
  refine wpC_block' (id := 0) (x := n9_c1) (by kernel_rfl) (n10_ok x0b x0n x0c x3 x4 x5 x6 Kn Kn Kr g hg h hS) ?_
  intro e g' h' hq
  cases e <;> exact hq
def Q14 (Kn : T6) (Kr : T0) : XPost
  | .normal, g, h => D6 Kn g h
  | .ret, g, h => D0 Kr g h
  | _, _, _ => False
abbrev n8 (x0b : Option Addr) (x0n : Nat) (x0c : Nat) (x3 : Option Addr) (x4 : Option Addr) (x5 : Int) (Kn : T5) (Kr : T0) (h : H) : Prop :=
  n9 x0b x0n x0c x3 x4 x5 (0 : Int) Kn Kr h
theorem n8_ok (x0b : Option Addr) (x0n : Nat) (x0c : Nat) (x3 : Option Addr) (x4 : Option Addr) (x5 : Int) (Kn : T5) (Kr : T0) (g : Env) (hg : E4 g x0b x0n x0c x3 x4 x5) (h : H) (hS : n8 x0b x0n x0c x3 x4 x5 Kn Kr h) : wpC none Try.prog 153 n6_c1 (Q1 Kn Kr) g h := by
  obtain ⟨hg0, hg3, hg4, hg5, hds⟩ := hg
  refine wpC_seq' (x := n8_c1) (y := n8_c2) (Q' := (Q14 (fun z0b z0n z0c z3 z4 z5 z6 h => n9 z0b z0n z0c z3 z4 z5 z6 Kn Kr h) Kr)) (by kernel_rfl) ?_ ?_
  · refine wpC_of_wpx (by kernel_rfl) (by kernel_rfl) (g' := ((((⟨g.v, []⟩ : Env).upd (some 0) (.slice x0b x0n x0c)).upd (some 3) (.pointer x3)).upd (some 4) (.pointer x4)).upd (some 5) (.int .i64 x5)) (by rw [env_ds hds, upd_self hg0, upd_self hg3, upd_self hg4, upd_self hg5]) ?_
    have e : (n8 x0b x0n x0c x3 x4 x5 Kn Kr h) = wpx none Try.prog 153 n8_c1 (Q14 (fun z0b z0n z0c z3 z4 z5 z6 h => n9 z0b z0n z0c z3 z4 z5 z6 Kn Kr h) Kr) (((((⟨g.v, []⟩ : Env).upd (some 0) (.slice x0b x0n x0c)).upd (some 3) (.pointer x3)).upd (some 4) (.pointer x4)).upd (some 5) (.int .i64 x5)) h := by kernel_rfl
    exact e ▸ hS
  · intro e g' h' hq
    cases e with
    | normal =>
      have hq : D6 (fun z0b z0n z0c z3 z4 z5 z6 h => n9 z0b z0n z0c z3 z4 z5 z6 Kn Kr h) g' h' := hq
      obtain ⟨y0b, y0n, y0c, y3, y4, y5, y6, hg', hq⟩ := D6_ok hq
      exact n9_ok y0b y0n y0c y3 y4 y5 y6 Kn Kr g' hg' h' hq
    | _ => exact hq
abbrev n6 (x0b : Option Addr) (x0n : Nat) (x0c : Nat) (x3 : Option Addr) (x4 : Option Addr) (x5 : Int) (Kn : T0) (Kr : T0) (h : H) : Prop := n8 x0b x0n x0c x3 x4 x5 (fun  h => n7 Kn Kr h) Kr h
theorem n6_ok (x0b : Option Addr) (x0n : Nat) (x0c : Nat) (x3 : Option Addr) (x4 : Option Addr) (x5 : Int) (Kn : T0) (Kr : T0) (g : Env) (hg : E4 g x0b x0n x0c x3 x4 x5) (h : H) (hS : n6 x0b x0n x0c x3 x4 x5 Kn Kr h) : wpC none Try.prog 153 n5_c2 (Q0 Kn Kr) g h := by
  refine wpC_seq' (x := n6_c1) (y := n6_c2) (by kernel_rfl) (n8_ok x0b x0n x0c x3 x4 x5 (fun  h => n7 Kn Kr h) Kr g hg h hS) ?_
  intro e g' h' hq
  cases e with
  | normal =>
    have hq : D5 (fun  h => n7 Kn Kr h) g' h' := hq
    obtain ⟨hg', hq⟩ := D5_ok hq
    exact n7_ok  Kn Kr g' hg' h' hq
  | _ => exact hq
def Q15 (Kn : T4) (Kr : T0) : XPost
  | .normal, g, h => D4 Kn g h
  | .ret, g, h => D0 Kr g h
  | _, _, _ => False
abbrev n5 (x0b : Option Addr) (x0n : Nat) (x0c : Nat) (x3 : Option Addr) (x4 : Option Addr) (Kn : T0) (Kr : T0) (h : H) : Prop :=
  n6 x0b x0n x0c x3 x4 (0 : Int) Kn Kr h
theorem n5_ok (x0b : Option Addr) (x0n : Nat) (x0c : Nat) (x3 : Option Addr) (x4 : Option Addr) (Kn : T0) (Kr : T0) (g : Env) (hg : E3 g x0b x0n x0c x3 x4) (h : H) (hS : n5 x0b x0n x0c x3 x4 Kn Kr h) : wpC none Try.prog 153 n4_c2 (Q0 Kn Kr) g h := by
  obtain ⟨hg0, hg3, hg4, hds⟩ := hg
  refine wpC_seq' (x := n5_c1) (y := n5_c2) (Q' := (Q15 (fun z0b z0n z0c z3 z4 z5 h => n6 z0b z0n z0c z3 z4 z5 Kn Kr h) Kr)) (by kernel_rfl) ?_ ?_
  · refine wpC_of_wpx (by kernel_rfl) (by kernel_rfl) (g' := (((⟨g.v, []⟩ : Env).upd (some 0) (.slice x0b x0n x0c)).upd (some 3) (.pointer x3)).upd (some 4) (.pointer x4)) (by rw [env_ds hds, upd_self hg0, upd_self hg3, upd_self hg4]) ?_
    have e : (n5 x0b x0n x0c x3 x4 Kn Kr h) = wpx none Try.prog 153 n5_c1 (Q15 (fun z0b z0n z0c z3 z4 z5 h => n6 z0b z0n z0c z3 z4 z5 Kn Kr h) Kr) ((((⟨g.v, []⟩ : Env).upd (some 0) (.slice x0b x0n x0c)).upd (some 3) (.pointer x3)).upd (some 4) (.pointer x4)) h := by kernel_rfl
    exact e ▸ hS
  · intro e g' h' hq
    cases e with
    | normal =>
      have hq : D4 (fun z0b z0n z0c z3 z4 z5 h => n6 z0b z0n z0c z3 z4 z5 Kn Kr h) g' h' := hq
      obtain ⟨y0b, y0n, y0c, y3, y4, y5, hg', hq⟩ := D4_ok hq
      exact n6_ok y0b y0n y0c y3 y4 y5 Kn Kr g' hg' h' hq
    | _ => exact hq
def Q16 (Kn : T3) (Kr : T0) : XPost
  | .normal, g, h => D3 Kn g h
  | .ret, g, h => D0 Kr g h
  | _, _, _ => False
abbrev n4 (x0b : Option Addr) (x0n : Nat) (x0c : Nat) (x3 : Option Addr) (Kn : T0) (Kr : T0) (h : H) : Prop :=
  HCalls Try.prog 17 ⟨[]⟩ h fun v698 h699 => vPtr v698 fun p700 => n5 x0b x0n x0c x3 p700 Kn Kr h699
theorem n4_ok (x0b : Option Addr) (x0n : Nat) (x0c : Nat) (x3 : Option Addr) (Kn : T0) (Kr : T0) (g : Env) (hg : E2 g x0b x0n x0c x3) (h : H) (hS : n4 x0b x0n x0c x3 Kn Kr h) : wpC none Try.prog 153 n3_c2 (Q0 Kn Kr) g h := by
  obtain ⟨hg0, hg3, hds⟩ := hg
  refine wpC_seq' (x := n4_c1) (y := n4_c2) (Q' := (Q16 (fun z0b z0n z0c z3 z4 h => n5 z0b z0n z0c z3 z4 Kn Kr h) Kr)) (by kernel_rfl) ?_ ?_
  · refine wpC_of_wpx (by kernel_rfl) (by kernel_rfl) (g' := ((⟨g.v, []⟩ : Env).upd (some 0) (.slice x0b x0n x0c)).upd (some 3) (.pointer x3)) (by rw [env_ds hds, upd_self hg0, upd_self hg3]) ?_
    have e : (n4 x0b x0n x0c x3 Kn Kr h) = wpx none Try.prog 153 n4_c1 (Q16 (fun z0b z0n z0c z3 z4 h => n5 z0b z0n z0c z3 z4 Kn Kr h) Kr) (((⟨g.v, []⟩ : Env).upd (some 0) (.slice x0b x0n x0c)).upd (some 3) (.pointer x3)) h := by kernel_rfl
    exact e ▸ hS
  · intro e g' h' hq
    cases e with
    | normal =>
      have hq : D3 (fun z0b z0n z0c z3 z4 h => n5 z0b z0n z0c z3 z4 Kn Kr h) g' h' := hq
      obtain ⟨y0b, y0n, y0c, y3, y4, hg', hq⟩ := D3_ok hq
      exact n5_ok y0b y0n y0c y3 y4 Kn Kr g' hg' h' hq
    | _ => exact hq
def Q17 (Kn : T2) (Kr : T0) : XPost
  | .normal, g, h => D2 Kn g h
  | .ret, g, h => D0 Kr g h
  | _, _, _ => False
abbrev n3 (x0b : Option Addr) (x0n : Nat) (x0c : Nat) (Kn : T0) (Kr : T0) (h : H) : Prop :=
  HCalls Try.prog 9 ⟨[]⟩ h fun v701 h702 => vPtr v701 fun p703 => n4 x0b x0n x0c p703 Kn Kr h702
theorem n3_ok (x0b : Option Addr) (x0n : Nat) (x0c : Nat) (Kn : T0) (Kr : T0) (g : Env) (hg : E1 g x0b x0n x0c) (h : H) (hS : n3 x0b x0n x0c Kn Kr h) : wpC none Try.prog 153 n2_c2 (Q0 Kn Kr) g h := by
  obtain ⟨hg0, hds⟩ := hg
  refine wpC_seq' (x := n3_c1) (y := n3_c2) (Q' := (Q17 (fun z0b z0n z0c z3 h => n4 z0b z0n z0c z3 Kn Kr h) Kr)) (by kernel_rfl) ?_ ?_
  · refine wpC_of_wpx (by kernel_rfl) (by kernel_rfl) (g' := (⟨g.v, []⟩ : Env).upd (some 0) (.slice x0b x0n x0c)) (by rw [env_ds hds, upd_self hg0]) ?_
    have e : (n3 x0b x0n x0c Kn Kr h) = wpx none Try.prog 153 n3_c1 (Q17 (fun z0b z0n z0c z3 h => n4 z0b z0n z0c z3 Kn Kr h) Kr) ((⟨g.v, []⟩ : Env).upd (some 0) (.slice x0b x0n x0c)) h := by kernel_rfl
    exact e ▸ hS
  · intro e g' h' hq
    cases e with
    | normal =>
      have hq : D2 (fun z0b z0n z0c z3 h => n4 z0b z0n z0c z3 Kn Kr h) g' h' := hq
      obtain ⟨y0b, y0n, y0c, y3, hg', hq⟩ := D2_ok hq
      exact n4_ok y0b y0n y0c y3 Kn Kr g' hg' h' hq
    | _ => exact hq
def Q18 (Kn : T1) (Kr : T0) : XPost
  | .normal, g, h => D1 Kn g h
  | .ret, g, h => D0 Kr g h
  | _, _, _ => False
abbrev n2 (x0b : Option Addr) (x0n : Nat) (x0c : Nat) (Kn : T0) (Kr : T0) (h : H) : Prop :=
  HCalls Try.prog 7 ⟨[(.slice x0b x0n x0c)]⟩ h fun v704 h705 => vBool v704 fun b706 => cond b706 (HCalls Try.prog 8 ⟨[]⟩ h705 fun v707 h708 => vBool v707 fun b709 => cond b709 (Kr true h708) (Kr false h708)) (HCalls Try.prog 8 ⟨[]⟩ h705 fun v710 h711 => vBool v710 fun b712 => cond b712 (n3 x0b x0n x0c Kn Kr h711) (HCalls Try.prog 8 ⟨[]⟩ h711 fun v713 h714 => vBool v713 fun b715 => cond b715 (Kr true h714) (Kr false h714)))
theorem n2_ok (x0b : Option Addr) (x0n : Nat) (x0c : Nat) (Kn : T0) (Kr : T0) (g : Env) (hg : E1 g x0b x0n x0c) (h : H) (hS : n2 x0b x0n x0c Kn Kr h) : wpC none Try.prog 153 n1_c2 (Q0 Kn Kr) g h := by
  obtain ⟨hg0, hds⟩ := hg
  refine wpC_seq' (x := n2_c1) (y := n2_c2) (Q' := (Q18 (fun z0b z0n z0c h => n3 z0b z0n z0c Kn Kr h) Kr)) (by kernel_rfl) ?_ ?_
  · refine wpC_of_wpx (by kernel_rfl) (by kernel_rfl) (g' := (⟨g.v, []⟩ : Env).upd (some 0) (.slice x0b x0n x0c)) (by rw [env_ds hds, upd_self hg0]) ?_
    have e : (n2 x0b x0n x0c Kn Kr h) = wpx none Try.prog 153 n2_c1 (Q18 (fun z0b z0n z0c h => n3 z0b z0n z0c Kn Kr h) Kr) ((⟨g.v, []⟩ : Env).upd (some 0) (.slice x0b x0n x0c)) h := by kernel_rfl
    exact e ▸ hS
  · intro e g' h' hq
    cases e with
    | normal =>
      have hq : D1 (fun z0b z0n z0c h => n3 z0b z0n z0c Kn Kr h) g' h' := hq
      obtain ⟨y0b, y0n, y0c, hg', hq⟩ := D1_ok hq
      exact n3_ok y0b y0n y0c Kn Kr g' hg' h' hq
    | _ => exact hq
abbrev n1 (x0b : Option Addr) (x0n : Nat) (x0c : Nat) (Kn : T0) (Kr : T0) (h : H) : Prop :=
  n2 x0b x0n x0c Kn Kr h
theorem n1_ok (x0b : Option Addr) (x0n : Nat) (x0c : Nat) (Kn : T0) (Kr : T0) (g : Env) (hg : E1 g x0b x0n x0c) (h : H) (hS : n1 x0b x0n x0c Kn Kr h) : wpC none Try.prog 153 code (Q0 Kn Kr) g h := by
  obtain ⟨hg0, hds⟩ := hg
  refine wpC_seq' (x := n1_c1) (y := n1_c2) (Q' := (Q18 (fun z0b z0n z0c h => n2 z0b z0n z0c Kn Kr h) Kr)) (by kernel_rfl) ?_ ?_
  · refine wpC_of_wpx (by kernel_rfl) (by kernel_rfl) (g' := (⟨g.v, []⟩ : Env).upd (some 0) (.slice x0b x0n x0c)) (by rw [env_ds hds, upd_self hg0]) ?_
    have e : (n1 x0b x0n x0c Kn Kr h) = wpx none Try.prog 153 n1_c1 (Q18 (fun z0b z0n z0c h => n2 z0b z0n z0c Kn Kr h) Kr) ((⟨g.v, []⟩ : Env).upd (some 0) (.slice x0b x0n x0c)) h := by kernel_rfl
    exact e ▸ hS
  · intro e g' h' hq
    cases e with
    | normal =>
      have hq : D1 (fun z0b z0n z0c h => n2 z0b z0n z0c Kn Kr h) g' h' := hq
      obtain ⟨y0b, y0n, y0c, hg', hq⟩ := D1_ok hq
      exact n2_ok y0b y0n y0c Kn Kr g' hg' h' hq
    | _ => exact hq
/-- WHAT tympan/tympanlaw10.DomDoes ASKS -/
abbrev asks (x0b : Option Addr) (x0n : Nat) (x0c : Nat) (K : Value → H → Prop) (h : H) : Prop := n1 x0b x0n x0c (fun y2 h => K (.bool y2) h) (fun y2 h => K (.bool y2) h) h
theorem ok (x0b : Option Addr) (x0n : Nat) (x0c : Nat) (K : Value → H → Prop) (h : H) (hS : asks x0b x0n x0c K h) : HCalls Try.prog 4 ⟨[(.slice x0b x0n x0c)]⟩ h K := by
  refine calls_of_wpC (c := code) Try.func4 (by kernel_rfl) (Nat.le_of_ble_eq_true (by kernel_rfl)) ?_
  refine (n1_ok x0b x0n x0c (fun y2 h => K (.bool y2) h) (fun y2 h => K (.bool y2) h) (env0 [(.slice x0b x0n x0c)]) ⟨rfl, rfl⟩ h hS).mono ?_
  intro e g' h' hq
  cases e with
  | normal =>
    have hq : D0 (fun y2 h => K (.bool y2) h) g' h' := hq
    obtain ⟨y2, ⟨hg2, hd⟩, hq⟩ := D0_ok hq
    show leaveX g'.ds h' _
    rw [hd]
    show K (g'.v 2) h'
    rw [hg2]
    exact hq
  | ret =>
    have hq : D0 (fun y2 h => K (.bool y2) h) g' h' := hq
    obtain ⟨y2, ⟨hg2, hd⟩, hq⟩ := D0_ok hq
    show leaveX g'.ds h' _
    rw [hd]
    show K (g'.v 2) h'
    rw [hg2]
    exact hq
  | _ => exact hq
end Sx.l10_DomDoes

/-! ### tympan/tympanlaw10.stands -/
namespace Sx.l10_stands
noncomputable def code : Code := bodyOf Try.f28
abbrev T0 := Bool → H → Prop
def E0 (g : Env) (x6 : Bool) : Prop := g.v 6 = (.bool x6) ∧ g.ds = []
def D0 (K : T0) (g : Env) (h : H) : Prop := nilDs g.ds (vBool (g.v 6) fun b1 => K b1 h)
theorem D0_ok {K : T0} {g : Env} {h : H} (hq : D0 K g h) : ∃ (x6 : Bool), E0 g x6 ∧ K x6 h := by
  obtain ⟨hd, hq⟩ := nilDs_ok hq
  obtain ⟨y3, e2, q4⟩ := vBool_ok hq
  exact ⟨y3, ⟨e2, hd⟩, q4⟩
def Q0 (Kn : T0) (Kr : T0) : XPost
  | .normal, g, h => D0 Kn g h
  | .ret, g, h => D0 Kr g h
  | _, _, _ => False
abbrev T1 := (Option Addr) → (Option Addr) → Int → H → Prop
def E1 (g : Env) (x0 : Option Addr) (x1 : Option Addr) (x2 : Int) : Prop := g.v 0 = (.pointer x0) ∧ g.v 1 = (.pointer x1) ∧ g.v 2 = (.int .i64 x2) ∧ g.ds = []
def D1 (K : T1) (g : Env) (h : H) : Prop := nilDs g.ds (vPtr (g.v 0) fun p5 => vPtr (g.v 1) fun p6 => vInt .i64 (g.v 2) fun i7 => K p5 p6 i7 h)
theorem D1_ok {K : T1} {g : Env} {h : H} (hq : D1 K g h) : ∃ (x0 : Option Addr) (x1 : Option Addr) (x2 : Int), E1 g x0 x1 x2 ∧ K x0 x1 x2 h := by
  obtain ⟨hd, hq⟩ := nilDs_ok hq
  obtain ⟨y9, e8, q10⟩ := vPtr_ok hq
  obtain ⟨y12, e11, q13⟩ := vPtr_ok q10
  obtain ⟨y15, e14, q16⟩ := vInt_ok q13
  exact ⟨y9, y12, y15, ⟨e8, e11, e14, hd⟩, q16⟩
noncomputable def n1_c1 : Code := cFst code
noncomputable def n1_c2 : Code := cSnd code
noncomputable def n2_c1 : Code := cFst n1_c2
noncomputable def n2_c2 : Code := cSnd n1_c2
abbrev T2 := (Option Addr) → (Option Addr) → H → Prop
def E2 (g : Env) (x0 : Option Addr) (x1 : Option Addr) : Prop := g.v 0 = (.pointer x0) ∧ g.v 1 = (.pointer x1) ∧ g.ds = []
def D2 (K : T2) (g : Env) (h : H) : Prop := nilDs g.ds (vPtr (g.v 0) fun p17 => vPtr (g.v 1) fun p18 => K p17 p18 h)
theorem D2_ok {K : T2} {g : Env} {h : H} (hq : D2 K g h) : ∃ (x0 : Option Addr) (x1 : Option Addr), E2 g x0 x1 ∧ K x0 x1 h := by
  obtain ⟨hd, hq⟩ := nilDs_ok hq
  obtain ⟨y20, e19, q21⟩ := vPtr_ok hq
  obtain ⟨y23, e22, q24⟩ := vPtr_ok q21
  exact ⟨y20, y23, ⟨e19, e22, hd⟩, q24⟩
abbrev n3 (x0 : Option Addr) (x1 : Option Addr) (Kn : T0) (Kr : T0) (h : H) : Prop :=
  HCalls Try.prog 12 ⟨[(.pointer x0), (.int .i64 (0 : Int))]⟩ h fun v25 h26 => vSlice v25 fun s27b s27n s27c => HCalls Try.prog 53 ⟨[(.pointer x1), (.int .i64 (0 : Int))]⟩ h26 fun v28 h29 => vSlice v28 fun s30b s30n s30c => HCalls Try.prog 16 ⟨[(.slice s27b s27n s27c), (.slice s30b s30n s30c)]⟩ h29 fun v31 h32 => vBool v31 fun b33 => cond b33 (Kr true h32) (Kr false h32)
theorem n3_ok (x0 : Option Addr) (x1 : Option Addr) (Kn : T0) (Kr : T0) (g : Env) (hg : E2 g x0 x1) (h : H) (hS : n3 x0 x1 Kn Kr h) : wpC none Try.prog 35 n2_c2 (Q0 Kn Kr) g h := by
  obtain ⟨hg0, hg1, hds⟩ := hg
  refine wpC_of_wpx (by kernel_rfl) (by kernel_rfl) (g' := ((⟨g.v, []⟩ : Env).upd (some 0) (.pointer x0)).upd (some 1) (.pointer x1)) (by rw [env_ds hds, upd_self hg0, upd_self hg1]) ?_
  have e : (n3 x0 x1 Kn Kr h) = wpx none Try.prog 35 n2_c2 (Q0 Kn Kr) (((⟨g.v, []⟩ : Env).upd (some 0) (.pointer x0)).upd (some 1) (.pointer x1)) h := by kernel_rfl
  exact e ▸ hS
def Q1 (Kn : T2) (Kr : T0) : XPost
  | .normal, g, h => D2 Kn g h
  | .ret, g, h => D0 Kr g h
  | _, _, _ => False
noncomputable def n4_c1 : Code := cFst n2_c1
noncomputable def n4_c2 : Code := cSnd n2_c1
abbrev T3 := (Option Addr) → (Option Addr) → Int → Int → H → Prop
def E3 (g : Env) (x0 : Option Addr) (x1 : Option Addr) (x2 : Int) (x7 : Int) : Prop := g.v 0 = (.pointer x0) ∧ g.v 1 = (.pointer x1) ∧ g.v 2 = (.int .i64 x2) ∧ g.v 7 = (.int .i64 x7) ∧ g.ds = []
def D3 (K : T3) (g : Env) (h : H) : Prop := nilDs g.ds (vPtr (g.v 0) fun p34 => vPtr (g.v 1) fun p35 => vInt .i64 (g.v 2) fun i36 => vInt .i64 (g.v 7) fun i37 => K p34 p35 i36 i37 h)
theorem D3_ok {K : T3} {g : Env} {h : H} (hq : D3 K g h) : ∃ (x0 : Option Addr) (x1 : Option Addr) (x2 : Int) (x7 : Int), E3 g x0 x1 x2 x7 ∧ K x0 x1 x2 x7 h := by
  obtain ⟨hd, hq⟩ := nilDs_ok hq
  obtain ⟨y39, e38, q40⟩ := vPtr_ok hq
  obtain ⟨y42, e41, q43⟩ := vPtr_ok q40
  obtain ⟨y45, e44, q46⟩ := vInt_ok q43
  obtain ⟨y48, e47, q49⟩ := vInt_ok q46
  exact ⟨y39, y42, y45, y48, ⟨e38, e41, e44, e47, hd⟩, q49⟩
noncomputable def n5_c1 : Code := cFst n4_c2
def Q2 (Kn : T2) (Ke0 : T2) (Kr : T0) : XPost
  | .normal, g, h => D2 Kn g h
  | .ret, g, h => D0 Kr g h
  | .exit id, g, h => cond (Nat.beq id 0) (D2 Ke0 g h) (False)
  | _, _, _ => False
noncomputable def n6_c1 : Code := cFst n5_c1
def Q3 (Kn : T3) (Ke0 : T2) (Kr : T0) : XPost
  | .normal, g, h => D3 Kn g h
  | .ret, g, h => D0 Kr g h
  | .exit id, g, h => cond (Nat.beq id 0) (D2 Ke0 g h) (False)
  | _, _, _ => False
def n6_L (Kn : T2) (Ke0 : T2) (Kr : T0) : Nat → (Option Addr) → (Option Addr) → Int → Int → H → Prop
  | 0 => fun _ _ _ _ _ => False
  | N + 1 => fun x0 x1 x2 x7 h => Spl (x7 ≤ x2) (HCalls Try.prog 49 ⟨[(.pointer x0), (.int .i64 x7)]⟩ h fun v50 h51 => vInt .i64 v50 fun i52 => HCalls Try.prog 50 ⟨[(.pointer x1), (.int .i64 x7)]⟩ h51 fun v53 h54 => vInt .i64 v53 fun i55 => Spl (i52 = i55) (HCalls Try.prog 15 ⟨[(.pointer x0), (.int .i64 x7)]⟩ h54 fun v56 h57 => vSlice v56 fun s58b s58n s58c => HCalls Try.prog 52 ⟨[(.pointer x1), (.int .i64 x7)]⟩ h57 fun v59 h60 => vSlice v59 fun s61b s61n s61c => HCalls Try.prog 51 ⟨[(.slice s58b s58n s58c), (.slice s61b s61n s61c)]⟩ h60 fun v62 h63 => vBool v62 fun b64 => cond b64 (Rng .i64 (x7 + (1 : Int)) ∧ (n6_L Kn Ke0 Kr N x0 x1 x2 (x7 + (1 : Int)) h63)) (Kr false h63)) (Kr false h54)) (Ke0 x0 x1 h)
abbrev n6 (x0 : Option Addr) (x1 : Option Addr) (x2 : Int) (x7 : Int) (Kn : T2) (Ke0 : T2) (Kr : T0) (h : H) : Prop := ∃ N, n6_L Kn Ke0 Kr N x0 x1 x2 x7 h
theorem n6_ok (x0 : Option Addr) (x1 : Option Addr) (x2 : Int) (x7 : Int) (Kn : T2) (Ke0 : T2) (Kr : T0) (g : Env) (hg : E3 g x0 x1 x2 x7) (h : H) (hS : n6 x0 x1 x2 x7 Kn Ke0 Kr h) : wpC none Try.prog 35 n5_c1 (Q2 Kn Ke0 Kr) g h := by
  obtain ⟨N0, hS⟩ := hS
  refine wpC_loop' (x := n6_c1) (by kernel_rfl) (fun k g h => ∃ (x0 : Option Addr) (x1 : Option Addr) (x2 : Int) (x7 : Int), E3 g x0 x1 x2 x7 ∧ n6_L Kn Ke0 Kr k x0 x1 x2 x7 h) (fun g h hr => ?_) (fun N g h hr => ?_) N0 ⟨x0, x1, x2, x7, hg, hS⟩
  · obtain ⟨x0, x1, x2, x7, hg, hS⟩ := hr
    exact hS.elim
  · obtain ⟨x0, x1, x2, x7, hg, hS⟩ := hr
    have hw : wpC none Try.prog 35 n6_c1 (Q3 (fun z0 z1 z2 z7 h => n6_L Kn Ke0 Kr N z0 z1 z2 z7 h) Ke0 Kr) g h := by
      obtain ⟨hg0, hg1, hg2, hg7, hds⟩ := hg
      refine wpC_of_wpx (by kernel_rfl) (by kernel_rfl) (g' := ((((⟨g.v, []⟩ : Env).upd (some 0) (.pointer x0)).upd (some 1) (.pointer x1)).upd (some 2) (.int .i64 x2)).upd (some 7) (.int .i64 x7)) (by rw [env_ds hds, upd_self hg0, upd_self hg1, upd_self hg2, upd_self hg7]) ?_
      have e : (n6_L Kn Ke0 Kr (N + 1) x0 x1 x2 x7 h) = wpx none Try.prog 35 n6_c1 (Q3 (fun z0 z1 z2 z7 h => n6_L Kn Ke0 Kr N z0 z1 z2 z7 h) Ke0 Kr) (((((⟨g.v, []⟩ : Env).upd (some 0) (.pointer x0)).upd (some 1) (.pointer x1)).upd (some 2) (.int .i64 x2)).upd (some 7) (.int .i64 x7)) h := by kernel_rfl
      exact e ▸ hS
    refine hw.mono ?_
    intro e g' h' hq
    cases e with
    | normal => exact D3_ok (K := (fun z0 z1 z2 z7 h => n6_L Kn Ke0 Kr N z0 z1 z2 z7 h)) hq
    | _ => exact hq
abbrev n5 (x0 : Option Addr) (x1 : Option Addr) (x2 : Int) (x7 : Int) (Kn : T2) (Kr : T0) (h : H) : Prop := n6 x0 x1 x2 x7 Kn Kn Kr h
theorem n5_ok (x0 : Option Addr) (x1 : Option Addr) (x2 : Int) (x7 : Int) (Kn : T2) (Kr : T0) (g : Env) (hg : E3 g x0 x1 x2 x7) (h : H) (hS : n5 x0 x1 x2 x7 Kn Kr h) : wpC none Try.prog 35 n4_c2 (Q1 Kn Kr) g h := by
  refine wpC_block' (id := 0) (x := n5_c1) (by kernel_rfl) (n6_ok x0 x1 x2 x7 Kn Kn Kr g hg h hS) ?_
  intro e g' h' hq
  cases e <;> exact hq
def Q4 (Kn : T3) (Kr : T0) : XPost
  | .normal, g, h => D3 Kn g h
  | .ret, g, h => D0 Kr g h
  | _, _, _ => False
abbrev n4 (x0 : Option Addr) (x1 : Option Addr) (x2 : Int) (Kn : T2) (Kr : T0) (h : H) : Prop :=
  n5 x0 x1 x2 (-1 : Int) Kn Kr h
theorem n4_ok (x0 : Option Addr) (x1 : Option Addr) (x2 : Int) (Kn : T2) (Kr : T0) (g : Env) (hg : E1 g x0 x1 x2) (h : H) (hS : n4 x0 x1 x2 Kn Kr h) : wpC none Try.prog 35 n2_c1 (Q1 Kn Kr) g h := by
  obtain ⟨hg0, hg1, hg2, hds⟩ := hg
  refine wpC_seq' (x := n4_c1) (y := n4_c2) (Q' := (Q4 (fun z0 z1 z2 z7 h => n5 z0 z1 z2 z7 Kn Kr h) Kr)) (by kernel_rfl) ?_ ?_
  · refine wpC_of_wpx (by kernel_rfl) (by kernel_rfl) (g' := (((⟨g.v, []⟩ : Env).upd (some 0) (.pointer x0)).upd (some 1) (.pointer x1)).upd (some 2) (.int .i64 x2)) (by rw [env_ds hds, upd_self hg0, upd_self hg1, upd_self hg2]) ?_
    have e : (n4 x0 x1 x2 Kn Kr h) = wpx none Try.prog 35 n4_c1 (Q4 (fun z0 z1 z2 z7 h => n5 z0 z1 z2 z7 Kn Kr h) Kr) ((((⟨g.v, []⟩ : Env).upd (some 0) (.pointer x0)).upd (some 1) (.pointer x1)).upd (some 2) (.int .i64 x2)) h := by kernel_rfl
    exact e ▸ hS
  · intro e g' h' hq
    cases e with
    | normal =>
      have hq : D3 (fun z0 z1 z2 z7 h => n5 z0 z1 z2 z7 Kn Kr h) g' h' := hq
      obtain ⟨y0, y1, y2, y7, hg', hq⟩ := D3_ok hq
      exact n5_ok y0 y1 y2 y7 Kn Kr g' hg' h' hq
    | _ => exact hq
abbrev n2 (x0 : Option Addr) (x1 : Option Addr) (x2 : Int) (Kn : T0) (Kr : T0) (h : H) : Prop := n4 x0 x1 x2 (fun z0 z1 h => n3 z0 z1 Kn Kr h) Kr h
theorem n2_ok (x0 : Option Addr) (x1 : Option Addr) (x2 : Int) (Kn : T0) (Kr : T0) (g : Env) (hg : E1 g x0 x1 x2) (h : H) (hS : n2 x0 x1 x2 Kn Kr h) : wpC none Try.prog 35 n1_c2 (Q0 Kn Kr) g h := by
  refine wpC_seq' (x := n2_c1) (y := n2_c2) (by kernel_rfl) (n4_ok x0 x1 x2 (fun z0 z1 h => n3 z0 z1 Kn Kr h) Kr g hg h hS) ?_
  intro e g' h' hq
  cases e with
  | normal =>
    have hq : D2 (fun z0 z1 h => n3 z0 z1 Kn Kr h) g' h' := hq
    obtain ⟨y0, y1, hg', hq⟩ := D2_ok hq
    exact n3_ok y0 y1 Kn Kr g' hg' h' hq
  | _ => exact hq
def Q5 (Kn : T1) (Kr : T0) : XPost
  | .normal, g, h => D1 Kn g h
  | .ret, g, h => D0 Kr g h
  | _, _, _ => False
abbrev n1 (x0 : Option Addr) (x1 : Option Addr) (x2 : Int) (Kn : T0) (Kr : T0) (h : H) : Prop :=
  n2 x0 x1 x2 Kn Kr h
theorem n1_ok (x0 : Option Addr) (x1 : Option Addr) (x2 : Int) (Kn : T0) (Kr : T0) (g : Env) (hg : E1 g x0 x1 x2) (h : H) (hS : n1 x0 x1 x2 Kn Kr h) : wpC none Try.prog 35 code (Q0 Kn Kr) g h := by
  obtain ⟨hg0, hg1, hg2, hds⟩ := hg
  refine wpC_seq' (x := n1_c1) (y := n1_c2) (Q' := (Q5 (fun z0 z1 z2 h => n2 z0 z1 z2 Kn Kr h) Kr)) (by kernel_rfl) ?_ ?_
  · refine wpC_of_wpx (by kernel_rfl) (by kernel_rfl) (g' := (((⟨g.v, []⟩ : Env).upd (some 0) (.pointer x0)).upd (some 1) (.pointer x1)).upd (some 2) (.int .i64 x2)) (by rw [env_ds hds, upd_self hg0, upd_self hg1, upd_self hg2]) ?_
    have e : (n1 x0 x1 x2 Kn Kr h) = wpx none Try.prog 35 n1_c1 (Q5 (fun z0 z1 z2 h => n2 z0 z1 z2 Kn Kr h) Kr) ((((⟨g.v, []⟩ : Env).upd (some 0) (.pointer x0)).upd (some 1) (.pointer x1)).upd (some 2) (.int .i64 x2)) h := by kernel_rfl
    exact e ▸ hS
  · intro e g' h' hq
    cases e with
    | normal =>
      have hq : D1 (fun z0 z1 z2 h => n2 z0 z1 z2 Kn Kr h) g' h' := hq
      obtain ⟨y0, y1, y2, hg', hq⟩ := D1_ok hq
      exact n2_ok y0 y1 y2 Kn Kr g' hg' h' hq
    | _ => exact hq
/-- WHAT tympan/tympanlaw10.stands ASKS -/
abbrev asks (x0 : Option Addr) (x1 : Option Addr) (x2 : Int) (K : Value → H → Prop) (h : H) : Prop := n1 x0 x1 x2 (fun y6 h => K (.bool y6) h) (fun y6 h => K (.bool y6) h) h
theorem ok (x0 : Option Addr) (x1 : Option Addr) (x2 : Int) (K : Value → H → Prop) (h : H) (hS : asks x0 x1 x2 K h) : HCalls Try.prog 28 ⟨[(.pointer x0), (.pointer x1), (.int .i64 x2)]⟩ h K := by
  refine calls_of_wpC (c := code) Try.func28 (by kernel_rfl) (Nat.le_of_ble_eq_true (by kernel_rfl)) ?_
  refine (n1_ok x0 x1 x2 (fun y6 h => K (.bool y6) h) (fun y6 h => K (.bool y6) h) (env0 [(.pointer x0), (.pointer x1), (.int .i64 x2)]) ⟨rfl, rfl, rfl, rfl⟩ h hS).mono ?_
  intro e g' h' hq
  cases e with
  | normal =>
    have hq : D0 (fun y6 h => K (.bool y6) h) g' h' := hq
    obtain ⟨y6, ⟨hg6, hd⟩, hq⟩ := D0_ok hq
    show leaveX g'.ds h' _
    rw [hd]
    show K (g'.v 6) h'
    rw [hg6]
    exact hq
  | ret =>
    have hq : D0 (fun y6 h => K (.bool y6) h) g' h' := hq
    obtain ⟨y6, ⟨hg6, hd⟩, hq⟩ := D0_ok hq
    show leaveX g'.ds h' _
    rw [hd]
    show K (g'.v 6) h'
    rw [hg6]
    exact hq
  | _ => exact hq
end Sx.l10_stands
end Go.Proofs
