/- The shallow forms of functions, printed by sh.py out of the translation; each with its proof. No condition. -/
import Derived.Test.YtoojoogbkbfpcaaShJ
import Derived.Test.YtoojoogbkbfpcaaProg
namespace Go.Proofs
open Go Go.Sh
set_option linter.unusedVariables false
set_option maxRecDepth 100000

/-! ### tympan/tympanlaw12.MarksPush -/
namespace Sx.l12_MarksPush
noncomputable def code : Code := bodyOf Try.f3
abbrev T0 := Bool → H → Prop
def E0 (g : Env) (x4 : Bool) : Prop := g.v 4 = (.bool x4) ∧ g.ds = []
def D0 (K : T0) (g : Env) (h : H) : Prop := nilDs g.ds (vBool (g.v 4) fun b1 => K b1 h)
theorem D0_ok {K : T0} {g : Env} {h : H} (hq : D0 K g h) : ∃ (x4 : Bool), E0 g x4 ∧ K x4 h := by
  obtain ⟨hd, hq⟩ := nilDs_ok hq
  obtain ⟨y3, e2, q4⟩ := vBool_ok hq
  exact ⟨y3, ⟨e2, hd⟩, q4⟩
def Q0 (Kn : T0) (Kr : T0) : XPost
  | .normal, g, h => D0 Kn g h
  | .ret, g, h => D0 Kr g h
  | _, _, _ => False
abbrev T1 := (Option Addr) → Nat → Nat → Int → (List UInt8) → (Option Addr) → Nat → Nat → H → Prop
def E1 (g : Env) (x0b : Option Addr) (x0n : Nat) (x0c : Nat) (x1_0 : Int) (x1_1 : List UInt8) (x1_2b : Option Addr) (x1_2n : Nat) (x1_2c : Nat) : Prop := g.v 0 = (.slice x0b x0n x0c) ∧ g.v 1 = (.agg ⟨[(.int .i64 x1_0), (S x1_1), (.slice x1_2b x1_2n x1_2c)]⟩) ∧ g.ds = []
def D1 (K : T1) (g : Env) (h : H) : Prop := nilDs g.ds (vSlice (g.v 0) fun s5b s5n s5c => vAgg (g.v 1) fun l6 => uncons l6 fun e7 l8 => vInt .i64 e7 fun i9 => uncons l8 fun e10 l11 => vStr e10 fun s12 => uncons l11 fun e13 l14 => vSlice e13 fun s15b s15n s15c => unnil l14 (K s5b s5n s5c i9 s12 s15b s15n s15c h))
theorem D1_ok {K : T1} {g : Env} {h : H} (hq : D1 K g h) : ∃ (x0b : Option Addr) (x0n : Nat) (x0c : Nat) (x1_0 : Int) (x1_1 : List UInt8) (x1_2b : Option Addr) (x1_2n : Nat) (x1_2c : Nat), E1 g x0b x0n x0c x1_0 x1_1 x1_2b x1_2n x1_2c ∧ K x0b x0n x0c x1_0 x1_1 x1_2b x1_2n x1_2c h := by
  obtain ⟨hd, hq⟩ := nilDs_ok hq
  obtain ⟨y17b, y17n, y17c, e16, q18⟩ := vSlice_ok hq
  obtain ⟨l20, e19, q21⟩ := vAgg_ok q18
  obtain ⟨u22, l23, rfl, q24⟩ := uncons_ok q21
  obtain ⟨y25, rfl, q26⟩ := vInt_ok q24
  obtain ⟨u27, l28, rfl, q29⟩ := uncons_ok q26
  obtain ⟨y30, rfl, q31⟩ := vStr_ok q29
  obtain ⟨u32, l33, rfl, q34⟩ := uncons_ok q31
  obtain ⟨y35b, y35n, y35c, rfl, q36⟩ := vSlice_ok q34
  obtain ⟨rfl, q37⟩ := unnil_ok q36
  exact ⟨y17b, y17n, y17c, y25, y30, y35b, y35n, y35c, ⟨e16, e19, hd⟩, q37⟩
noncomputable def n1_c1 : Code := cFst code
noncomputable def n1_c2 : Code := cSnd code
abbrev T2 := (Option Addr) → Nat → Nat → Addr → H → Prop
def E2 (g : Env) (x0b : Option Addr) (x0n : Nat) (x0c : Nat) (x3 : Addr) : Prop := g.v 0 = (.slice x0b x0n x0c) ∧ g.v 3 = (.pointer (some x3)) ∧ g.ds = []
def D2 (K : T2) (g : Env) (h : H) : Prop := nilDs g.ds (vSlice (g.v 0) fun s38b s38n s38c => vAddr (g.v 3) fun a39 => K s38b s38n s38c a39 h)
theorem D2_ok {K : T2} {g : Env} {h : H} (hq : D2 K g h) : ∃ (x0b : Option Addr) (x0n : Nat) (x0c : Nat) (x3 : Addr), E2 g x0b x0n x0c x3 ∧ K x0b x0n x0c x3 h := by
  obtain ⟨hd, hq⟩ := nilDs_ok hq
  obtain ⟨y41b, y41n, y41c, e40, q42⟩ := vSlice_ok hq
  obtain ⟨y44, e43, q45⟩ := vAddr_ok q42
  exact ⟨y41b, y41n, y41c, y44, ⟨e40, e43, hd⟩, q45⟩
noncomputable def n2_c1 : Code := cFst n1_c2
noncomputable def n2_c2 : Code := cSnd n1_c2
noncomputable def n3_c1 : Code := cFst n2_c2
noncomputable def n3_c2 : Code := cSnd n2_c2
abbrev T3 := (Option Addr) → Nat → Nat → Addr → (Option Addr) → Nat → Nat → H → Prop
def E3 (g : Env) (x0b : Option Addr) (x0n : Nat) (x0c : Nat) (x3 : Addr) (x5b : Option Addr) (x5n : Nat) (x5c : Nat) : Prop := g.v 0 = (.slice x0b x0n x0c) ∧ g.v 3 = (.pointer (some x3)) ∧ g.v 5 = (.slice x5b x5n x5c) ∧ g.ds = []
def D3 (K : T3) (g : Env) (h : H) : Prop := nilDs g.ds (vSlice (g.v 0) fun s46b s46n s46c => vAddr (g.v 3) fun a47 => vSlice (g.v 5) fun s48b s48n s48c => K s46b s46n s46c a47 s48b s48n s48c h)
theorem D3_ok {K : T3} {g : Env} {h : H} (hq : D3 K g h) : ∃ (x0b : Option Addr) (x0n : Nat) (x0c : Nat) (x3 : Addr) (x5b : Option Addr) (x5n : Nat) (x5c : Nat), E3 g x0b x0n x0c x3 x5b x5n x5c ∧ K x0b x0n x0c x3 x5b x5n x5c h := by
  obtain ⟨hd, hq⟩ := nilDs_ok hq
  obtain ⟨y50b, y50n, y50c, e49, q51⟩ := vSlice_ok hq
  obtain ⟨y53, e52, q54⟩ := vAddr_ok q51
  obtain ⟨y56b, y56n, y56c, e55, q57⟩ := vSlice_ok q54
  exact ⟨y50b, y50n, y50c, y53, y56b, y56n, y56c, ⟨e49, e52, e55, hd⟩, q57⟩
noncomputable def n4_c1 : Code := cFst n3_c2
noncomputable def n4_c2 : Code := cSnd n3_c2
noncomputable def n5_c1 : Code := cFst n4_c2
noncomputable def n5_c2 : Code := cSnd n4_c2
abbrev T4 := (Option Addr) → Nat → Nat → Addr → (Option Addr) → Nat → Nat → (Option Addr) → Nat → Nat → H → Prop
def E4 (g : Env) (x0b : Option Addr) (x0n : Nat) (x0c : Nat) (x3 : Addr) (x5b : Option Addr) (x5n : Nat) (x5c : Nat) (x6b : Option Addr) (x6n : Nat) (x6c : Nat) : Prop := g.v 0 = (.slice x0b x0n x0c) ∧ g.v 3 = (.pointer (some x3)) ∧ g.v 5 = (.slice x5b x5n x5c) ∧ g.v 6 = (.slice x6b x6n x6c) ∧ g.ds = []
def D4 (K : T4) (g : Env) (h : H) : Prop := nilDs g.ds (vSlice (g.v 0) fun s58b s58n s58c => vAddr (g.v 3) fun a59 => vSlice (g.v 5) fun s60b s60n s60c => vSlice (g.v 6) fun s61b s61n s61c => K s58b s58n s58c a59 s60b s60n s60c s61b s61n s61c h)
theorem D4_ok {K : T4} {g : Env} {h : H} (hq : D4 K g h) : ∃ (x0b : Option Addr) (x0n : Nat) (x0c : Nat) (x3 : Addr) (x5b : Option Addr) (x5n : Nat) (x5c : Nat) (x6b : Option Addr) (x6n : Nat) (x6c : Nat), E4 g x0b x0n x0c x3 x5b x5n x5c x6b x6n x6c ∧ K x0b x0n x0c x3 x5b x5n x5c x6b x6n x6c h := by
  obtain ⟨hd, hq⟩ := nilDs_ok hq
  obtain ⟨y63b, y63n, y63c, e62, q64⟩ := vSlice_ok hq
  obtain ⟨y66, e65, q67⟩ := vAddr_ok q64
  obtain ⟨y69b, y69n, y69c, e68, q70⟩ := vSlice_ok q67
  obtain ⟨y72b, y72n, y72c, e71, q73⟩ := vSlice_ok q70
  exact ⟨y63b, y63n, y63c, y66, y69b, y69n, y69c, y72b, y72n, y72c, ⟨e62, e65, e68, e71, hd⟩, q73⟩
noncomputable def n6_c1 : Code := cFst n5_c2
noncomputable def n6_c2 : Code := cSnd n5_c2
abbrev T5 := (Option Addr) → Nat → Nat → (Option Addr) → Nat → Nat → (Option Addr) → Nat → Nat → Bool → H → Prop
def E5 (g : Env) (x0b : Option Addr) (x0n : Nat) (x0c : Nat) (x5b : Option Addr) (x5n : Nat) (x5c : Nat) (x6b : Option Addr) (x6n : Nat) (x6c : Nat) (x7 : Bool) : Prop := g.v 0 = (.slice x0b x0n x0c) ∧ g.v 5 = (.slice x5b x5n x5c) ∧ g.v 6 = (.slice x6b x6n x6c) ∧ g.v 7 = (.bool x7) ∧ g.ds = []
def D5 (K : T5) (g : Env) (h : H) : Prop := nilDs g.ds (vSlice (g.v 0) fun s74b s74n s74c => vSlice (g.v 5) fun s75b s75n s75c => vSlice (g.v 6) fun s76b s76n s76c => vBool (g.v 7) fun b77 => K s74b s74n s74c s75b s75n s75c s76b s76n s76c b77 h)
theorem D5_ok {K : T5} {g : Env} {h : H} (hq : D5 K g h) : ∃ (x0b : Option Addr) (x0n : Nat) (x0c : Nat) (x5b : Option Addr) (x5n : Nat) (x5c : Nat) (x6b : Option Addr) (x6n : Nat) (x6c : Nat) (x7 : Bool), E5 g x0b x0n x0c x5b x5n x5c x6b x6n x6c x7 ∧ K x0b x0n x0c x5b x5n x5c x6b x6n x6c x7 h := by
  obtain ⟨hd, hq⟩ := nilDs_ok hq
  obtain ⟨y79b, y79n, y79c, e78, q80⟩ := vSlice_ok hq
  obtain ⟨y82b, y82n, y82c, e81, q83⟩ := vSlice_ok q80
  obtain ⟨y85b, y85n, y85c, e84, q86⟩ := vSlice_ok q83
  obtain ⟨y88, e87, q89⟩ := vBool_ok q86
  exact ⟨y79b, y79n, y79c, y82b, y82n, y82c, y85b, y85n, y85c, y88, ⟨e78, e81, e84, e87, hd⟩, q89⟩
noncomputable def n7_c1 : Code := cFst n6_c2
noncomputable def n7_c2 : Code := cSnd n6_c2
abbrev T6 := (Option Addr) → Nat → Nat → (Option Addr) → Nat → Nat → Bool → H → Prop
def E6 (g : Env) (x0b : Option Addr) (x0n : Nat) (x0c : Nat) (x5b : Option Addr) (x5n : Nat) (x5c : Nat) (x7 : Bool) : Prop := g.v 0 = (.slice x0b x0n x0c) ∧ g.v 5 = (.slice x5b x5n x5c) ∧ g.v 7 = (.bool x7) ∧ g.ds = []
def D6 (K : T6) (g : Env) (h : H) : Prop := nilDs g.ds (vSlice (g.v 0) fun s90b s90n s90c => vSlice (g.v 5) fun s91b s91n s91c => vBool (g.v 7) fun b92 => K s90b s90n s90c s91b s91n s91c b92 h)
theorem D6_ok {K : T6} {g : Env} {h : H} (hq : D6 K g h) : ∃ (x0b : Option Addr) (x0n : Nat) (x0c : Nat) (x5b : Option Addr) (x5n : Nat) (x5c : Nat) (x7 : Bool), E6 g x0b x0n x0c x5b x5n x5c x7 ∧ K x0b x0n x0c x5b x5n x5c x7 h := by
  obtain ⟨hd, hq⟩ := nilDs_ok hq
  obtain ⟨y94b, y94n, y94c, e93, q95⟩ := vSlice_ok hq
  obtain ⟨y97b, y97n, y97c, e96, q98⟩ := vSlice_ok q95
  obtain ⟨y100, e99, q101⟩ := vBool_ok q98
  exact ⟨y94b, y94n, y94c, y97b, y97n, y97c, y100, ⟨e93, e96, e99, hd⟩, q101⟩
abbrev n8 (x0b : Option Addr) (x0n : Nat) (x0c : Nat) (x5b : Option Addr) (x5n : Nat) (x5c : Nat) (x7 : Bool) (Kn : T0) (Kr : T0) (h : H) : Prop :=
  HCalls Try.prog 12 ⟨[]⟩ h fun v102 h103 => vBool v102 fun b104 => cond b104 (cond x7 ((0 ≤ (0 : Int) ∧ (0 : Int) ≤ (x0n : Int) ∧ (x0n : Int) ≤ (x5c : Int)) ∧ (HCalls Try.prog 10 ⟨[(.slice (if x5c = Int.toNat (0 : Int) then x5b else Option.map (fun q => q.add (Int.toNat (0 : Int) * 3)) x5b) (Int.toNat (x0n : Int) - Int.toNat (0 : Int)) (x5c - Int.toNat (0 : Int))), (.slice x0b x0n x0c)]⟩ h103 fun v105 h106 => vBool v105 fun b107 => cond b107 ((0 ≤ (x0n : Int) ∧ (x0n : Int) < (x5n : Int)) ∧ (vSome x5b fun a108 => ∃ i109, cell h106 ((a108.add (Int.toNat (x0n : Int) * 3)).add 0) = some (.int .i64 i109) ∧ (Spl (i109 = (99 : Int)) (Kr true h106) (Kr false h106)))) (Kr false h106))) (Kr false h103)) (Kr false h103)
theorem n8_ok (x0b : Option Addr) (x0n : Nat) (x0c : Nat) (x5b : Option Addr) (x5n : Nat) (x5c : Nat) (x7 : Bool) (Kn : T0) (Kr : T0) (g : Env) (hg : E6 g x0b x0n x0c x5b x5n x5c x7) (h : H) (hS : n8 x0b x0n x0c x5b x5n x5c x7 Kn Kr h) : wpC none Try.prog 64 n7_c2 (Q0 Kn Kr) g h := by
  obtain ⟨hg0, hg5, hg7, hds⟩ := hg
  refine wpC_of_wpx (by kernel_rfl) (by kernel_rfl) (g' := (((⟨g.v, []⟩ : Env).upd (some 0) (.slice x0b x0n x0c)).upd (some 5) (.slice x5b x5n x5c)).upd (some 7) (.bool x7)) (by rw [env_ds hds, upd_self hg0, upd_self hg5, upd_self hg7]) ?_
  have e : (n8 x0b x0n x0c x5b x5n x5c x7 Kn Kr h) = wpx none Try.prog 64 n7_c2 (Q0 Kn Kr) ((((⟨g.v, []⟩ : Env).upd (some 0) (.slice x0b x0n x0c)).upd (some 5) (.slice x5b x5n x5c)).upd (some 7) (.bool x7)) h := by kernel_rfl
  exact e ▸ hS
def Q1 (Kn : T6) (Kr : T0) : XPost
  | .normal, g, h => D6 Kn g h
  | .ret, g, h => D0 Kr g h
  | _, _, _ => False
noncomputable def n9_c1 : Code := cFst n7_c1
noncomputable def n9_c2 : Code := cSnd n7_c1
abbrev T7 := (Option Addr) → Nat → Nat → (Option Addr) → Nat → Nat → (Option Addr) → Nat → Nat → Bool → Int → H → Prop
def E7 (g : Env) (x0b : Option Addr) (x0n : Nat) (x0c : Nat) (x5b : Option Addr) (x5n : Nat) (x5c : Nat) (x6b : Option Addr) (x6n : Nat) (x6c : Nat) (x7 : Bool) (x8 : Int) : Prop := g.v 0 = (.slice x0b x0n x0c) ∧ g.v 5 = (.slice x5b x5n x5c) ∧ g.v 6 = (.slice x6b x6n x6c) ∧ g.v 7 = (.bool x7) ∧ g.v 8 = (.int .i64 x8) ∧ g.ds = []
def D7 (K : T7) (g : Env) (h : H) : Prop := nilDs g.ds (vSlice (g.v 0) fun s110b s110n s110c => vSlice (g.v 5) fun s111b s111n s111c => vSlice (g.v 6) fun s112b s112n s112c => vBool (g.v 7) fun b113 => vInt .i64 (g.v 8) fun i114 => K s110b s110n s110c s111b s111n s111c s112b s112n s112c b113 i114 h)
theorem D7_ok {K : T7} {g : Env} {h : H} (hq : D7 K g h) : ∃ (x0b : Option Addr) (x0n : Nat) (x0c : Nat) (x5b : Option Addr) (x5n : Nat) (x5c : Nat) (x6b : Option Addr) (x6n : Nat) (x6c : Nat) (x7 : Bool) (x8 : Int), E7 g x0b x0n x0c x5b x5n x5c x6b x6n x6c x7 x8 ∧ K x0b x0n x0c x5b x5n x5c x6b x6n x6c x7 x8 h := by
  obtain ⟨hd, hq⟩ := nilDs_ok hq
  obtain ⟨y116b, y116n, y116c, e115, q117⟩ := vSlice_ok hq
  obtain ⟨y119b, y119n, y119c, e118, q120⟩ := vSlice_ok q117
  obtain ⟨y122b, y122n, y122c, e121, q123⟩ := vSlice_ok q120
  obtain ⟨y125, e124, q126⟩ := vBool_ok q123
  obtain ⟨y128, e127, q129⟩ := vInt_ok q126
  exact ⟨y116b, y116n, y116c, y119b, y119n, y119c, y122b, y122n, y122c, y125, y128, ⟨e115, e118, e121, e124, e127, hd⟩, q129⟩
noncomputable def n10_c1 : Code := cFst n9_c2
def Q2 (Kn : T6) (Ke0 : T6) (Kr : T0) : XPost
  | .normal, g, h => D6 Kn g h
  | .ret, g, h => D0 Kr g h
  | .exit id, g, h => cond (Nat.beq id 0) (D6 Ke0 g h) (False)
  | _, _, _ => False
noncomputable def n11_c1 : Code := cFst n10_c1
def Q3 (Kn : T7) (Ke0 : T6) (Kr : T0) : XPost
  | .normal, g, h => D7 Kn g h
  | .ret, g, h => D0 Kr g h
  | .exit id, g, h => cond (Nat.beq id 0) (D6 Ke0 g h) (False)
  | _, _, _ => False
def n11_L (Kn : T6) (Ke0 : T6) (Kr : T0) : Nat → (Option Addr) → Nat → Nat → (Option Addr) → Nat → Nat → (Option Addr) → Nat → Nat → Bool → Int → H → Prop
  | 0, _, _, _, _, _, _, _, _, _, _, _, _ => False
  | N + 1, x0b, x0n, x0c, x5b, x5n, x5c, x6b, x6n, x6c, x7, x8, h => Spl (x8 < (x6n : Int)) ((0 ≤ x8 ∧ x8 < (x6n : Int)) ∧ (vSome x6b fun a130 => stL (a130.add (Int.toNat x8 * 3)) [(.int .i64 (-9 : Int)), (S ([115, 112, 111, 105, 108, 116] : List UInt8)), (.slice none 0 0)] 0 h fun h131 => Rng .i64 (x8 + (1 : Int)) ∧ (n11_L Kn Ke0 Kr N x0b x0n x0c x5b x5n x5c x6b x6n x6c x7 (x8 + (1 : Int)) h131))) (Ke0 x0b x0n x0c x5b x5n x5c x7 h)
abbrev n11 (x0b : Option Addr) (x0n : Nat) (x0c : Nat) (x5b : Option Addr) (x5n : Nat) (x5c : Nat) (x6b : Option Addr) (x6n : Nat) (x6c : Nat) (x7 : Bool) (x8 : Int) (Kn : T6) (Ke0 : T6) (Kr : T0) (h : H) : Prop := ∃ N, n11_L Kn Ke0 Kr N x0b x0n x0c x5b x5n x5c x6b x6n x6c x7 x8 h
theorem n11_ok (x0b : Option Addr) (x0n : Nat) (x0c : Nat) (x5b : Option Addr) (x5n : Nat) (x5c : Nat) (x6b : Option Addr) (x6n : Nat) (x6c : Nat) (x7 : Bool) (x8 : Int) (Kn : T6) (Ke0 : T6) (Kr : T0) (g : Env) (hg : E7 g x0b x0n x0c x5b x5n x5c x6b x6n x6c x7 x8) (h : H) (hS : n11 x0b x0n x0c x5b x5n x5c x6b x6n x6c x7 x8 Kn Ke0 Kr h) : wpC none Try.prog 64 n10_c1 (Q2 Kn Ke0 Kr) g h := by
  obtain ⟨N0, hS⟩ := hS
  refine wpC_loop' (x := n11_c1) (by kernel_rfl) (fun k g h => ∃ (x0b : Option Addr) (x0n : Nat) (x0c : Nat) (x5b : Option Addr) (x5n : Nat) (x5c : Nat) (x6b : Option Addr) (x6n : Nat) (x6c : Nat) (x7 : Bool) (x8 : Int), E7 g x0b x0n x0c x5b x5n x5c x6b x6n x6c x7 x8 ∧ n11_L Kn Ke0 Kr k x0b x0n x0c x5b x5n x5c x6b x6n x6c x7 x8 h) (fun g h hr => ?_) (fun N g h hr => ?_) N0 ⟨x0b, x0n, x0c, x5b, x5n, x5c, x6b, x6n, x6c, x7, x8, hg, hS⟩
  · obtain ⟨x0b, x0n, x0c, x5b, x5n, x5c, x6b, x6n, x6c, x7, x8, hg, hS⟩ := hr
    exact hS.elim
  · obtain ⟨x0b, x0n, x0c, x5b, x5n, x5c, x6b, x6n, x6c, x7, x8, hg, hS⟩ := hr
    have hw : wpC none Try.prog 64 n11_c1 (Q3 (fun z0b z0n z0c z5b z5n z5c z6b z6n z6c z7 z8 h => n11_L Kn Ke0 Kr N z0b z0n z0c z5b z5n z5c z6b z6n z6c z7 z8 h) Ke0 Kr) g h := by
      obtain ⟨hg0, hg5, hg6, hg7, hg8, hds⟩ := hg
      refine wpC_of_wpx (by kernel_rfl) (by kernel_rfl) (g' := (((((⟨g.v, []⟩ : Env).upd (some 0) (.slice x0b x0n x0c)).upd (some 5) (.slice x5b x5n x5c)).upd (some 6) (.slice x6b x6n x6c)).upd (some 7) (.bool x7)).upd (some 8) (.int .i64 x8)) (by rw [env_ds hds, upd_self hg0, upd_self hg5, upd_self hg6, upd_self hg7, upd_self hg8]) ?_
      have e : (n11_L Kn Ke0 Kr (N + 1) x0b x0n x0c x5b x5n x5c x6b x6n x6c x7 x8 h) = wpx none Try.prog 64 n11_c1 (Q3 (fun z0b z0n z0c z5b z5n z5c z6b z6n z6c z7 z8 h => n11_L Kn Ke0 Kr N z0b z0n z0c z5b z5n z5c z6b z6n z6c z7 z8 h) Ke0 Kr) ((((((⟨g.v, []⟩ : Env).upd (some 0) (.slice x0b x0n x0c)).upd (some 5) (.slice x5b x5n x5c)).upd (some 6) (.slice x6b x6n x6c)).upd (some 7) (.bool x7)).upd (some 8) (.int .i64 x8)) h := by kernel_rfl
      exact e ▸ hS
    refine hw.mono ?_
    intro e g' h' hq
    cases e with
    | normal => exact D7_ok (K := (fun z0b z0n z0c z5b z5n z5c z6b z6n z6c z7 z8 h => n11_L Kn Ke0 Kr N z0b z0n z0c z5b z5n z5c z6b z6n z6c z7 z8 h)) hq
    | _ => exact hq
abbrev n10 (x0b : Option Addr) (x0n : Nat) (x0c : Nat) (x5b : Option Addr) (x5n : Nat) (x5c : Nat) (x6b : Option Addr) (x6n : Nat) (x6c : Nat) (x7 : Bool) (x8 : Int) (Kn : T6) (Kr : T0) (h : H) : Prop := n11 x0b x0n x0c x5b x5n x5c x6b x6n x6c x7 x8 Kn Kn Kr h
theorem n10_ok (x0b : Option Addr) (x0n : Nat) (x0c : Nat) (x5b : Option Addr) (x5n : Nat) (x5c : Nat) (x6b : Option Addr) (x6n : Nat) (x6c : Nat) (x7 : Bool) (x8 : Int) (Kn : T6) (Kr : T0) (g : Env) (hg : E7 g x0b x0n x0c x5b x5n x5c x6b x6n x6c x7 x8) (h : H) (hS : n10 x0b x0n x0c x5b x5n x5c x6b x6n x6c x7 x8 Kn Kr h) : wpC none Try.prog 64 n9_c2 (Q1 Kn Kr) g h := by
  refine wpC_block' (id := 0) (x := n10_c1) (by kernel_rfl) (n11_ok x0b x0n x0c x5b x5n x5c x6b x6n x6c x7 x8 Kn Kn Kr g hg h hS) ?_
  intro e g' h' hq
  cases e <;> exact hq
def Q4 (Kn : T7) (Kr : T0) : XPost
  | .normal, g, h => D7 Kn g h
  | .ret, g, h => D0 Kr g h
  | _, _, _ => False
abbrev n9 (x0b : Option Addr) (x0n : Nat) (x0c : Nat) (x5b : Option Addr) (x5n : Nat) (x5c : Nat) (x6b : Option Addr) (x6n : Nat) (x6c : Nat) (x7 : Bool) (Kn : T6) (Kr : T0) (h : H) : Prop :=
  n10 x0b x0n x0c x5b x5n x5c x6b x6n x6c x7 (0 : Int) Kn Kr h
theorem n9_ok (x0b : Option Addr) (x0n : Nat) (x0c : Nat) (x5b : Option Addr) (x5n : Nat) (x5c : Nat) (x6b : Option Addr) (x6n : Nat) (x6c : Nat) (x7 : Bool) (Kn : T6) (Kr : T0) (g : Env) (hg : E5 g x0b x0n x0c x5b x5n x5c x6b x6n x6c x7) (h : H) (hS : n9 x0b x0n x0c x5b x5n x5c x6b x6n x6c x7 Kn Kr h) : wpC none Try.prog 64 n7_c1 (Q1 Kn Kr) g h := by
  obtain ⟨hg0, hg5, hg6, hg7, hds⟩ := hg
  refine wpC_seq' (x := n9_c1) (y := n9_c2) (Q' := (Q4 (fun z0b z0n z0c z5b z5n z5c z6b z6n z6c z7 z8 h => n10 z0b z0n z0c z5b z5n z5c z6b z6n z6c z7 z8 Kn Kr h) Kr)) (by kernel_rfl) ?_ ?_
  · refine wpC_of_wpx (by kernel_rfl) (by kernel_rfl) (g' := ((((⟨g.v, []⟩ : Env).upd (some 0) (.slice x0b x0n x0c)).upd (some 5) (.slice x5b x5n x5c)).upd (some 6) (.slice x6b x6n x6c)).upd (some 7) (.bool x7)) (by rw [env_ds hds, upd_self hg0, upd_self hg5, upd_self hg6, upd_self hg7]) ?_
    have e : (n9 x0b x0n x0c x5b x5n x5c x6b x6n x6c x7 Kn Kr h) = wpx none Try.prog 64 n9_c1 (Q4 (fun z0b z0n z0c z5b z5n z5c z6b z6n z6c z7 z8 h => n10 z0b z0n z0c z5b z5n z5c z6b z6n z6c z7 z8 Kn Kr h) Kr) (((((⟨g.v, []⟩ : Env).upd (some 0) (.slice x0b x0n x0c)).upd (some 5) (.slice x5b x5n x5c)).upd (some 6) (.slice x6b x6n x6c)).upd (some 7) (.bool x7)) h := by kernel_rfl
    exact e ▸ hS
  · intro e g' h' hq
    cases e with
    | normal =>
      have hq : D7 (fun z0b z0n z0c z5b z5n z5c z6b z6n z6c z7 z8 h => n10 z0b z0n z0c z5b z5n z5c z6b z6n z6c z7 z8 Kn Kr h) g' h' := hq
      obtain ⟨y0b, y0n, y0c, y5b, y5n, y5c, y6b, y6n, y6c, y7, y8, hg', hq⟩ := D7_ok hq
      exact n10_ok y0b y0n y0c y5b y5n y5c y6b y6n y6c y7 y8 Kn Kr g' hg' h' hq
    | _ => exact hq
abbrev n7 (x0b : Option Addr) (x0n : Nat) (x0c : Nat) (x5b : Option Addr) (x5n : Nat) (x5c : Nat) (x6b : Option Addr) (x6n : Nat) (x6c : Nat) (x7 : Bool) (Kn : T0) (Kr : T0) (h : H) : Prop := n9 x0b x0n x0c x5b x5n x5c x6b x6n x6c x7 (fun z0b z0n z0c z5b z5n z5c z7 h => n8 z0b z0n z0c z5b z5n z5c z7 Kn Kr h) Kr h
theorem n7_ok (x0b : Option Addr) (x0n : Nat) (x0c : Nat) (x5b : Option Addr) (x5n : Nat) (x5c : Nat) (x6b : Option Addr) (x6n : Nat) (x6c : Nat) (x7 : Bool) (Kn : T0) (Kr : T0) (g : Env) (hg : E5 g x0b x0n x0c x5b x5n x5c x6b x6n x6c x7) (h : H) (hS : n7 x0b x0n x0c x5b x5n x5c x6b x6n x6c x7 Kn Kr h) : wpC none Try.prog 64 n6_c2 (Q0 Kn Kr) g h := by
  refine wpC_seq' (x := n7_c1) (y := n7_c2) (by kernel_rfl) (n9_ok x0b x0n x0c x5b x5n x5c x6b x6n x6c x7 (fun z0b z0n z0c z5b z5n z5c z7 h => n8 z0b z0n z0c z5b z5n z5c z7 Kn Kr h) Kr g hg h hS) ?_
  intro e g' h' hq
  cases e with
  | normal =>
    have hq : D6 (fun z0b z0n z0c z5b z5n z5c z7 h => n8 z0b z0n z0c z5b z5n z5c z7 Kn Kr h) g' h' := hq
    obtain ⟨y0b, y0n, y0c, y5b, y5n, y5c, y7, hg', hq⟩ := D6_ok hq
    exact n8_ok y0b y0n y0c y5b y5n y5c y7 Kn Kr g' hg' h' hq
  | _ => exact hq
def Q5 (Kn : T5) (Kr : T0) : XPost
  | .normal, g, h => D5 Kn g h
  | .ret, g, h => D0 Kr g h
  | _, _, _ => False
abbrev n6 (x0b : Option Addr) (x0n : Nat) (x0c : Nat) (x3 : Addr) (x5b : Option Addr) (x5n : Nat) (x5c : Nat) (x6b : Option Addr) (x6n : Nat) (x6c : Nat) (Kn : T0) (Kr : T0) (h : H) : Prop :=
  ∃ i132, cell h ((x3).add 0) = some (.int .i64 i132) ∧ (∃ s133, cell h ((x3).add 1) = some (S s133) ∧ (∃ s134b s134n s134c, cell h ((x3).add 2) = some (.slice s134b s134n s134c) ∧ (HCalls Try.prog 11 ⟨[(.slice x0b x0n x0c), (.agg ⟨[(.int .i64 i132), (S s133), (.slice s134b s134n s134c)]⟩)]⟩ h fun v135 h136 => vSlice v135 fun s137b s137n s137c => HCalls Try.prog 10 ⟨[(.slice x6b x6n x6c), (.slice s137b s137n s137c)]⟩ h136 fun v138 h139 => vBool v138 fun b140 => cond b140 (n7 x0b x0n x0c x5b x5n x5c x6b x6n x6c true Kn Kr h139) (n7 x0b x0n x0c x5b x5n x5c x6b x6n x6c false Kn Kr h139))))
theorem n6_ok (x0b : Option Addr) (x0n : Nat) (x0c : Nat) (x3 : Addr) (x5b : Option Addr) (x5n : Nat) (x5c : Nat) (x6b : Option Addr) (x6n : Nat) (x6c : Nat) (Kn : T0) (Kr : T0) (g : Env) (hg : E4 g x0b x0n x0c x3 x5b x5n x5c x6b x6n x6c) (h : H) (hS : n6 x0b x0n x0c x3 x5b x5n x5c x6b x6n x6c Kn Kr h) : wpC none Try.prog 64 n5_c2 (Q0 Kn Kr) g h := by
  obtain ⟨hg0, hg3, hg5, hg6, hds⟩ := hg
  refine wpC_seq' (x := n6_c1) (y := n6_c2) (Q' := (Q5 (fun z0b z0n z0c z5b z5n z5c z6b z6n z6c z7 h => n7 z0b z0n z0c z5b z5n z5c z6b z6n z6c z7 Kn Kr h) Kr)) (by kernel_rfl) ?_ ?_
  · refine wpC_of_wpx (by kernel_rfl) (by kernel_rfl) (g' := ((((⟨g.v, []⟩ : Env).upd (some 0) (.slice x0b x0n x0c)).upd (some 3) (.pointer (some x3))).upd (some 5) (.slice x5b x5n x5c)).upd (some 6) (.slice x6b x6n x6c)) (by rw [env_ds hds, upd_self hg0, upd_self hg3, upd_self hg5, upd_self hg6]) ?_
    have e : (n6 x0b x0n x0c x3 x5b x5n x5c x6b x6n x6c Kn Kr h) = wpx none Try.prog 64 n6_c1 (Q5 (fun z0b z0n z0c z5b z5n z5c z6b z6n z6c z7 h => n7 z0b z0n z0c z5b z5n z5c z6b z6n z6c z7 Kn Kr h) Kr) (((((⟨g.v, []⟩ : Env).upd (some 0) (.slice x0b x0n x0c)).upd (some 3) (.pointer (some x3))).upd (some 5) (.slice x5b x5n x5c)).upd (some 6) (.slice x6b x6n x6c)) h := by kernel_rfl
    exact e ▸ hS
  · intro e g' h' hq
    cases e with
    | normal =>
      have hq : D5 (fun z0b z0n z0c z5b z5n z5c z6b z6n z6c z7 h => n7 z0b z0n z0c z5b z5n z5c z6b z6n z6c z7 Kn Kr h) g' h' := hq
      obtain ⟨y0b, y0n, y0c, y5b, y5n, y5c, y6b, y6n, y6c, y7, hg', hq⟩ := D5_ok hq
      exact n7_ok y0b y0n y0c y5b y5n y5c y6b y6n y6c y7 Kn Kr g' hg' h' hq
    | _ => exact hq
def Q6 (Kn : T4) (Kr : T0) : XPost
  | .normal, g, h => D4 Kn g h
  | .ret, g, h => D0 Kr g h
  | _, _, _ => False
abbrev n5 (x0b : Option Addr) (x0n : Nat) (x0c : Nat) (x3 : Addr) (x5b : Option Addr) (x5n : Nat) (x5c : Nat) (Kn : T0) (Kr : T0) (h : H) : Prop :=
  (0 ≤ (0 : Int) ∧ (0 : Int) ≤ (x0n : Int) ∧ (x0n : Int) ≤ (x5c : Int)) ∧ (∃ i141, cell h ((x3).add 0) = some (.int .i64 i141) ∧ (∃ s142, cell h ((x3).add 1) = some (S s142) ∧ (∃ s143b s143n s143c, cell h ((x3).add 2) = some (.slice s143b s143n s143c) ∧ (HCalls Try.prog 9 ⟨[(.slice (if x5c = Int.toNat (0 : Int) then x5b else Option.map (fun q => q.add (Int.toNat (0 : Int) * 3)) x5b) (Int.toNat (x0n : Int) - Int.toNat (0 : Int)) (x5c - Int.toNat (0 : Int))), (.agg ⟨[(.int .i64 i141), (S s142), (.slice s143b s143n s143c)]⟩)]⟩ h fun v144 h145 => vSlice v144 fun s146b s146n s146c => n6 x0b x0n x0c x3 x5b x5n x5c s146b s146n s146c Kn Kr h145))))
theorem n5_ok (x0b : Option Addr) (x0n : Nat) (x0c : Nat) (x3 : Addr) (x5b : Option Addr) (x5n : Nat) (x5c : Nat) (Kn : T0) (Kr : T0) (g : Env) (hg : E3 g x0b x0n x0c x3 x5b x5n x5c) (h : H) (hS : n5 x0b x0n x0c x3 x5b x5n x5c Kn Kr h) : wpC none Try.prog 64 n4_c2 (Q0 Kn Kr) g h := by
  obtain ⟨hg0, hg3, hg5, hds⟩ := hg
  refine wpC_seq' (x := n5_c1) (y := n5_c2) (Q' := (Q6 (fun z0b z0n z0c z3 z5b z5n z5c z6b z6n z6c h => n6 z0b z0n z0c z3 z5b z5n z5c z6b z6n z6c Kn Kr h) Kr)) (by kernel_rfl) ?_ ?_
  · refine wpC_of_wpx (by kernel_rfl) (by kernel_rfl) (g' := (((⟨g.v, []⟩ : Env).upd (some 0) (.slice x0b x0n x0c)).upd (some 3) (.pointer (some x3))).upd (some 5) (.slice x5b x5n x5c)) (by rw [env_ds hds, upd_self hg0, upd_self hg3, upd_self hg5]) ?_
    have e : (n5 x0b x0n x0c x3 x5b x5n x5c Kn Kr h) = wpx none Try.prog 64 n5_c1 (Q6 (fun z0b z0n z0c z3 z5b z5n z5c z6b z6n z6c h => n6 z0b z0n z0c z3 z5b z5n z5c z6b z6n z6c Kn Kr h) Kr) ((((⟨g.v, []⟩ : Env).upd (some 0) (.slice x0b x0n x0c)).upd (some 3) (.pointer (some x3))).upd (some 5) (.slice x5b x5n x5c)) h := by kernel_rfl
    exact e ▸ hS
  · intro e g' h' hq
    cases e with
    | normal =>
      have hq : D4 (fun z0b z0n z0c z3 z5b z5n z5c z6b z6n z6c h => n6 z0b z0n z0c z3 z5b z5n z5c z6b z6n z6c Kn Kr h) g' h' := hq
      obtain ⟨y0b, y0n, y0c, y3, y5b, y5n, y5c, y6b, y6n, y6c, hg', hq⟩ := D4_ok hq
      exact n6_ok y0b y0n y0c y3 y5b y5n y5c y6b y6n y6c Kn Kr g' hg' h' hq
    | _ => exact hq
def Q7 (Kn : T3) (Kr : T0) : XPost
  | .normal, g, h => D3 Kn g h
  | .ret, g, h => D0 Kr g h
  | _, _, _ => False
abbrev n4 (x0b : Option Addr) (x0n : Nat) (x0c : Nat) (x3 : Addr) (x5b : Option Addr) (x5n : Nat) (x5c : Nat) (Kn : T0) (Kr : T0) (h : H) : Prop :=
  newx h #[(.int .i64 (99 : Int)), (S ([98, 101, 104, 105, 110, 100] : List UInt8)), (.slice none 0 0)] 25 fun a147 h148 => SemH Try.prog (Builtin.append_ #[22, 22] 22 ⟨[(.slice x5b x5n x5c), (.slice (some a147) 1 1)]⟩) h148 fun v149 h150 => vSlice v149 fun s151b s151n s151c => n5 x0b x0n x0c x3 s151b s151n s151c Kn Kr h150
theorem n4_ok (x0b : Option Addr) (x0n : Nat) (x0c : Nat) (x3 : Addr) (x5b : Option Addr) (x5n : Nat) (x5c : Nat) (Kn : T0) (Kr : T0) (g : Env) (hg : E3 g x0b x0n x0c x3 x5b x5n x5c) (h : H) (hS : n4 x0b x0n x0c x3 x5b x5n x5c Kn Kr h) : wpC none Try.prog 64 n3_c2 (Q0 Kn Kr) g h := by
  obtain ⟨hg0, hg3, hg5, hds⟩ := hg
  refine wpC_seq' (x := n4_c1) (y := n4_c2) (Q' := (Q7 (fun z0b z0n z0c z3 z5b z5n z5c h => n5 z0b z0n z0c z3 z5b z5n z5c Kn Kr h) Kr)) (by kernel_rfl) ?_ ?_
  · refine wpC_of_wpx (by kernel_rfl) (by kernel_rfl) (g' := (((⟨g.v, []⟩ : Env).upd (some 0) (.slice x0b x0n x0c)).upd (some 3) (.pointer (some x3))).upd (some 5) (.slice x5b x5n x5c)) (by rw [env_ds hds, upd_self hg0, upd_self hg3, upd_self hg5]) ?_
    have e : (n4 x0b x0n x0c x3 x5b x5n x5c Kn Kr h) = wpx none Try.prog 64 n4_c1 (Q7 (fun z0b z0n z0c z3 z5b z5n z5c h => n5 z0b z0n z0c z3 z5b z5n z5c Kn Kr h) Kr) ((((⟨g.v, []⟩ : Env).upd (some 0) (.slice x0b x0n x0c)).upd (some 3) (.pointer (some x3))).upd (some 5) (.slice x5b x5n x5c)) h := by kernel_rfl
    exact e ▸ hS
  · intro e g' h' hq
    cases e with
    | normal =>
      have hq : D3 (fun z0b z0n z0c z3 z5b z5n z5c h => n5 z0b z0n z0c z3 z5b z5n z5c Kn Kr h) g' h' := hq
      obtain ⟨y0b, y0n, y0c, y3, y5b, y5n, y5c, hg', hq⟩ := D3_ok hq
      exact n5_ok y0b y0n y0c y3 y5b y5n y5c Kn Kr g' hg' h' hq
    | _ => exact hq
abbrev n3 (x0b : Option Addr) (x0n : Nat) (x0c : Nat) (x3 : Addr) (Kn : T0) (Kr : T0) (h : H) : Prop :=
  HCalls Try.prog 8 ⟨[(.slice x0b x0n x0c)]⟩ h fun v152 h153 => vSlice v152 fun s154b s154n s154c => n4 x0b x0n x0c x3 s154b s154n s154c Kn Kr h153
theorem n3_ok (x0b : Option Addr) (x0n : Nat) (x0c : Nat) (x3 : Addr) (Kn : T0) (Kr : T0) (g : Env) (hg : E2 g x0b x0n x0c x3) (h : H) (hS : n3 x0b x0n x0c x3 Kn Kr h) : wpC none Try.prog 64 n2_c2 (Q0 Kn Kr) g h := by
  obtain ⟨hg0, hg3, hds⟩ := hg
  refine wpC_seq' (x := n3_c1) (y := n3_c2) (Q' := (Q7 (fun z0b z0n z0c z3 z5b z5n z5c h => n4 z0b z0n z0c z3 z5b z5n z5c Kn Kr h) Kr)) (by kernel_rfl) ?_ ?_
  · refine wpC_of_wpx (by kernel_rfl) (by kernel_rfl) (g' := ((⟨g.v, []⟩ : Env).upd (some 0) (.slice x0b x0n x0c)).upd (some 3) (.pointer (some x3))) (by rw [env_ds hds, upd_self hg0, upd_self hg3]) ?_
    have e : (n3 x0b x0n x0c x3 Kn Kr h) = wpx none Try.prog 64 n3_c1 (Q7 (fun z0b z0n z0c z3 z5b z5n z5c h => n4 z0b z0n z0c z3 z5b z5n z5c Kn Kr h) Kr) (((⟨g.v, []⟩ : Env).upd (some 0) (.slice x0b x0n x0c)).upd (some 3) (.pointer (some x3))) h := by kernel_rfl
    exact e ▸ hS
  · intro e g' h' hq
    cases e with
    | normal =>
      have hq : D3 (fun z0b z0n z0c z3 z5b z5n z5c h => n4 z0b z0n z0c z3 z5b z5n z5c Kn Kr h) g' h' := hq
      obtain ⟨y0b, y0n, y0c, y3, y5b, y5n, y5c, hg', hq⟩ := D3_ok hq
      exact n4_ok y0b y0n y0c y3 y5b y5n y5c Kn Kr g' hg' h' hq
    | _ => exact hq
def Q8 (Kn : T2) (Kr : T0) : XPost
  | .normal, g, h => D2 Kn g h
  | .ret, g, h => D0 Kr g h
  | _, _, _ => False
abbrev n2 (x0b : Option Addr) (x0n : Nat) (x0c : Nat) (x3 : Addr) (Kn : T0) (Kr : T0) (h : H) : Prop :=
  HCalls Try.prog 7 ⟨[(.slice x0b x0n x0c)]⟩ h fun v155 h156 => vBool v155 fun b157 => cond b157 (Kr true h156) (∃ i158, cell h156 ((x3).add 0) = some (.int .i64 i158) ∧ (∃ s159, cell h156 ((x3).add 1) = some (S s159) ∧ (∃ s160b s160n s160c, cell h156 ((x3).add 2) = some (.slice s160b s160n s160c) ∧ (newx h156 #[(.int .i64 i158), (S s159), (.slice s160b s160n s160c)] 25 fun a161 h162 => HCalls Try.prog 7 ⟨[(.slice (some a161) 1 1)]⟩ h162 fun v163 h164 => vBool v163 fun b165 => cond b165 (Kr true h164) (n3 x0b x0n x0c x3 Kn Kr h164)))))
theorem n2_ok (x0b : Option Addr) (x0n : Nat) (x0c : Nat) (x3 : Addr) (Kn : T0) (Kr : T0) (g : Env) (hg : E2 g x0b x0n x0c x3) (h : H) (hS : n2 x0b x0n x0c x3 Kn Kr h) : wpC none Try.prog 64 n1_c2 (Q0 Kn Kr) g h := by
  obtain ⟨hg0, hg3, hds⟩ := hg
  refine wpC_seq' (x := n2_c1) (y := n2_c2) (Q' := (Q8 (fun z0b z0n z0c z3 h => n3 z0b z0n z0c z3 Kn Kr h) Kr)) (by kernel_rfl) ?_ ?_
  · refine wpC_of_wpx (by kernel_rfl) (by kernel_rfl) (g' := ((⟨g.v, []⟩ : Env).upd (some 0) (.slice x0b x0n x0c)).upd (some 3) (.pointer (some x3))) (by rw [env_ds hds, upd_self hg0, upd_self hg3]) ?_
    have e : (n2 x0b x0n x0c x3 Kn Kr h) = wpx none Try.prog 64 n2_c1 (Q8 (fun z0b z0n z0c z3 h => n3 z0b z0n z0c z3 Kn Kr h) Kr) (((⟨g.v, []⟩ : Env).upd (some 0) (.slice x0b x0n x0c)).upd (some 3) (.pointer (some x3))) h := by kernel_rfl
    exact e ▸ hS
  · intro e g' h' hq
    cases e with
    | normal =>
      have hq : D2 (fun z0b z0n z0c z3 h => n3 z0b z0n z0c z3 Kn Kr h) g' h' := hq
      obtain ⟨y0b, y0n, y0c, y3, hg', hq⟩ := D2_ok hq
      exact n3_ok y0b y0n y0c y3 Kn Kr g' hg' h' hq
    | _ => exact hq
abbrev n1 (x0b : Option Addr) (x0n : Nat) (x0c : Nat) (x1_0 : Int) (x1_1 : List UInt8) (x1_2b : Option Addr) (x1_2n : Nat) (x1_2c : Nat) (Kn : T0) (Kr : T0) (h : H) : Prop :=
  newx h ⟨[(.int .i64 x1_0), (S x1_1), (.slice x1_2b x1_2n x1_2c)]⟩ 25 fun a166 h167 => n2 x0b x0n x0c a166 Kn Kr h167
theorem n1_ok (x0b : Option Addr) (x0n : Nat) (x0c : Nat) (x1_0 : Int) (x1_1 : List UInt8) (x1_2b : Option Addr) (x1_2n : Nat) (x1_2c : Nat) (Kn : T0) (Kr : T0) (g : Env) (hg : E1 g x0b x0n x0c x1_0 x1_1 x1_2b x1_2n x1_2c) (h : H) (hS : n1 x0b x0n x0c x1_0 x1_1 x1_2b x1_2n x1_2c Kn Kr h) : wpC none Try.prog 64 code (Q0 Kn Kr) g h := by
  obtain ⟨hg0, hg1, hds⟩ := hg
  refine wpC_seq' (x := n1_c1) (y := n1_c2) (Q' := (Q8 (fun z0b z0n z0c z3 h => n2 z0b z0n z0c z3 Kn Kr h) Kr)) (by kernel_rfl) ?_ ?_
  · refine wpC_of_wpx (by kernel_rfl) (by kernel_rfl) (g' := ((⟨g.v, []⟩ : Env).upd (some 0) (.slice x0b x0n x0c)).upd (some 1) (.agg ⟨[(.int .i64 x1_0), (S x1_1), (.slice x1_2b x1_2n x1_2c)]⟩)) (by rw [env_ds hds, upd_self hg0, upd_self hg1]) ?_
    have e : (n1 x0b x0n x0c x1_0 x1_1 x1_2b x1_2n x1_2c Kn Kr h) = wpx none Try.prog 64 n1_c1 (Q8 (fun z0b z0n z0c z3 h => n2 z0b z0n z0c z3 Kn Kr h) Kr) (((⟨g.v, []⟩ : Env).upd (some 0) (.slice x0b x0n x0c)).upd (some 1) (.agg ⟨[(.int .i64 x1_0), (S x1_1), (.slice x1_2b x1_2n x1_2c)]⟩)) h := by kernel_rfl
    exact e ▸ hS
  · intro e g' h' hq
    cases e with
    | normal =>
      have hq : D2 (fun z0b z0n z0c z3 h => n2 z0b z0n z0c z3 Kn Kr h) g' h' := hq
      obtain ⟨y0b, y0n, y0c, y3, hg', hq⟩ := D2_ok hq
      exact n2_ok y0b y0n y0c y3 Kn Kr g' hg' h' hq
    | _ => exact hq
/-- WHAT tympan/tympanlaw12.MarksPush ASKS -/
abbrev asks (x0b : Option Addr) (x0n : Nat) (x0c : Nat) (x1_0 : Int) (x1_1 : List UInt8) (x1_2b : Option Addr) (x1_2n : Nat) (x1_2c : Nat) (K : Value → H → Prop) (h : H) : Prop := n1 x0b x0n x0c x1_0 x1_1 x1_2b x1_2n x1_2c (fun y4 h => K (.bool y4) h) (fun y4 h => K (.bool y4) h) h
theorem ok (x0b : Option Addr) (x0n : Nat) (x0c : Nat) (x1_0 : Int) (x1_1 : List UInt8) (x1_2b : Option Addr) (x1_2n : Nat) (x1_2c : Nat) (K : Value → H → Prop) (h : H) (hS : asks x0b x0n x0c x1_0 x1_1 x1_2b x1_2n x1_2c K h) : HCalls Try.prog 3 ⟨[(.slice x0b x0n x0c), (.agg ⟨[(.int .i64 x1_0), (S x1_1), (.slice x1_2b x1_2n x1_2c)]⟩)]⟩ h K := by
  refine calls_of_wpC (c := code) Try.func3 (by kernel_rfl) (Nat.le_of_ble_eq_true (by kernel_rfl)) ?_
  refine (n1_ok x0b x0n x0c x1_0 x1_1 x1_2b x1_2n x1_2c (fun y4 h => K (.bool y4) h) (fun y4 h => K (.bool y4) h) (env0 [(.slice x0b x0n x0c), (.agg ⟨[(.int .i64 x1_0), (S x1_1), (.slice x1_2b x1_2n x1_2c)]⟩)]) ⟨rfl, rfl, rfl⟩ h hS).mono ?_
  intro e g' h' hq
  cases e with
  | normal =>
    have hq : D0 (fun y4 h => K (.bool y4) h) g' h' := hq
    obtain ⟨y4, ⟨hg4, hd⟩, hq⟩ := D0_ok hq
    show leaveX g'.ds h' _
    rw [hd]
    show K (g'.v 4) h'
    rw [hg4]
    exact hq
  | ret =>
    have hq : D0 (fun y4 h => K (.bool y4) h) g' h' := hq
    obtain ⟨y4, ⟨hg4, hd⟩, hq⟩ := D0_ok hq
    show leaveX g'.ds h' _
    rw [hd]
    show K (g'.v 4) h'
    rw [hg4]
    exact hq
  | _ => exact hq
end Sx.l12_MarksPush

/-! ### tympan/tympanlaw12.MarksLooks -/
namespace Sx.l12_MarksLooks
noncomputable def code : Code := bodyOf Try.f4
abbrev T0 := Bool → H → Prop
def E0 (g : Env) (x8 : Bool) : Prop := g.v 8 = (.bool x8) ∧ g.ds = []
def D0 (K : T0) (g : Env) (h : H) : Prop := nilDs g.ds (vBool (g.v 8) fun b1 => K b1 h)
theorem D0_ok {K : T0} {g : Env} {h : H} (hq : D0 K g h) : ∃ (x8 : Bool), E0 g x8 ∧ K x8 h := by
  obtain ⟨hd, hq⟩ := nilDs_ok hq
  obtain ⟨y3, e2, q4⟩ := vBool_ok hq
  exact ⟨y3, ⟨e2, hd⟩, q4⟩
def Q0 (Kn : T0) (Kr : T0) : XPost
  | .normal, g, h => D0 Kn g h
  | .ret, g, h => D0 Kr g h
  | _, _, _ => False
abbrev T1 := (Option Addr) → Nat → Nat → (List UInt8) → Int → (Option Addr) → Nat → Nat → H → Prop
def E1 (g : Env) (x0b : Option Addr) (x0n : Nat) (x0c : Nat) (x1 : List UInt8) (x2 : Int) (x3b : Option Addr) (x3n : Nat) (x3c : Nat) : Prop := g.v 0 = (.slice x0b x0n x0c) ∧ g.v 1 = (S x1) ∧ g.v 2 = (.int .i64 x2) ∧ g.v 3 = (.slice x3b x3n x3c) ∧ g.ds = []
def D1 (K : T1) (g : Env) (h : H) : Prop := nilDs g.ds (vSlice (g.v 0) fun s5b s5n s5c => vStr (g.v 1) fun s6 => vInt .i64 (g.v 2) fun i7 => vSlice (g.v 3) fun s8b s8n s8c => K s5b s5n s5c s6 i7 s8b s8n s8c h)
theorem D1_ok {K : T1} {g : Env} {h : H} (hq : D1 K g h) : ∃ (x0b : Option Addr) (x0n : Nat) (x0c : Nat) (x1 : List UInt8) (x2 : Int) (x3b : Option Addr) (x3n : Nat) (x3c : Nat), E1 g x0b x0n x0c x1 x2 x3b x3n x3c ∧ K x0b x0n x0c x1 x2 x3b x3n x3c h := by
  obtain ⟨hd, hq⟩ := nilDs_ok hq
  obtain ⟨y10b, y10n, y10c, e9, q11⟩ := vSlice_ok hq
  obtain ⟨y13, e12, q14⟩ := vStr_ok q11
  obtain ⟨y16, e15, q17⟩ := vInt_ok q14
  obtain ⟨y19b, y19n, y19c, e18, q20⟩ := vSlice_ok q17
  exact ⟨y10b, y10n, y10c, y13, y16, y19b, y19n, y19c, ⟨e9, e12, e15, e18, hd⟩, q20⟩
noncomputable def n1_c1 : Code := cFst code
noncomputable def n1_c2 : Code := cSnd code
noncomputable def n2_c1 : Code := cFst n1_c2
noncomputable def n2_c2 : Code := cSnd n1_c2
noncomputable def n3_c1 : Code := cFst n2_c2
noncomputable def n3_c2 : Code := cSnd n2_c2
abbrev T2 := (Option Addr) → Nat → Nat → (List UInt8) → Int → (Option Addr) → Nat → Nat → (Option Addr) → Nat → Nat → H → Prop
def E2 (g : Env) (x0b : Option Addr) (x0n : Nat) (x0c : Nat) (x1 : List UInt8) (x2 : Int) (x3b : Option Addr) (x3n : Nat) (x3c : Nat) (x9b : Option Addr) (x9n : Nat) (x9c : Nat) : Prop := g.v 0 = (.slice x0b x0n x0c) ∧ g.v 1 = (S x1) ∧ g.v 2 = (.int .i64 x2) ∧ g.v 3 = (.slice x3b x3n x3c) ∧ g.v 9 = (.slice x9b x9n x9c) ∧ g.ds = []
def D2 (K : T2) (g : Env) (h : H) : Prop := nilDs g.ds (vSlice (g.v 0) fun s21b s21n s21c => vStr (g.v 1) fun s22 => vInt .i64 (g.v 2) fun i23 => vSlice (g.v 3) fun s24b s24n s24c => vSlice (g.v 9) fun s25b s25n s25c => K s21b s21n s21c s22 i23 s24b s24n s24c s25b s25n s25c h)
theorem D2_ok {K : T2} {g : Env} {h : H} (hq : D2 K g h) : ∃ (x0b : Option Addr) (x0n : Nat) (x0c : Nat) (x1 : List UInt8) (x2 : Int) (x3b : Option Addr) (x3n : Nat) (x3c : Nat) (x9b : Option Addr) (x9n : Nat) (x9c : Nat), E2 g x0b x0n x0c x1 x2 x3b x3n x3c x9b x9n x9c ∧ K x0b x0n x0c x1 x2 x3b x3n x3c x9b x9n x9c h := by
  obtain ⟨hd, hq⟩ := nilDs_ok hq
  obtain ⟨y27b, y27n, y27c, e26, q28⟩ := vSlice_ok hq
  obtain ⟨y30, e29, q31⟩ := vStr_ok q28
  obtain ⟨y33, e32, q34⟩ := vInt_ok q31
  obtain ⟨y36b, y36n, y36c, e35, q37⟩ := vSlice_ok q34
  obtain ⟨y39b, y39n, y39c, e38, q40⟩ := vSlice_ok q37
  exact ⟨y27b, y27n, y27c, y30, y33, y36b, y36n, y36c, y39b, y39n, y39c, ⟨e26, e29, e32, e35, e38, hd⟩, q40⟩
noncomputable def n4_c1 : Code := cFst n3_c2
noncomputable def n4_c2 : Code := cSnd n3_c2
abbrev T3 := (Option Addr) → Nat → Nat → (List UInt8) → Int → (Option Addr) → Nat → Nat → (Option Addr) → Nat → Nat → (Option Addr) → Nat → Nat → H → Prop
def E3 (g : Env) (x0b : Option Addr) (x0n : Nat) (x0c : Nat) (x1 : List UInt8) (x2 : Int) (x3b : Option Addr) (x3n : Nat) (x3c : Nat) (x9b : Option Addr) (x9n : Nat) (x9c : Nat) (x10b : Option Addr) (x10n : Nat) (x10c : Nat) : Prop := g.v 0 = (.slice x0b x0n x0c) ∧ g.v 1 = (S x1) ∧ g.v 2 = (.int .i64 x2) ∧ g.v 3 = (.slice x3b x3n x3c) ∧ g.v 9 = (.slice x9b x9n x9c) ∧ g.v 10 = (.slice x10b x10n x10c) ∧ g.ds = []
def D3 (K : T3) (g : Env) (h : H) : Prop := nilDs g.ds (vSlice (g.v 0) fun s41b s41n s41c => vStr (g.v 1) fun s42 => vInt .i64 (g.v 2) fun i43 => vSlice (g.v 3) fun s44b s44n s44c => vSlice (g.v 9) fun s45b s45n s45c => vSlice (g.v 10) fun s46b s46n s46c => K s41b s41n s41c s42 i43 s44b s44n s44c s45b s45n s45c s46b s46n s46c h)
theorem D3_ok {K : T3} {g : Env} {h : H} (hq : D3 K g h) : ∃ (x0b : Option Addr) (x0n : Nat) (x0c : Nat) (x1 : List UInt8) (x2 : Int) (x3b : Option Addr) (x3n : Nat) (x3c : Nat) (x9b : Option Addr) (x9n : Nat) (x9c : Nat) (x10b : Option Addr) (x10n : Nat) (x10c : Nat), E3 g x0b x0n x0c x1 x2 x3b x3n x3c x9b x9n x9c x10b x10n x10c ∧ K x0b x0n x0c x1 x2 x3b x3n x3c x9b x9n x9c x10b x10n x10c h := by
  obtain ⟨hd, hq⟩ := nilDs_ok hq
  obtain ⟨y48b, y48n, y48c, e47, q49⟩ := vSlice_ok hq
  obtain ⟨y51, e50, q52⟩ := vStr_ok q49
  obtain ⟨y54, e53, q55⟩ := vInt_ok q52
  obtain ⟨y57b, y57n, y57c, e56, q58⟩ := vSlice_ok q55
  obtain ⟨y60b, y60n, y60c, e59, q61⟩ := vSlice_ok q58
  obtain ⟨y63b, y63n, y63c, e62, q64⟩ := vSlice_ok q61
  exact ⟨y48b, y48n, y48c, y51, y54, y57b, y57n, y57c, y60b, y60n, y60c, y63b, y63n, y63c, ⟨e47, e50, e53, e56, e59, e62, hd⟩, q64⟩
noncomputable def n5_c1 : Code := cFst n4_c2
noncomputable def n5_c2 : Code := cSnd n4_c2
abbrev T4 := (Option Addr) → Nat → Nat → (Option Addr) → Nat → Nat → (Option Addr) → Nat → Nat → Bool → H → Prop
def E4 (g : Env) (x0b : Option Addr) (x0n : Nat) (x0c : Nat) (x9b : Option Addr) (x9n : Nat) (x9c : Nat) (x10b : Option Addr) (x10n : Nat) (x10c : Nat) (x11 : Bool) : Prop := g.v 0 = (.slice x0b x0n x0c) ∧ g.v 9 = (.slice x9b x9n x9c) ∧ g.v 10 = (.slice x10b x10n x10c) ∧ g.v 11 = (.bool x11) ∧ g.ds = []
def D4 (K : T4) (g : Env) (h : H) : Prop := nilDs g.ds (vSlice (g.v 0) fun s65b s65n s65c => vSlice (g.v 9) fun s66b s66n s66c => vSlice (g.v 10) fun s67b s67n s67c => vBool (g.v 11) fun b68 => K s65b s65n s65c s66b s66n s66c s67b s67n s67c b68 h)
theorem D4_ok {K : T4} {g : Env} {h : H} (hq : D4 K g h) : ∃ (x0b : Option Addr) (x0n : Nat) (x0c : Nat) (x9b : Option Addr) (x9n : Nat) (x9c : Nat) (x10b : Option Addr) (x10n : Nat) (x10c : Nat) (x11 : Bool), E4 g x0b x0n x0c x9b x9n x9c x10b x10n x10c x11 ∧ K x0b x0n x0c x9b x9n x9c x10b x10n x10c x11 h := by
  obtain ⟨hd, hq⟩ := nilDs_ok hq
  obtain ⟨y70b, y70n, y70c, e69, q71⟩ := vSlice_ok hq
  obtain ⟨y73b, y73n, y73c, e72, q74⟩ := vSlice_ok q71
  obtain ⟨y76b, y76n, y76c, e75, q77⟩ := vSlice_ok q74
  obtain ⟨y79, e78, q80⟩ := vBool_ok q77
  exact ⟨y70b, y70n, y70c, y73b, y73n, y73c, y76b, y76n, y76c, y79, ⟨e69, e72, e75, e78, hd⟩, q80⟩
noncomputable def n6_c1 : Code := cFst n5_c2
noncomputable def n6_c2 : Code := cSnd n5_c2
abbrev T5 := (Option Addr) → Nat → Nat → (Option Addr) → Nat → Nat → Bool → H → Prop
def E5 (g : Env) (x0b : Option Addr) (x0n : Nat) (x0c : Nat) (x9b : Option Addr) (x9n : Nat) (x9c : Nat) (x11 : Bool) : Prop := g.v 0 = (.slice x0b x0n x0c) ∧ g.v 9 = (.slice x9b x9n x9c) ∧ g.v 11 = (.bool x11) ∧ g.ds = []
def D5 (K : T5) (g : Env) (h : H) : Prop := nilDs g.ds (vSlice (g.v 0) fun s81b s81n s81c => vSlice (g.v 9) fun s82b s82n s82c => vBool (g.v 11) fun b83 => K s81b s81n s81c s82b s82n s82c b83 h)
theorem D5_ok {K : T5} {g : Env} {h : H} (hq : D5 K g h) : ∃ (x0b : Option Addr) (x0n : Nat) (x0c : Nat) (x9b : Option Addr) (x9n : Nat) (x9c : Nat) (x11 : Bool), E5 g x0b x0n x0c x9b x9n x9c x11 ∧ K x0b x0n x0c x9b x9n x9c x11 h := by
  obtain ⟨hd, hq⟩ := nilDs_ok hq
  obtain ⟨y85b, y85n, y85c, e84, q86⟩ := vSlice_ok hq
  obtain ⟨y88b, y88n, y88c, e87, q89⟩ := vSlice_ok q86
  obtain ⟨y91, e90, q92⟩ := vBool_ok q89
  exact ⟨y85b, y85n, y85c, y88b, y88n, y88c, y91, ⟨e84, e87, e90, hd⟩, q92⟩
abbrev n7 (x0b : Option Addr) (x0n : Nat) (x0c : Nat) (x9b : Option Addr) (x9n : Nat) (x9c : Nat) (x11 : Bool) (Kn : T0) (Kr : T0) (h : H) : Prop :=
  HCalls Try.prog 12 ⟨[]⟩ h fun v93 h94 => vBool v93 fun b95 => cond b95 (cond x11 (HCalls Try.prog 10 ⟨[(.slice x9b x9n x9c), (.slice x0b x0n x0c)]⟩ h94 fun v96 h97 => vBool v96 fun b98 => cond b98 (Kr true h97) (Kr false h97)) (Kr false h94)) (Kr false h94)
theorem n7_ok (x0b : Option Addr) (x0n : Nat) (x0c : Nat) (x9b : Option Addr) (x9n : Nat) (x9c : Nat) (x11 : Bool) (Kn : T0) (Kr : T0) (g : Env) (hg : E5 g x0b x0n x0c x9b x9n x9c x11) (h : H) (hS : n7 x0b x0n x0c x9b x9n x9c x11 Kn Kr h) : wpC none Try.prog 79 n6_c2 (Q0 Kn Kr) g h := by
  obtain ⟨hg0, hg9, hg11, hds⟩ := hg
  refine wpC_of_wpx (by kernel_rfl) (by kernel_rfl) (g' := (((⟨g.v, []⟩ : Env).upd (some 0) (.slice x0b x0n x0c)).upd (some 9) (.slice x9b x9n x9c)).upd (some 11) (.bool x11)) (by rw [env_ds hds, upd_self hg0, upd_self hg9, upd_self hg11]) ?_
  have e : (n7 x0b x0n x0c x9b x9n x9c x11 Kn Kr h) = wpx none Try.prog 79 n6_c2 (Q0 Kn Kr) ((((⟨g.v, []⟩ : Env).upd (some 0) (.slice x0b x0n x0c)).upd (some 9) (.slice x9b x9n x9c)).upd (some 11) (.bool x11)) h := by kernel_rfl
  exact e ▸ hS
def Q1 (Kn : T5) (Kr : T0) : XPost
  | .normal, g, h => D5 Kn g h
  | .ret, g, h => D0 Kr g h
  | _, _, _ => False
noncomputable def n8_c1 : Code := cFst n6_c1
noncomputable def n8_c2 : Code := cSnd n6_c1
abbrev T6 := (Option Addr) → Nat → Nat → (Option Addr) → Nat → Nat → (Option Addr) → Nat → Nat → Bool → Int → H → Prop
def E6 (g : Env) (x0b : Option Addr) (x0n : Nat) (x0c : Nat) (x9b : Option Addr) (x9n : Nat) (x9c : Nat) (x10b : Option Addr) (x10n : Nat) (x10c : Nat) (x11 : Bool) (x12 : Int) : Prop := g.v 0 = (.slice x0b x0n x0c) ∧ g.v 9 = (.slice x9b x9n x9c) ∧ g.v 10 = (.slice x10b x10n x10c) ∧ g.v 11 = (.bool x11) ∧ g.v 12 = (.int .i64 x12) ∧ g.ds = []
def D6 (K : T6) (g : Env) (h : H) : Prop := nilDs g.ds (vSlice (g.v 0) fun s99b s99n s99c => vSlice (g.v 9) fun s100b s100n s100c => vSlice (g.v 10) fun s101b s101n s101c => vBool (g.v 11) fun b102 => vInt .i64 (g.v 12) fun i103 => K s99b s99n s99c s100b s100n s100c s101b s101n s101c b102 i103 h)
theorem D6_ok {K : T6} {g : Env} {h : H} (hq : D6 K g h) : ∃ (x0b : Option Addr) (x0n : Nat) (x0c : Nat) (x9b : Option Addr) (x9n : Nat) (x9c : Nat) (x10b : Option Addr) (x10n : Nat) (x10c : Nat) (x11 : Bool) (x12 : Int), E6 g x0b x0n x0c x9b x9n x9c x10b x10n x10c x11 x12 ∧ K x0b x0n x0c x9b x9n x9c x10b x10n x10c x11 x12 h := by
  obtain ⟨hd, hq⟩ := nilDs_ok hq
  obtain ⟨y105b, y105n, y105c, e104, q106⟩ := vSlice_ok hq
  obtain ⟨y108b, y108n, y108c, e107, q109⟩ := vSlice_ok q106
  obtain ⟨y111b, y111n, y111c, e110, q112⟩ := vSlice_ok q109
  obtain ⟨y114, e113, q115⟩ := vBool_ok q112
  obtain ⟨y117, e116, q118⟩ := vInt_ok q115
  exact ⟨y105b, y105n, y105c, y108b, y108n, y108c, y111b, y111n, y111c, y114, y117, ⟨e104, e107, e110, e113, e116, hd⟩, q118⟩
noncomputable def n9_c1 : Code := cFst n8_c2
def Q2 (Kn : T5) (Ke0 : T5) (Kr : T0) : XPost
  | .normal, g, h => D5 Kn g h
  | .ret, g, h => D0 Kr g h
  | .exit id, g, h => cond (Nat.beq id 0) (D5 Ke0 g h) (False)
  | _, _, _ => False
noncomputable def n10_c1 : Code := cFst n9_c1
def Q3 (Kn : T6) (Ke0 : T5) (Kr : T0) : XPost
  | .normal, g, h => D6 Kn g h
  | .ret, g, h => D0 Kr g h
  | .exit id, g, h => cond (Nat.beq id 0) (D5 Ke0 g h) (False)
  | _, _, _ => False
def n10_L (Kn : T5) (Ke0 : T5) (Kr : T0) : Nat → (Option Addr) → Nat → Nat → (Option Addr) → Nat → Nat → (Option Addr) → Nat → Nat → Bool → Int → H → Prop
  | 0, _, _, _, _, _, _, _, _, _, _, _, _ => False
  | N + 1, x0b, x0n, x0c, x9b, x9n, x9c, x10b, x10n, x10c, x11, x12, h => Spl (x12 < (x10n : Int)) ((0 ≤ x12 ∧ x12 < (x10n : Int)) ∧ (vSome x10b fun a119 => stL (a119.add (Int.toNat x12 * 3)) [(.int .i64 (-9 : Int)), (S ([115, 112, 111, 105, 108, 116] : List UInt8)), (.slice none 0 0)] 0 h fun h120 => Rng .i64 (x12 + (1 : Int)) ∧ (n10_L Kn Ke0 Kr N x0b x0n x0c x9b x9n x9c x10b x10n x10c x11 (x12 + (1 : Int)) h120))) (Ke0 x0b x0n x0c x9b x9n x9c x11 h)
abbrev n10 (x0b : Option Addr) (x0n : Nat) (x0c : Nat) (x9b : Option Addr) (x9n : Nat) (x9c : Nat) (x10b : Option Addr) (x10n : Nat) (x10c : Nat) (x11 : Bool) (x12 : Int) (Kn : T5) (Ke0 : T5) (Kr : T0) (h : H) : Prop := ∃ N, n10_L Kn Ke0 Kr N x0b x0n x0c x9b x9n x9c x10b x10n x10c x11 x12 h
theorem n10_ok (x0b : Option Addr) (x0n : Nat) (x0c : Nat) (x9b : Option Addr) (x9n : Nat) (x9c : Nat) (x10b : Option Addr) (x10n : Nat) (x10c : Nat) (x11 : Bool) (x12 : Int) (Kn : T5) (Ke0 : T5) (Kr : T0) (g : Env) (hg : E6 g x0b x0n x0c x9b x9n x9c x10b x10n x10c x11 x12) (h : H) (hS : n10 x0b x0n x0c x9b x9n x9c x10b x10n x10c x11 x12 Kn Ke0 Kr h) : wpC none Try.prog 79 n9_c1 (Q2 Kn Ke0 Kr) g h := by
  obtain ⟨N0, hS⟩ := hS
  refine wpC_loop' (x := n10_c1) (by kernel_rfl) (fun k g h => ∃ (x0b : Option Addr) (x0n : Nat) (x0c : Nat) (x9b : Option Addr) (x9n : Nat) (x9c : Nat) (x10b : Option Addr) (x10n : Nat) (x10c : Nat) (x11 : Bool) (x12 : Int), E6 g x0b x0n x0c x9b x9n x9c x10b x10n x10c x11 x12 ∧ n10_L Kn Ke0 Kr k x0b x0n x0c x9b x9n x9c x10b x10n x10c x11 x12 h) (fun g h hr => ?_) (fun N g h hr => ?_) N0 ⟨x0b, x0n, x0c, x9b, x9n, x9c, x10b, x10n, x10c, x11, x12, hg, hS⟩
  · obtain ⟨x0b, x0n, x0c, x9b, x9n, x9c, x10b, x10n, x10c, x11, x12, hg, hS⟩ := hr
    exact hS.elim
  · obtain ⟨x0b, x0n, x0c, x9b, x9n, x9c, x10b, x10n, x10c, x11, x12, hg, hS⟩ := hr
    have hw : wpC none Try.prog 79 n10_c1 (Q3 (fun z0b z0n z0c z9b z9n z9c z10b z10n z10c z11 z12 h => n10_L Kn Ke0 Kr N z0b z0n z0c z9b z9n z9c z10b z10n z10c z11 z12 h) Ke0 Kr) g h := by
      obtain ⟨hg0, hg9, hg10, hg11, hg12, hds⟩ := hg
      refine wpC_of_wpx (by kernel_rfl) (by kernel_rfl) (g' := (((((⟨g.v, []⟩ : Env).upd (some 0) (.slice x0b x0n x0c)).upd (some 9) (.slice x9b x9n x9c)).upd (some 10) (.slice x10b x10n x10c)).upd (some 11) (.bool x11)).upd (some 12) (.int .i64 x12)) (by rw [env_ds hds, upd_self hg0, upd_self hg9, upd_self hg10, upd_self hg11, upd_self hg12]) ?_
      have e : (n10_L Kn Ke0 Kr (N + 1) x0b x0n x0c x9b x9n x9c x10b x10n x10c x11 x12 h) = wpx none Try.prog 79 n10_c1 (Q3 (fun z0b z0n z0c z9b z9n z9c z10b z10n z10c z11 z12 h => n10_L Kn Ke0 Kr N z0b z0n z0c z9b z9n z9c z10b z10n z10c z11 z12 h) Ke0 Kr) ((((((⟨g.v, []⟩ : Env).upd (some 0) (.slice x0b x0n x0c)).upd (some 9) (.slice x9b x9n x9c)).upd (some 10) (.slice x10b x10n x10c)).upd (some 11) (.bool x11)).upd (some 12) (.int .i64 x12)) h := by kernel_rfl
      exact e ▸ hS
    refine hw.mono ?_
    intro e g' h' hq
    cases e with
    | normal => exact D6_ok (K := (fun z0b z0n z0c z9b z9n z9c z10b z10n z10c z11 z12 h => n10_L Kn Ke0 Kr N z0b z0n z0c z9b z9n z9c z10b z10n z10c z11 z12 h)) hq
    | _ => exact hq
abbrev n9 (x0b : Option Addr) (x0n : Nat) (x0c : Nat) (x9b : Option Addr) (x9n : Nat) (x9c : Nat) (x10b : Option Addr) (x10n : Nat) (x10c : Nat) (x11 : Bool) (x12 : Int) (Kn : T5) (Kr : T0) (h : H) : Prop := n10 x0b x0n x0c x9b x9n x9c x10b x10n x10c x11 x12 Kn Kn Kr h
theorem n9_ok (x0b : Option Addr) (x0n : Nat) (x0c : Nat) (x9b : Option Addr) (x9n : Nat) (x9c : Nat) (x10b : Option Addr) (x10n : Nat) (x10c : Nat) (x11 : Bool) (x12 : Int) (Kn : T5) (Kr : T0) (g : Env) (hg : E6 g x0b x0n x0c x9b x9n x9c x10b x10n x10c x11 x12) (h : H) (hS : n9 x0b x0n x0c x9b x9n x9c x10b x10n x10c x11 x12 Kn Kr h) : wpC none Try.prog 79 n8_c2 (Q1 Kn Kr) g h := by
  refine wpC_block' (id := 0) (x := n9_c1) (by kernel_rfl) (n10_ok x0b x0n x0c x9b x9n x9c x10b x10n x10c x11 x12 Kn Kn Kr g hg h hS) ?_
  intro e g' h' hq
  cases e <;> exact hq
def Q4 (Kn : T6) (Kr : T0) : XPost
  | .normal, g, h => D6 Kn g h
  | .ret, g, h => D0 Kr g h
  | _, _, _ => False
abbrev n8 (x0b : Option Addr) (x0n : Nat) (x0c : Nat) (x9b : Option Addr) (x9n : Nat) (x9c : Nat) (x10b : Option Addr) (x10n : Nat) (x10c : Nat) (x11 : Bool) (Kn : T5) (Kr : T0) (h : H) : Prop :=
  n9 x0b x0n x0c x9b x9n x9c x10b x10n x10c x11 (0 : Int) Kn Kr h
theorem n8_ok (x0b : Option Addr) (x0n : Nat) (x0c : Nat) (x9b : Option Addr) (x9n : Nat) (x9c : Nat) (x10b : Option Addr) (x10n : Nat) (x10c : Nat) (x11 : Bool) (Kn : T5) (Kr : T0) (g : Env) (hg : E4 g x0b x0n x0c x9b x9n x9c x10b x10n x10c x11) (h : H) (hS : n8 x0b x0n x0c x9b x9n x9c x10b x10n x10c x11 Kn Kr h) : wpC none Try.prog 79 n6_c1 (Q1 Kn Kr) g h := by
  obtain ⟨hg0, hg9, hg10, hg11, hds⟩ := hg
  refine wpC_seq' (x := n8_c1) (y := n8_c2) (Q' := (Q4 (fun z0b z0n z0c z9b z9n z9c z10b z10n z10c z11 z12 h => n9 z0b z0n z0c z9b z9n z9c z10b z10n z10c z11 z12 Kn Kr h) Kr)) (by kernel_rfl) ?_ ?_
  · refine wpC_of_wpx (by kernel_rfl) (by kernel_rfl) (g' := ((((⟨g.v, []⟩ : Env).upd (some 0) (.slice x0b x0n x0c)).upd (some 9) (.slice x9b x9n x9c)).upd (some 10) (.slice x10b x10n x10c)).upd (some 11) (.bool x11)) (by rw [env_ds hds, upd_self hg0, upd_self hg9, upd_self hg10, upd_self hg11]) ?_
    have e : (n8 x0b x0n x0c x9b x9n x9c x10b x10n x10c x11 Kn Kr h) = wpx none Try.prog 79 n8_c1 (Q4 (fun z0b z0n z0c z9b z9n z9c z10b z10n z10c z11 z12 h => n9 z0b z0n z0c z9b z9n z9c z10b z10n z10c z11 z12 Kn Kr h) Kr) (((((⟨g.v, []⟩ : Env).upd (some 0) (.slice x0b x0n x0c)).upd (some 9) (.slice x9b x9n x9c)).upd (some 10) (.slice x10b x10n x10c)).upd (some 11) (.bool x11)) h := by kernel_rfl
    exact e ▸ hS
  · intro e g' h' hq
    cases e with
    | normal =>
      have hq : D6 (fun z0b z0n z0c z9b z9n z9c z10b z10n z10c z11 z12 h => n9 z0b z0n z0c z9b z9n z9c z10b z10n z10c z11 z12 Kn Kr h) g' h' := hq
      obtain ⟨y0b, y0n, y0c, y9b, y9n, y9c, y10b, y10n, y10c, y11, y12, hg', hq⟩ := D6_ok hq
      exact n9_ok y0b y0n y0c y9b y9n y9c y10b y10n y10c y11 y12 Kn Kr g' hg' h' hq
    | _ => exact hq
abbrev n6 (x0b : Option Addr) (x0n : Nat) (x0c : Nat) (x9b : Option Addr) (x9n : Nat) (x9c : Nat) (x10b : Option Addr) (x10n : Nat) (x10c : Nat) (x11 : Bool) (Kn : T0) (Kr : T0) (h : H) : Prop := n8 x0b x0n x0c x9b x9n x9c x10b x10n x10c x11 (fun z0b z0n z0c z9b z9n z9c z11 h => n7 z0b z0n z0c z9b z9n z9c z11 Kn Kr h) Kr h
theorem n6_ok (x0b : Option Addr) (x0n : Nat) (x0c : Nat) (x9b : Option Addr) (x9n : Nat) (x9c : Nat) (x10b : Option Addr) (x10n : Nat) (x10c : Nat) (x11 : Bool) (Kn : T0) (Kr : T0) (g : Env) (hg : E4 g x0b x0n x0c x9b x9n x9c x10b x10n x10c x11) (h : H) (hS : n6 x0b x0n x0c x9b x9n x9c x10b x10n x10c x11 Kn Kr h) : wpC none Try.prog 79 n5_c2 (Q0 Kn Kr) g h := by
  refine wpC_seq' (x := n6_c1) (y := n6_c2) (by kernel_rfl) (n8_ok x0b x0n x0c x9b x9n x9c x10b x10n x10c x11 (fun z0b z0n z0c z9b z9n z9c z11 h => n7 z0b z0n z0c z9b z9n z9c z11 Kn Kr h) Kr g hg h hS) ?_
  intro e g' h' hq
  cases e with
  | normal =>
    have hq : D5 (fun z0b z0n z0c z9b z9n z9c z11 h => n7 z0b z0n z0c z9b z9n z9c z11 Kn Kr h) g' h' := hq
    obtain ⟨y0b, y0n, y0c, y9b, y9n, y9c, y11, hg', hq⟩ := D5_ok hq
    exact n7_ok y0b y0n y0c y9b y9n y9c y11 Kn Kr g' hg' h' hq
  | _ => exact hq
def Q5 (Kn : T4) (Kr : T0) : XPost
  | .normal, g, h => D4 Kn g h
  | .ret, g, h => D0 Kr g h
  | _, _, _ => False
abbrev n5 (x0b : Option Addr) (x0n : Nat) (x0c : Nat) (x1 : List UInt8) (x2 : Int) (x3b : Option Addr) (x3n : Nat) (x3c : Nat) (x9b : Option Addr) (x9n : Nat) (x9c : Nat) (x10b : Option Addr) (x10n : Nat) (x10c : Nat) (Kn : T0) (Kr : T0) (h : H) : Prop :=
  HCalls Try.prog 14 ⟨[(.slice x0b x0n x0c)]⟩ h fun v121 h122 => vSlice v121 fun s123b s123n s123c => HCalls Try.prog 10 ⟨[(.slice x10b x10n x10c), (.slice s123b s123n s123c)]⟩ h122 fun v124 h125 => vBool v124 fun b126 => cond b126 (HCalls Try.prog 15 ⟨[(.slice x9b x9n x9c), (S x1)]⟩ h125 fun v127 h128 => vInt .i64 v127 fun i129 => HCalls Try.prog 16 ⟨[(.slice x0b x0n x0c), (S x1)]⟩ h128 fun v130 h131 => vInt .i64 v130 fun i132 => Spl (i129 = i132) (HCalls Try.prog 17 ⟨[(.slice x9b x9n x9c), (.int .i64 x2)]⟩ h131 fun v133 h134 => vInt .i64 v133 fun i135 => HCalls Try.prog 18 ⟨[(.slice x0b x0n x0c), (.int .i64 x2)]⟩ h134 fun v136 h137 => vInt .i64 v136 fun i138 => Spl (i135 = i138) (HCalls Try.prog 19 ⟨[(.slice x9b x9n x9c), (.slice x3b x3n x3c)]⟩ h137 fun v139 h140 => vInt .i64 v139 fun i141 => HCalls Try.prog 20 ⟨[(.slice x0b x0n x0c), (.slice x3b x3n x3c)]⟩ h140 fun v142 h143 => vInt .i64 v142 fun i144 => Spl (i141 = i144) (n6 x0b x0n x0c x9b x9n x9c x10b x10n x10c true Kn Kr h143) (n6 x0b x0n x0c x9b x9n x9c x10b x10n x10c false Kn Kr h143)) (n6 x0b x0n x0c x9b x9n x9c x10b x10n x10c false Kn Kr h137)) (n6 x0b x0n x0c x9b x9n x9c x10b x10n x10c false Kn Kr h131)) (n6 x0b x0n x0c x9b x9n x9c x10b x10n x10c false Kn Kr h125)
theorem n5_ok (x0b : Option Addr) (x0n : Nat) (x0c : Nat) (x1 : List UInt8) (x2 : Int) (x3b : Option Addr) (x3n : Nat) (x3c : Nat) (x9b : Option Addr) (x9n : Nat) (x9c : Nat) (x10b : Option Addr) (x10n : Nat) (x10c : Nat) (Kn : T0) (Kr : T0) (g : Env) (hg : E3 g x0b x0n x0c x1 x2 x3b x3n x3c x9b x9n x9c x10b x10n x10c) (h : H) (hS : n5 x0b x0n x0c x1 x2 x3b x3n x3c x9b x9n x9c x10b x10n x10c Kn Kr h) : wpC none Try.prog 79 n4_c2 (Q0 Kn Kr) g h := by
  obtain ⟨hg0, hg1, hg2, hg3, hg9, hg10, hds⟩ := hg
  refine wpC_seq' (x := n5_c1) (y := n5_c2) (Q' := (Q5 (fun z0b z0n z0c z9b z9n z9c z10b z10n z10c z11 h => n6 z0b z0n z0c z9b z9n z9c z10b z10n z10c z11 Kn Kr h) Kr)) (by kernel_rfl) ?_ ?_
  · refine wpC_of_wpx (by kernel_rfl) (by kernel_rfl) (g' := ((((((⟨g.v, []⟩ : Env).upd (some 0) (.slice x0b x0n x0c)).upd (some 1) (S x1)).upd (some 2) (.int .i64 x2)).upd (some 3) (.slice x3b x3n x3c)).upd (some 9) (.slice x9b x9n x9c)).upd (some 10) (.slice x10b x10n x10c)) (by rw [env_ds hds, upd_self hg0, upd_self hg1, upd_self hg2, upd_self hg3, upd_self hg9, upd_self hg10]) ?_
    have e : (n5 x0b x0n x0c x1 x2 x3b x3n x3c x9b x9n x9c x10b x10n x10c Kn Kr h) = wpx none Try.prog 79 n5_c1 (Q5 (fun z0b z0n z0c z9b z9n z9c z10b z10n z10c z11 h => n6 z0b z0n z0c z9b z9n z9c z10b z10n z10c z11 Kn Kr h) Kr) (((((((⟨g.v, []⟩ : Env).upd (some 0) (.slice x0b x0n x0c)).upd (some 1) (S x1)).upd (some 2) (.int .i64 x2)).upd (some 3) (.slice x3b x3n x3c)).upd (some 9) (.slice x9b x9n x9c)).upd (some 10) (.slice x10b x10n x10c)) h := by kernel_rfl
    exact e ▸ hS
  · intro e g' h' hq
    cases e with
    | normal =>
      have hq : D4 (fun z0b z0n z0c z9b z9n z9c z10b z10n z10c z11 h => n6 z0b z0n z0c z9b z9n z9c z10b z10n z10c z11 Kn Kr h) g' h' := hq
      obtain ⟨y0b, y0n, y0c, y9b, y9n, y9c, y10b, y10n, y10c, y11, hg', hq⟩ := D4_ok hq
      exact n6_ok y0b y0n y0c y9b y9n y9c y10b y10n y10c y11 Kn Kr g' hg' h' hq
    | _ => exact hq
def Q6 (Kn : T3) (Kr : T0) : XPost
  | .normal, g, h => D3 Kn g h
  | .ret, g, h => D0 Kr g h
  | _, _, _ => False
abbrev n4 (x0b : Option Addr) (x0n : Nat) (x0c : Nat) (x1 : List UInt8) (x2 : Int) (x3b : Option Addr) (x3n : Nat) (x3c : Nat) (x9b : Option Addr) (x9n : Nat) (x9c : Nat) (Kn : T0) (Kr : T0) (h : H) : Prop :=
  HCalls Try.prog 13 ⟨[(.slice x9b x9n x9c)]⟩ h fun v145 h146 => vSlice v145 fun s147b s147n s147c => n5 x0b x0n x0c x1 x2 x3b x3n x3c x9b x9n x9c s147b s147n s147c Kn Kr h146
theorem n4_ok (x0b : Option Addr) (x0n : Nat) (x0c : Nat) (x1 : List UInt8) (x2 : Int) (x3b : Option Addr) (x3n : Nat) (x3c : Nat) (x9b : Option Addr) (x9n : Nat) (x9c : Nat) (Kn : T0) (Kr : T0) (g : Env) (hg : E2 g x0b x0n x0c x1 x2 x3b x3n x3c x9b x9n x9c) (h : H) (hS : n4 x0b x0n x0c x1 x2 x3b x3n x3c x9b x9n x9c Kn Kr h) : wpC none Try.prog 79 n3_c2 (Q0 Kn Kr) g h := by
  obtain ⟨hg0, hg1, hg2, hg3, hg9, hds⟩ := hg
  refine wpC_seq' (x := n4_c1) (y := n4_c2) (Q' := (Q6 (fun z0b z0n z0c z1 z2 z3b z3n z3c z9b z9n z9c z10b z10n z10c h => n5 z0b z0n z0c z1 z2 z3b z3n z3c z9b z9n z9c z10b z10n z10c Kn Kr h) Kr)) (by kernel_rfl) ?_ ?_
  · refine wpC_of_wpx (by kernel_rfl) (by kernel_rfl) (g' := (((((⟨g.v, []⟩ : Env).upd (some 0) (.slice x0b x0n x0c)).upd (some 1) (S x1)).upd (some 2) (.int .i64 x2)).upd (some 3) (.slice x3b x3n x3c)).upd (some 9) (.slice x9b x9n x9c)) (by rw [env_ds hds, upd_self hg0, upd_self hg1, upd_self hg2, upd_self hg3, upd_self hg9]) ?_
    have e : (n4 x0b x0n x0c x1 x2 x3b x3n x3c x9b x9n x9c Kn Kr h) = wpx none Try.prog 79 n4_c1 (Q6 (fun z0b z0n z0c z1 z2 z3b z3n z3c z9b z9n z9c z10b z10n z10c h => n5 z0b z0n z0c z1 z2 z3b z3n z3c z9b z9n z9c z10b z10n z10c Kn Kr h) Kr) ((((((⟨g.v, []⟩ : Env).upd (some 0) (.slice x0b x0n x0c)).upd (some 1) (S x1)).upd (some 2) (.int .i64 x2)).upd (some 3) (.slice x3b x3n x3c)).upd (some 9) (.slice x9b x9n x9c)) h := by kernel_rfl
    exact e ▸ hS
  · intro e g' h' hq
    cases e with
    | normal =>
      have hq : D3 (fun z0b z0n z0c z1 z2 z3b z3n z3c z9b z9n z9c z10b z10n z10c h => n5 z0b z0n z0c z1 z2 z3b z3n z3c z9b z9n z9c z10b z10n z10c Kn Kr h) g' h' := hq
      obtain ⟨y0b, y0n, y0c, y1, y2, y3b, y3n, y3c, y9b, y9n, y9c, y10b, y10n, y10c, hg', hq⟩ := D3_ok hq
      exact n5_ok y0b y0n y0c y1 y2 y3b y3n y3c y9b y9n y9c y10b y10n y10c Kn Kr g' hg' h' hq
    | _ => exact hq
def Q7 (Kn : T2) (Kr : T0) : XPost
  | .normal, g, h => D2 Kn g h
  | .ret, g, h => D0 Kr g h
  | _, _, _ => False
abbrev n3 (x0b : Option Addr) (x0n : Nat) (x0c : Nat) (x1 : List UInt8) (x2 : Int) (x3b : Option Addr) (x3n : Nat) (x3c : Nat) (Kn : T0) (Kr : T0) (h : H) : Prop :=
  HCalls Try.prog 8 ⟨[(.slice x0b x0n x0c)]⟩ h fun v148 h149 => vSlice v148 fun s150b s150n s150c => n4 x0b x0n x0c x1 x2 x3b x3n x3c s150b s150n s150c Kn Kr h149
theorem n3_ok (x0b : Option Addr) (x0n : Nat) (x0c : Nat) (x1 : List UInt8) (x2 : Int) (x3b : Option Addr) (x3n : Nat) (x3c : Nat) (Kn : T0) (Kr : T0) (g : Env) (hg : E1 g x0b x0n x0c x1 x2 x3b x3n x3c) (h : H) (hS : n3 x0b x0n x0c x1 x2 x3b x3n x3c Kn Kr h) : wpC none Try.prog 79 n2_c2 (Q0 Kn Kr) g h := by
  obtain ⟨hg0, hg1, hg2, hg3, hds⟩ := hg
  refine wpC_seq' (x := n3_c1) (y := n3_c2) (Q' := (Q7 (fun z0b z0n z0c z1 z2 z3b z3n z3c z9b z9n z9c h => n4 z0b z0n z0c z1 z2 z3b z3n z3c z9b z9n z9c Kn Kr h) Kr)) (by kernel_rfl) ?_ ?_
  · refine wpC_of_wpx (by kernel_rfl) (by kernel_rfl) (g' := ((((⟨g.v, []⟩ : Env).upd (some 0) (.slice x0b x0n x0c)).upd (some 1) (S x1)).upd (some 2) (.int .i64 x2)).upd (some 3) (.slice x3b x3n x3c)) (by rw [env_ds hds, upd_self hg0, upd_self hg1, upd_self hg2, upd_self hg3]) ?_
    have e : (n3 x0b x0n x0c x1 x2 x3b x3n x3c Kn Kr h) = wpx none Try.prog 79 n3_c1 (Q7 (fun z0b z0n z0c z1 z2 z3b z3n z3c z9b z9n z9c h => n4 z0b z0n z0c z1 z2 z3b z3n z3c z9b z9n z9c Kn Kr h) Kr) (((((⟨g.v, []⟩ : Env).upd (some 0) (.slice x0b x0n x0c)).upd (some 1) (S x1)).upd (some 2) (.int .i64 x2)).upd (some 3) (.slice x3b x3n x3c)) h := by kernel_rfl
    exact e ▸ hS
  · intro e g' h' hq
    cases e with
    | normal =>
      have hq : D2 (fun z0b z0n z0c z1 z2 z3b z3n z3c z9b z9n z9c h => n4 z0b z0n z0c z1 z2 z3b z3n z3c z9b z9n z9c Kn Kr h) g' h' := hq
      obtain ⟨y0b, y0n, y0c, y1, y2, y3b, y3n, y3c, y9b, y9n, y9c, hg', hq⟩ := D2_ok hq
      exact n4_ok y0b y0n y0c y1 y2 y3b y3n y3c y9b y9n y9c Kn Kr g' hg' h' hq
    | _ => exact hq
def Q8 (Kn : T1) (Kr : T0) : XPost
  | .normal, g, h => D1 Kn g h
  | .ret, g, h => D0 Kr g h
  | _, _, _ => False
abbrev n2 (x0b : Option Addr) (x0n : Nat) (x0c : Nat) (x1 : List UInt8) (x2 : Int) (x3b : Option Addr) (x3n : Nat) (x3c : Nat) (Kn : T0) (Kr : T0) (h : H) : Prop :=
  HCalls Try.prog 7 ⟨[(.slice x0b x0n x0c)]⟩ h fun v151 h152 => vBool v151 fun b153 => cond b153 (Kr true h152) (Spl ((x1.length : Int) > (1500 : Int)) (Kr true h152) (Spl ((x3n : Int) > (1500 : Int)) (Kr true h152) (n3 x0b x0n x0c x1 x2 x3b x3n x3c Kn Kr h152)))
theorem n2_ok (x0b : Option Addr) (x0n : Nat) (x0c : Nat) (x1 : List UInt8) (x2 : Int) (x3b : Option Addr) (x3n : Nat) (x3c : Nat) (Kn : T0) (Kr : T0) (g : Env) (hg : E1 g x0b x0n x0c x1 x2 x3b x3n x3c) (h : H) (hS : n2 x0b x0n x0c x1 x2 x3b x3n x3c Kn Kr h) : wpC none Try.prog 79 n1_c2 (Q0 Kn Kr) g h := by
  obtain ⟨hg0, hg1, hg2, hg3, hds⟩ := hg
  refine wpC_seq' (x := n2_c1) (y := n2_c2) (Q' := (Q8 (fun z0b z0n z0c z1 z2 z3b z3n z3c h => n3 z0b z0n z0c z1 z2 z3b z3n z3c Kn Kr h) Kr)) (by kernel_rfl) ?_ ?_
  · refine wpC_of_wpx (by kernel_rfl) (by kernel_rfl) (g' := ((((⟨g.v, []⟩ : Env).upd (some 0) (.slice x0b x0n x0c)).upd (some 1) (S x1)).upd (some 2) (.int .i64 x2)).upd (some 3) (.slice x3b x3n x3c)) (by rw [env_ds hds, upd_self hg0, upd_self hg1, upd_self hg2, upd_self hg3]) ?_
    have e : (n2 x0b x0n x0c x1 x2 x3b x3n x3c Kn Kr h) = wpx none Try.prog 79 n2_c1 (Q8 (fun z0b z0n z0c z1 z2 z3b z3n z3c h => n3 z0b z0n z0c z1 z2 z3b z3n z3c Kn Kr h) Kr) (((((⟨g.v, []⟩ : Env).upd (some 0) (.slice x0b x0n x0c)).upd (some 1) (S x1)).upd (some 2) (.int .i64 x2)).upd (some 3) (.slice x3b x3n x3c)) h := by kernel_rfl
    exact e ▸ hS
  · intro e g' h' hq
    cases e with
    | normal =>
      have hq : D1 (fun z0b z0n z0c z1 z2 z3b z3n z3c h => n3 z0b z0n z0c z1 z2 z3b z3n z3c Kn Kr h) g' h' := hq
      obtain ⟨y0b, y0n, y0c, y1, y2, y3b, y3n, y3c, hg', hq⟩ := D1_ok hq
      exact n3_ok y0b y0n y0c y1 y2 y3b y3n y3c Kn Kr g' hg' h' hq
    | _ => exact hq
abbrev n1 (x0b : Option Addr) (x0n : Nat) (x0c : Nat) (x1 : List UInt8) (x2 : Int) (x3b : Option Addr) (x3n : Nat) (x3c : Nat) (Kn : T0) (Kr : T0) (h : H) : Prop :=
  n2 x0b x0n x0c x1 x2 x3b x3n x3c Kn Kr h
theorem n1_ok (x0b : Option Addr) (x0n : Nat) (x0c : Nat) (x1 : List UInt8) (x2 : Int) (x3b : Option Addr) (x3n : Nat) (x3c : Nat) (Kn : T0) (Kr : T0) (g : Env) (hg : E1 g x0b x0n x0c x1 x2 x3b x3n x3c) (h : H) (hS : n1 x0b x0n x0c x1 x2 x3b x3n x3c Kn Kr h) : wpC none Try.prog 79 code (Q0 Kn Kr) g h := by
  obtain ⟨hg0, hg1, hg2, hg3, hds⟩ := hg
  refine wpC_seq' (x := n1_c1) (y := n1_c2) (Q' := (Q8 (fun z0b z0n z0c z1 z2 z3b z3n z3c h => n2 z0b z0n z0c z1 z2 z3b z3n z3c Kn Kr h) Kr)) (by kernel_rfl) ?_ ?_
  · refine wpC_of_wpx (by kernel_rfl) (by kernel_rfl) (g' := ((((⟨g.v, []⟩ : Env).upd (some 0) (.slice x0b x0n x0c)).upd (some 1) (S x1)).upd (some 2) (.int .i64 x2)).upd (some 3) (.slice x3b x3n x3c)) (by rw [env_ds hds, upd_self hg0, upd_self hg1, upd_self hg2, upd_self hg3]) ?_
    have e : (n1 x0b x0n x0c x1 x2 x3b x3n x3c Kn Kr h) = wpx none Try.prog 79 n1_c1 (Q8 (fun z0b z0n z0c z1 z2 z3b z3n z3c h => n2 z0b z0n z0c z1 z2 z3b z3n z3c Kn Kr h) Kr) (((((⟨g.v, []⟩ : Env).upd (some 0) (.slice x0b x0n x0c)).upd (some 1) (S x1)).upd (some 2) (.int .i64 x2)).upd (some 3) (.slice x3b x3n x3c)) h := by kernel_rfl
    exact e ▸ hS
  · intro e g' h' hq
    cases e with
    | normal =>
      have hq : D1 (fun z0b z0n z0c z1 z2 z3b z3n z3c h => n2 z0b z0n z0c z1 z2 z3b z3n z3c Kn Kr h) g' h' := hq
      obtain ⟨y0b, y0n, y0c, y1, y2, y3b, y3n, y3c, hg', hq⟩ := D1_ok hq
      exact n2_ok y0b y0n y0c y1 y2 y3b y3n y3c Kn Kr g' hg' h' hq
    | _ => exact hq
/-- WHAT tympan/tympanlaw12.MarksLooks ASKS -/
abbrev asks (x0b : Option Addr) (x0n : Nat) (x0c : Nat) (x1 : List UInt8) (x2 : Int) (x3b : Option Addr) (x3n : Nat) (x3c : Nat) (K : Value → H → Prop) (h : H) : Prop := n1 x0b x0n x0c x1 x2 x3b x3n x3c (fun y8 h => K (.bool y8) h) (fun y8 h => K (.bool y8) h) h
theorem ok (x0b : Option Addr) (x0n : Nat) (x0c : Nat) (x1 : List UInt8) (x2 : Int) (x3b : Option Addr) (x3n : Nat) (x3c : Nat) (K : Value → H → Prop) (h : H) (hS : asks x0b x0n x0c x1 x2 x3b x3n x3c K h) : HCalls Try.prog 4 ⟨[(.slice x0b x0n x0c), (S x1), (.int .i64 x2), (.slice x3b x3n x3c)]⟩ h K := by
  refine calls_of_wpC (c := code) Try.func4 (by kernel_rfl) (Nat.le_of_ble_eq_true (by kernel_rfl)) ?_
  refine (n1_ok x0b x0n x0c x1 x2 x3b x3n x3c (fun y8 h => K (.bool y8) h) (fun y8 h => K (.bool y8) h) (env0 [(.slice x0b x0n x0c), (S x1), (.int .i64 x2), (.slice x3b x3n x3c)]) ⟨rfl, rfl, rfl, rfl, rfl⟩ h hS).mono ?_
  intro e g' h' hq
  cases e with
  | normal =>
    have hq : D0 (fun y8 h => K (.bool y8) h) g' h' := hq
    obtain ⟨y8, ⟨hg8, hd⟩, hq⟩ := D0_ok hq
    show leaveX g'.ds h' _
    rw [hd]
    show K (g'.v 8) h'
    rw [hg8]
    exact hq
  | ret =>
    have hq : D0 (fun y8 h => K (.bool y8) h) g' h' := hq
    obtain ⟨y8, ⟨hg8, hd⟩, hq⟩ := D0_ok hq
    show leaveX g'.ds h' _
    rw [hd]
    show K (g'.v 8) h'
    rw [hg8]
    exact hq
  | _ => exact hq
end Sx.l12_MarksLooks

/-! ### tympan/tympanlaw12.MarksFew -/
namespace Sx.l12_MarksFew
noncomputable def code : Code := bodyOf Try.f5
abbrev T0 := Bool → H → Prop
def E0 (g : Env) (x2 : Bool) : Prop := g.v 2 = (.bool x2) ∧ g.ds = []
def D0 (K : T0) (g : Env) (h : H) : Prop := nilDs g.ds (vBool (g.v 2) fun b1 => K b1 h)
theorem D0_ok {K : T0} {g : Env} {h : H} (hq : D0 K g h) : ∃ (x2 : Bool), E0 g x2 ∧ K x2 h := by
  obtain ⟨hd, hq⟩ := nilDs_ok hq
  obtain ⟨y3, e2, q4⟩ := vBool_ok hq
  exact ⟨y3, ⟨e2, hd⟩, q4⟩
def Q0 (Kn : T0) (Kr : T0) : XPost
  | .normal, g, h => D0 Kn g h
  | .ret, g, h => D0 Kr g h
  | _, _, _ => False
abbrev T1 := (Option Addr) → Nat → Nat → H → Prop
def E1 (g : Env) (x0b : Option Addr) (x0n : Nat) (x0c : Nat) : Prop := g.v 0 = (.slice x0b x0n x0c) ∧ g.ds = []
def D1 (K : T1) (g : Env) (h : H) : Prop := nilDs g.ds (vSlice (g.v 0) fun s5b s5n s5c => K s5b s5n s5c h)
theorem D1_ok {K : T1} {g : Env} {h : H} (hq : D1 K g h) : ∃ (x0b : Option Addr) (x0n : Nat) (x0c : Nat), E1 g x0b x0n x0c ∧ K x0b x0n x0c h := by
  obtain ⟨hd, hq⟩ := nilDs_ok hq
  obtain ⟨y7b, y7n, y7c, e6, q8⟩ := vSlice_ok hq
  exact ⟨y7b, y7n, y7c, ⟨e6, hd⟩, q8⟩
noncomputable def n1_c1 : Code := cFst code
noncomputable def n1_c2 : Code := cSnd code
noncomputable def n2_c1 : Code := cFst n1_c2
noncomputable def n2_c2 : Code := cSnd n1_c2
noncomputable def n3_c1 : Code := cFst n2_c2
noncomputable def n3_c2 : Code := cSnd n2_c2
abbrev T2 := (Option Addr) → Nat → Nat → (Option Addr) → Nat → Nat → H → Prop
def E2 (g : Env) (x0b : Option Addr) (x0n : Nat) (x0c : Nat) (x3b : Option Addr) (x3n : Nat) (x3c : Nat) : Prop := g.v 0 = (.slice x0b x0n x0c) ∧ g.v 3 = (.slice x3b x3n x3c) ∧ g.ds = []
def D2 (K : T2) (g : Env) (h : H) : Prop := nilDs g.ds (vSlice (g.v 0) fun s9b s9n s9c => vSlice (g.v 3) fun s10b s10n s10c => K s9b s9n s9c s10b s10n s10c h)
theorem D2_ok {K : T2} {g : Env} {h : H} (hq : D2 K g h) : ∃ (x0b : Option Addr) (x0n : Nat) (x0c : Nat) (x3b : Option Addr) (x3n : Nat) (x3c : Nat), E2 g x0b x0n x0c x3b x3n x3c ∧ K x0b x0n x0c x3b x3n x3c h := by
  obtain ⟨hd, hq⟩ := nilDs_ok hq
  obtain ⟨y12b, y12n, y12c, e11, q13⟩ := vSlice_ok hq
  obtain ⟨y15b, y15n, y15c, e14, q16⟩ := vSlice_ok q13
  exact ⟨y12b, y12n, y12c, y15b, y15n, y15c, ⟨e11, e14, hd⟩, q16⟩
noncomputable def n4_c1 : Code := cFst n3_c2
noncomputable def n4_c2 : Code := cSnd n3_c2
abbrev T3 := H → Prop
def E3 (g : Env)  : Prop := g.ds = []
def D3 (K : T3) (g : Env) (h : H) : Prop := nilDs g.ds (K h)
theorem D3_ok {K : T3} {g : Env} {h : H} (hq : D3 K g h) : E3 g  ∧ K  h := by
  obtain ⟨hd, hq⟩ := nilDs_ok hq
  skip
  exact ⟨hd, hq⟩
abbrev n5  (Kn : T0) (Kr : T0) (h : H) : Prop :=
  Kr true h
theorem n5_ok  (Kn : T0) (Kr : T0) (g : Env) (hg : E3 g ) (h : H) (hS : n5  Kn Kr h) : wpC none Try.prog 82 n4_c2 (Q0 Kn Kr) g h := by
  have hds : g.ds = [] := hg
  refine wpC_of_wpx (by kernel_rfl) (by kernel_rfl) (g' := ⟨g.v, []⟩) (by rw [env_ds hds]) ?_
  have e : (n5  Kn Kr h) = wpx none Try.prog 82 n4_c2 (Q0 Kn Kr) (⟨g.v, []⟩) h := by kernel_rfl
  exact e ▸ hS
def Q1 (Kn : T3) (Kr : T0) : XPost
  | .normal, g, h => D3 Kn g h
  | .ret, g, h => D0 Kr g h
  | _, _, _ => False
noncomputable def n6_c1 : Code := cFst n4_c1
noncomputable def n6_c2 : Code := cSnd n4_c1
abbrev T4 := (Option Addr) → Nat → Nat → (Option Addr) → Nat → Nat → Int → H → Prop
def E4 (g : Env) (x0b : Option Addr) (x0n : Nat) (x0c : Nat) (x3b : Option Addr) (x3n : Nat) (x3c : Nat) (x4 : Int) : Prop := g.v 0 = (.slice x0b x0n x0c) ∧ g.v 3 = (.slice x3b x3n x3c) ∧ g.v 4 = (.int .i64 x4) ∧ g.ds = []
def D4 (K : T4) (g : Env) (h : H) : Prop := nilDs g.ds (vSlice (g.v 0) fun s17b s17n s17c => vSlice (g.v 3) fun s18b s18n s18c => vInt .i64 (g.v 4) fun i19 => K s17b s17n s17c s18b s18n s18c i19 h)
theorem D4_ok {K : T4} {g : Env} {h : H} (hq : D4 K g h) : ∃ (x0b : Option Addr) (x0n : Nat) (x0c : Nat) (x3b : Option Addr) (x3n : Nat) (x3c : Nat) (x4 : Int), E4 g x0b x0n x0c x3b x3n x3c x4 ∧ K x0b x0n x0c x3b x3n x3c x4 h := by
  obtain ⟨hd, hq⟩ := nilDs_ok hq
  obtain ⟨y21b, y21n, y21c, e20, q22⟩ := vSlice_ok hq
  obtain ⟨y24b, y24n, y24c, e23, q25⟩ := vSlice_ok q22
  obtain ⟨y27, e26, q28⟩ := vInt_ok q25
  exact ⟨y21b, y21n, y21c, y24b, y24n, y24c, y27, ⟨e20, e23, e26, hd⟩, q28⟩
noncomputable def n7_c1 : Code := cFst n6_c2
def Q2 (Kn : T3) (Ke0 : T3) (Kr : T0) : XPost
  | .normal, g, h => D3 Kn g h
  | .ret, g, h => D0 Kr g h
  | .exit id, g, h => cond (Nat.beq id 0) (D3 Ke0 g h) (False)
  | _, _, _ => False
noncomputable def n8_c1 : Code := cFst n7_c1
def Q3 (Kn : T4) (Ke0 : T3) (Kr : T0) : XPost
  | .normal, g, h => D4 Kn g h
  | .ret, g, h => D0 Kr g h
  | .exit id, g, h => cond (Nat.beq id 0) (D3 Ke0 g h) (False)
  | _, _, _ => False
noncomputable def n9_c1 : Code := cFst n8_c1
noncomputable def n9_c2 : Code := cSnd n8_c1
noncomputable def n10_c1 : Code := cFst n9_c2
noncomputable def n10_c2 : Code := cSnd n9_c2
abbrev n11 (x0b : Option Addr) (x0n : Nat) (x0c : Nat) (x3b : Option Addr) (x3n : Nat) (x3c : Nat) (x4 : Int) (Kn : T4) (Ke0 : T3) (Kr : T0) (h : H) : Prop :=
  Rng .i64 (x4 + (1 : Int)) ∧ (Kn x0b x0n x0c x3b x3n x3c (x4 + (1 : Int)) h)
theorem n11_ok (x0b : Option Addr) (x0n : Nat) (x0c : Nat) (x3b : Option Addr) (x3n : Nat) (x3c : Nat) (x4 : Int) (Kn : T4) (Ke0 : T3) (Kr : T0) (g : Env) (hg : E4 g x0b x0n x0c x3b x3n x3c x4) (h : H) (hS : n11 x0b x0n x0c x3b x3n x3c x4 Kn Ke0 Kr h) : wpC none Try.prog 82 n10_c2 (Q3 Kn Ke0 Kr) g h := by
  obtain ⟨hg0, hg3, hg4, hds⟩ := hg
  refine wpC_of_wpx (by kernel_rfl) (by kernel_rfl) (g' := (((⟨g.v, []⟩ : Env).upd (some 0) (.slice x0b x0n x0c)).upd (some 3) (.slice x3b x3n x3c)).upd (some 4) (.int .i64 x4)) (by rw [env_ds hds, upd_self hg0, upd_self hg3, upd_self hg4]) ?_
  have e : (n11 x0b x0n x0c x3b x3n x3c x4 Kn Ke0 Kr h) = wpx none Try.prog 82 n10_c2 (Q3 Kn Ke0 Kr) ((((⟨g.v, []⟩ : Env).upd (some 0) (.slice x0b x0n x0c)).upd (some 3) (.slice x3b x3n x3c)).upd (some 4) (.int .i64 x4)) h := by kernel_rfl
  exact e ▸ hS
noncomputable def n12_c1 : Code := cFst n10_c1
def Q4 (Kn : T4) (Ke1 : T4) (Ke0 : T3) (Kr : T0) : XPost
  | .normal, g, h => D4 Kn g h
  | .ret, g, h => D0 Kr g h
  | .exit id, g, h => cond (Nat.beq id 1) (D4 Ke1 g h) (cond (Nat.beq id 0) (D3 Ke0 g h) (False))
  | _, _, _ => False
noncomputable def n13_c1 : Code := cFst n12_c1
noncomputable def n13_c2 : Code := cSnd n12_c1
abbrev T5 := (Option Addr) → Nat → Nat → (Option Addr) → Nat → Nat → Int → Addr → H → Prop
def E5 (g : Env) (x0b : Option Addr) (x0n : Nat) (x0c : Nat) (x3b : Option Addr) (x3n : Nat) (x3c : Nat) (x4 : Int) (x5 : Addr) : Prop := g.v 0 = (.slice x0b x0n x0c) ∧ g.v 3 = (.slice x3b x3n x3c) ∧ g.v 4 = (.int .i64 x4) ∧ g.v 5 = (.pointer (some x5)) ∧ g.ds = []
def D5 (K : T5) (g : Env) (h : H) : Prop := nilDs g.ds (vSlice (g.v 0) fun s29b s29n s29c => vSlice (g.v 3) fun s30b s30n s30c => vInt .i64 (g.v 4) fun i31 => vAddr (g.v 5) fun a32 => K s29b s29n s29c s30b s30n s30c i31 a32 h)
theorem D5_ok {K : T5} {g : Env} {h : H} (hq : D5 K g h) : ∃ (x0b : Option Addr) (x0n : Nat) (x0c : Nat) (x3b : Option Addr) (x3n : Nat) (x3c : Nat) (x4 : Int) (x5 : Addr), E5 g x0b x0n x0c x3b x3n x3c x4 x5 ∧ K x0b x0n x0c x3b x3n x3c x4 x5 h := by
  obtain ⟨hd, hq⟩ := nilDs_ok hq
  obtain ⟨y34b, y34n, y34c, e33, q35⟩ := vSlice_ok hq
  obtain ⟨y37b, y37n, y37c, e36, q38⟩ := vSlice_ok q35
  obtain ⟨y40, e39, q41⟩ := vInt_ok q38
  obtain ⟨y43, e42, q44⟩ := vAddr_ok q41
  exact ⟨y34b, y34n, y34c, y37b, y37n, y37c, y40, y43, ⟨e33, e36, e39, e42, hd⟩, q44⟩
noncomputable def n14_c1 : Code := cFst n13_c2
noncomputable def n14_c2 : Code := cSnd n13_c2
noncomputable def n15_c1 : Code := cFst n14_c2
noncomputable def n15_c2 : Code := cSnd n14_c2
noncomputable def n16_c1 : Code := cFst n15_c2
noncomputable def n16_c2 : Code := cSnd n15_c2
abbrev T6 := (Option Addr) → Nat → Nat → (Option Addr) → Nat → Nat → Int → Addr → Int → H → Prop
def E6 (g : Env) (x0b : Option Addr) (x0n : Nat) (x0c : Nat) (x3b : Option Addr) (x3n : Nat) (x3c : Nat) (x4 : Int) (x5 : Addr) (x6 : Int) : Prop := g.v 0 = (.slice x0b x0n x0c) ∧ g.v 3 = (.slice x3b x3n x3c) ∧ g.v 4 = (.int .i64 x4) ∧ g.v 5 = (.pointer (some x5)) ∧ g.v 6 = (.int .i64 x6) ∧ g.ds = []
def D6 (K : T6) (g : Env) (h : H) : Prop := nilDs g.ds (vSlice (g.v 0) fun s45b s45n s45c => vSlice (g.v 3) fun s46b s46n s46c => vInt .i64 (g.v 4) fun i47 => vAddr (g.v 5) fun a48 => vInt .i64 (g.v 6) fun i49 => K s45b s45n s45c s46b s46n s46c i47 a48 i49 h)
theorem D6_ok {K : T6} {g : Env} {h : H} (hq : D6 K g h) : ∃ (x0b : Option Addr) (x0n : Nat) (x0c : Nat) (x3b : Option Addr) (x3n : Nat) (x3c : Nat) (x4 : Int) (x5 : Addr) (x6 : Int), E6 g x0b x0n x0c x3b x3n x3c x4 x5 x6 ∧ K x0b x0n x0c x3b x3n x3c x4 x5 x6 h := by
  obtain ⟨hd, hq⟩ := nilDs_ok hq
  obtain ⟨y51b, y51n, y51c, e50, q52⟩ := vSlice_ok hq
  obtain ⟨y54b, y54n, y54c, e53, q55⟩ := vSlice_ok q52
  obtain ⟨y57, e56, q58⟩ := vInt_ok q55
  obtain ⟨y60, e59, q61⟩ := vAddr_ok q58
  obtain ⟨y63, e62, q64⟩ := vInt_ok q61
  exact ⟨y51b, y51n, y51c, y54b, y54n, y54c, y57, y60, y63, ⟨e50, e53, e56, e59, e62, hd⟩, q64⟩
noncomputable def n17_c1 : Code := cFst n16_c2
noncomputable def n17_c2 : Code := cSnd n16_c2
abbrev T7 := (Option Addr) → Nat → Nat → (Option Addr) → Nat → Nat → Int → Int → H → Prop
def E7 (g : Env) (x0b : Option Addr) (x0n : Nat) (x0c : Nat) (x3b : Option Addr) (x3n : Nat) (x3c : Nat) (x4 : Int) (x6 : Int) : Prop := g.v 0 = (.slice x0b x0n x0c) ∧ g.v 3 = (.slice x3b x3n x3c) ∧ g.v 4 = (.int .i64 x4) ∧ g.v 6 = (.int .i64 x6) ∧ g.ds = []
def D7 (K : T7) (g : Env) (h : H) : Prop := nilDs g.ds (vSlice (g.v 0) fun s65b s65n s65c => vSlice (g.v 3) fun s66b s66n s66c => vInt .i64 (g.v 4) fun i67 => vInt .i64 (g.v 6) fun i68 => K s65b s65n s65c s66b s66n s66c i67 i68 h)
theorem D7_ok {K : T7} {g : Env} {h : H} (hq : D7 K g h) : ∃ (x0b : Option Addr) (x0n : Nat) (x0c : Nat) (x3b : Option Addr) (x3n : Nat) (x3c : Nat) (x4 : Int) (x6 : Int), E7 g x0b x0n x0c x3b x3n x3c x4 x6 ∧ K x0b x0n x0c x3b x3n x3c x4 x6 h := by
  obtain ⟨hd, hq⟩ := nilDs_ok hq
  obtain ⟨y70b, y70n, y70c, e69, q71⟩ := vSlice_ok hq
  obtain ⟨y73b, y73n, y73c, e72, q74⟩ := vSlice_ok q71
  obtain ⟨y76, e75, q77⟩ := vInt_ok q74
  obtain ⟨y79, e78, q80⟩ := vInt_ok q77
  exact ⟨y70b, y70n, y70c, y73b, y73n, y73c, y76, y79, ⟨e69, e72, e75, e78, hd⟩, q80⟩
abbrev n18 (x0b : Option Addr) (x0n : Nat) (x0c : Nat) (x3b : Option Addr) (x3n : Nat) (x3c : Nat) (x4 : Int) (x6 : Int) (Kn : T4) (Ke1 : T4) (Ke0 : T3) (Kr : T0) (h : H) : Prop :=
  Spl (x6 > (3 : Int)) (Kr false h) (Kn x0b x0n x0c x3b x3n x3c x4 h)
theorem n18_ok (x0b : Option Addr) (x0n : Nat) (x0c : Nat) (x3b : Option Addr) (x3n : Nat) (x3c : Nat) (x4 : Int) (x6 : Int) (Kn : T4) (Ke1 : T4) (Ke0 : T3) (Kr : T0) (g : Env) (hg : E7 g x0b x0n x0c x3b x3n x3c x4 x6) (h : H) (hS : n18 x0b x0n x0c x3b x3n x3c x4 x6 Kn Ke1 Ke0 Kr h) : wpC none Try.prog 82 n17_c2 (Q4 Kn Ke1 Ke0 Kr) g h := by
  obtain ⟨hg0, hg3, hg4, hg6, hds⟩ := hg
  refine wpC_of_wpx (by kernel_rfl) (by kernel_rfl) (g' := ((((⟨g.v, []⟩ : Env).upd (some 0) (.slice x0b x0n x0c)).upd (some 3) (.slice x3b x3n x3c)).upd (some 4) (.int .i64 x4)).upd (some 6) (.int .i64 x6)) (by rw [env_ds hds, upd_self hg0, upd_self hg3, upd_self hg4, upd_self hg6]) ?_
  have e : (n18 x0b x0n x0c x3b x3n x3c x4 x6 Kn Ke1 Ke0 Kr h) = wpx none Try.prog 82 n17_c2 (Q4 Kn Ke1 Ke0 Kr) (((((⟨g.v, []⟩ : Env).upd (some 0) (.slice x0b x0n x0c)).upd (some 3) (.slice x3b x3n x3c)).upd (some 4) (.int .i64 x4)).upd (some 6) (.int .i64 x6)) h := by kernel_rfl
  exact e ▸ hS
def Q5 (Kn : T7) (Ke1 : T4) (Ke0 : T3) (Kr : T0) : XPost
  | .normal, g, h => D7 Kn g h
  | .ret, g, h => D0 Kr g h
  | .exit id, g, h => cond (Nat.beq id 1) (D4 Ke1 g h) (cond (Nat.beq id 0) (D3 Ke0 g h) (False))
  | _, _, _ => False
noncomputable def n19_c1 : Code := cFst n17_c1
noncomputable def n19_c2 : Code := cSnd n17_c1
abbrev T8 := (Option Addr) → Nat → Nat → (Option Addr) → Nat → Nat → Int → Addr → Int → Int → H → Prop
def E8 (g : Env) (x0b : Option Addr) (x0n : Nat) (x0c : Nat) (x3b : Option Addr) (x3n : Nat) (x3c : Nat) (x4 : Int) (x5 : Addr) (x6 : Int) (x7 : Int) : Prop := g.v 0 = (.slice x0b x0n x0c) ∧ g.v 3 = (.slice x3b x3n x3c) ∧ g.v 4 = (.int .i64 x4) ∧ g.v 5 = (.pointer (some x5)) ∧ g.v 6 = (.int .i64 x6) ∧ g.v 7 = (.int .i64 x7) ∧ g.ds = []
def D8 (K : T8) (g : Env) (h : H) : Prop := nilDs g.ds (vSlice (g.v 0) fun s81b s81n s81c => vSlice (g.v 3) fun s82b s82n s82c => vInt .i64 (g.v 4) fun i83 => vAddr (g.v 5) fun a84 => vInt .i64 (g.v 6) fun i85 => vInt .i64 (g.v 7) fun i86 => K s81b s81n s81c s82b s82n s82c i83 a84 i85 i86 h)
theorem D8_ok {K : T8} {g : Env} {h : H} (hq : D8 K g h) : ∃ (x0b : Option Addr) (x0n : Nat) (x0c : Nat) (x3b : Option Addr) (x3n : Nat) (x3c : Nat) (x4 : Int) (x5 : Addr) (x6 : Int) (x7 : Int), E8 g x0b x0n x0c x3b x3n x3c x4 x5 x6 x7 ∧ K x0b x0n x0c x3b x3n x3c x4 x5 x6 x7 h := by
  obtain ⟨hd, hq⟩ := nilDs_ok hq
  obtain ⟨y88b, y88n, y88c, e87, q89⟩ := vSlice_ok hq
  obtain ⟨y91b, y91n, y91c, e90, q92⟩ := vSlice_ok q89
  obtain ⟨y94, e93, q95⟩ := vInt_ok q92
  obtain ⟨y97, e96, q98⟩ := vAddr_ok q95
  obtain ⟨y100, e99, q101⟩ := vInt_ok q98
  obtain ⟨y103, e102, q104⟩ := vInt_ok q101
  exact ⟨y88b, y88n, y88c, y91b, y91n, y91c, y94, y97, y100, y103, ⟨e87, e90, e93, e96, e99, e102, hd⟩, q104⟩
noncomputable def n20_c1 : Code := cFst n19_c2
def Q6 (Kn : T7) (Ke2 : T7) (Ke1 : T4) (Ke0 : T3) (Kr : T0) : XPost
  | .normal, g, h => D7 Kn g h
  | .ret, g, h => D0 Kr g h
  | .exit id, g, h => cond (Nat.beq id 2) (D7 Ke2 g h) (cond (Nat.beq id 1) (D4 Ke1 g h) (cond (Nat.beq id 0) (D3 Ke0 g h) (False)))
  | _, _, _ => False
noncomputable def n21_c1 : Code := cFst n20_c1
def Q7 (Kn : T8) (Ke2 : T7) (Ke1 : T4) (Ke0 : T3) (Kr : T0) : XPost
  | .normal, g, h => D8 Kn g h
  | .ret, g, h => D0 Kr g h
  | .exit id, g, h => cond (Nat.beq id 2) (D7 Ke2 g h) (cond (Nat.beq id 1) (D4 Ke1 g h) (cond (Nat.beq id 0) (D3 Ke0 g h) (False)))
  | _, _, _ => False
def n21_L (Kn : T7) (Ke2 : T7) (Ke1 : T4) (Ke0 : T3) (Kr : T0) : Nat → (Option Addr) → Nat → Nat → (Option Addr) → Nat → Nat → Int → Addr → Int → Int → H → Prop
  | 0, _, _, _, _, _, _, _, _, _, _, _ => False
  | N + 1, x0b, x0n, x0c, x3b, x3n, x3c, x4, x5, x6, x7, h => Spl (x7 ≥ (0 : Int)) ((0 ≤ x7 ∧ x7 < (x3n : Int)) ∧ (vSome x3b fun a105 => ∃ i106, cell h ((a105.add (Int.toNat x7 * 3)).add 0) = some (.int .i64 i106) ∧ (Spl (i106 ≥ (0 : Int)) ((0 ≤ x7 ∧ x7 < (x3n : Int)) ∧ (vSome x3b fun a107 => ∃ s108, cell h ((a107.add (Int.toNat x7 * 3)).add 1) = some (S s108) ∧ (∃ s109, cell h (x5.add 1) = some (S s109) ∧ (Spl (s108 = s109) (Rng .i64 (x6 + (1 : Int)) ∧ (Rng .i64 (x7 - (1 : Int)) ∧ (n21_L Kn Ke2 Ke1 Ke0 Kr N x0b x0n x0c x3b x3n x3c x4 x5 (x6 + (1 : Int)) (x7 - (1 : Int)) h))) (Rng .i64 (x7 - (1 : Int)) ∧ (n21_L Kn Ke2 Ke1 Ke0 Kr N x0b x0n x0c x3b x3n x3c x4 x5 x6 (x7 - (1 : Int)) h)))))) (Ke2 x0b x0n x0c x3b x3n x3c x4 x6 h)))) (Ke2 x0b x0n x0c x3b x3n x3c x4 x6 h)
abbrev n21 (x0b : Option Addr) (x0n : Nat) (x0c : Nat) (x3b : Option Addr) (x3n : Nat) (x3c : Nat) (x4 : Int) (x5 : Addr) (x6 : Int) (x7 : Int) (Kn : T7) (Ke2 : T7) (Ke1 : T4) (Ke0 : T3) (Kr : T0) (h : H) : Prop := ∃ N, n21_L Kn Ke2 Ke1 Ke0 Kr N x0b x0n x0c x3b x3n x3c x4 x5 x6 x7 h
theorem n21_ok (x0b : Option Addr) (x0n : Nat) (x0c : Nat) (x3b : Option Addr) (x3n : Nat) (x3c : Nat) (x4 : Int) (x5 : Addr) (x6 : Int) (x7 : Int) (Kn : T7) (Ke2 : T7) (Ke1 : T4) (Ke0 : T3) (Kr : T0) (g : Env) (hg : E8 g x0b x0n x0c x3b x3n x3c x4 x5 x6 x7) (h : H) (hS : n21 x0b x0n x0c x3b x3n x3c x4 x5 x6 x7 Kn Ke2 Ke1 Ke0 Kr h) : wpC none Try.prog 82 n20_c1 (Q6 Kn Ke2 Ke1 Ke0 Kr) g h := by
  obtain ⟨N0, hS⟩ := hS
  refine wpC_loop' (x := n21_c1) (by kernel_rfl) (fun k g h => ∃ (x0b : Option Addr) (x0n : Nat) (x0c : Nat) (x3b : Option Addr) (x3n : Nat) (x3c : Nat) (x4 : Int) (x5 : Addr) (x6 : Int) (x7 : Int), E8 g x0b x0n x0c x3b x3n x3c x4 x5 x6 x7 ∧ n21_L Kn Ke2 Ke1 Ke0 Kr k x0b x0n x0c x3b x3n x3c x4 x5 x6 x7 h) (fun g h hr => ?_) (fun N g h hr => ?_) N0 ⟨x0b, x0n, x0c, x3b, x3n, x3c, x4, x5, x6, x7, hg, hS⟩
  · obtain ⟨x0b, x0n, x0c, x3b, x3n, x3c, x4, x5, x6, x7, hg, hS⟩ := hr
    exact hS.elim
  · obtain ⟨x0b, x0n, x0c, x3b, x3n, x3c, x4, x5, x6, x7, hg, hS⟩ := hr
    have hw : wpC none Try.prog 82 n21_c1 (Q7 (fun z0b z0n z0c z3b z3n z3c z4 z5 z6 z7 h => n21_L Kn Ke2 Ke1 Ke0 Kr N z0b z0n z0c z3b z3n z3c z4 z5 z6 z7 h) Ke2 Ke1 Ke0 Kr) g h := by
      obtain ⟨hg0, hg3, hg4, hg5, hg6, hg7, hds⟩ := hg
      refine wpC_of_wpx (by kernel_rfl) (by kernel_rfl) (g' := ((((((⟨g.v, []⟩ : Env).upd (some 0) (.slice x0b x0n x0c)).upd (some 3) (.slice x3b x3n x3c)).upd (some 4) (.int .i64 x4)).upd (some 5) (.pointer (some x5))).upd (some 6) (.int .i64 x6)).upd (some 7) (.int .i64 x7)) (by rw [env_ds hds, upd_self hg0, upd_self hg3, upd_self hg4, upd_self hg5, upd_self hg6, upd_self hg7]) ?_
      have e : (n21_L Kn Ke2 Ke1 Ke0 Kr (N + 1) x0b x0n x0c x3b x3n x3c x4 x5 x6 x7 h) = wpx none Try.prog 82 n21_c1 (Q7 (fun z0b z0n z0c z3b z3n z3c z4 z5 z6 z7 h => n21_L Kn Ke2 Ke1 Ke0 Kr N z0b z0n z0c z3b z3n z3c z4 z5 z6 z7 h) Ke2 Ke1 Ke0 Kr) (((((((⟨g.v, []⟩ : Env).upd (some 0) (.slice x0b x0n x0c)).upd (some 3) (.slice x3b x3n x3c)).upd (some 4) (.int .i64 x4)).upd (some 5) (.pointer (some x5))).upd (some 6) (.int .i64 x6)).upd (some 7) (.int .i64 x7)) h := by kernel_rfl
      exact e ▸ hS
    refine hw.mono ?_
    intro e g' h' hq
    cases e with
    | normal => exact D8_ok (K := (fun z0b z0n z0c z3b z3n z3c z4 z5 z6 z7 h => n21_L Kn Ke2 Ke1 Ke0 Kr N z0b z0n z0c z3b z3n z3c z4 z5 z6 z7 h)) hq
    | _ => exact hq
abbrev n20 (x0b : Option Addr) (x0n : Nat) (x0c : Nat) (x3b : Option Addr) (x3n : Nat) (x3c : Nat) (x4 : Int) (x5 : Addr) (x6 : Int) (x7 : Int) (Kn : T7) (Ke1 : T4) (Ke0 : T3) (Kr : T0) (h : H) : Prop := n21 x0b x0n x0c x3b x3n x3c x4 x5 x6 x7 Kn Kn Ke1 Ke0 Kr h
theorem n20_ok (x0b : Option Addr) (x0n : Nat) (x0c : Nat) (x3b : Option Addr) (x3n : Nat) (x3c : Nat) (x4 : Int) (x5 : Addr) (x6 : Int) (x7 : Int) (Kn : T7) (Ke1 : T4) (Ke0 : T3) (Kr : T0) (g : Env) (hg : E8 g x0b x0n x0c x3b x3n x3c x4 x5 x6 x7) (h : H) (hS : n20 x0b x0n x0c x3b x3n x3c x4 x5 x6 x7 Kn Ke1 Ke0 Kr h) : wpC none Try.prog 82 n19_c2 (Q5 Kn Ke1 Ke0 Kr) g h := by
  refine wpC_block' (id := 2) (x := n20_c1) (by kernel_rfl) (n21_ok x0b x0n x0c x3b x3n x3c x4 x5 x6 x7 Kn Kn Ke1 Ke0 Kr g hg h hS) ?_
  intro e g' h' hq
  cases e <;> exact hq
def Q8 (Kn : T8) (Ke1 : T4) (Ke0 : T3) (Kr : T0) : XPost
  | .normal, g, h => D8 Kn g h
  | .ret, g, h => D0 Kr g h
  | .exit id, g, h => cond (Nat.beq id 1) (D4 Ke1 g h) (cond (Nat.beq id 0) (D3 Ke0 g h) (False))
  | _, _, _ => False
abbrev n19 (x0b : Option Addr) (x0n : Nat) (x0c : Nat) (x3b : Option Addr) (x3n : Nat) (x3c : Nat) (x4 : Int) (x5 : Addr) (x6 : Int) (Kn : T7) (Ke1 : T4) (Ke0 : T3) (Kr : T0) (h : H) : Prop :=
  Rng .i64 ((x3n : Int) - (1 : Int)) ∧ (n20 x0b x0n x0c x3b x3n x3c x4 x5 x6 ((x3n : Int) - (1 : Int)) Kn Ke1 Ke0 Kr h)
theorem n19_ok (x0b : Option Addr) (x0n : Nat) (x0c : Nat) (x3b : Option Addr) (x3n : Nat) (x3c : Nat) (x4 : Int) (x5 : Addr) (x6 : Int) (Kn : T7) (Ke1 : T4) (Ke0 : T3) (Kr : T0) (g : Env) (hg : E6 g x0b x0n x0c x3b x3n x3c x4 x5 x6) (h : H) (hS : n19 x0b x0n x0c x3b x3n x3c x4 x5 x6 Kn Ke1 Ke0 Kr h) : wpC none Try.prog 82 n17_c1 (Q5 Kn Ke1 Ke0 Kr) g h := by
  obtain ⟨hg0, hg3, hg4, hg5, hg6, hds⟩ := hg
  refine wpC_seq' (x := n19_c1) (y := n19_c2) (Q' := (Q8 (fun z0b z0n z0c z3b z3n z3c z4 z5 z6 z7 h => n20 z0b z0n z0c z3b z3n z3c z4 z5 z6 z7 Kn Ke1 Ke0 Kr h) Ke1 Ke0 Kr)) (by kernel_rfl) ?_ ?_
  · refine wpC_of_wpx (by kernel_rfl) (by kernel_rfl) (g' := (((((⟨g.v, []⟩ : Env).upd (some 0) (.slice x0b x0n x0c)).upd (some 3) (.slice x3b x3n x3c)).upd (some 4) (.int .i64 x4)).upd (some 5) (.pointer (some x5))).upd (some 6) (.int .i64 x6)) (by rw [env_ds hds, upd_self hg0, upd_self hg3, upd_self hg4, upd_self hg5, upd_self hg6]) ?_
    have e : (n19 x0b x0n x0c x3b x3n x3c x4 x5 x6 Kn Ke1 Ke0 Kr h) = wpx none Try.prog 82 n19_c1 (Q8 (fun z0b z0n z0c z3b z3n z3c z4 z5 z6 z7 h => n20 z0b z0n z0c z3b z3n z3c z4 z5 z6 z7 Kn Ke1 Ke0 Kr h) Ke1 Ke0 Kr) ((((((⟨g.v, []⟩ : Env).upd (some 0) (.slice x0b x0n x0c)).upd (some 3) (.slice x3b x3n x3c)).upd (some 4) (.int .i64 x4)).upd (some 5) (.pointer (some x5))).upd (some 6) (.int .i64 x6)) h := by kernel_rfl
    exact e ▸ hS
  · intro e g' h' hq
    cases e with
    | normal =>
      have hq : D8 (fun z0b z0n z0c z3b z3n z3c z4 z5 z6 z7 h => n20 z0b z0n z0c z3b z3n z3c z4 z5 z6 z7 Kn Ke1 Ke0 Kr h) g' h' := hq
      obtain ⟨y0b, y0n, y0c, y3b, y3n, y3c, y4, y5, y6, y7, hg', hq⟩ := D8_ok hq
      exact n20_ok y0b y0n y0c y3b y3n y3c y4 y5 y6 y7 Kn Ke1 Ke0 Kr g' hg' h' hq
    | _ => exact hq
abbrev n17 (x0b : Option Addr) (x0n : Nat) (x0c : Nat) (x3b : Option Addr) (x3n : Nat) (x3c : Nat) (x4 : Int) (x5 : Addr) (x6 : Int) (Kn : T4) (Ke1 : T4) (Ke0 : T3) (Kr : T0) (h : H) : Prop := n19 x0b x0n x0c x3b x3n x3c x4 x5 x6 (fun z0b z0n z0c z3b z3n z3c z4 z6 h => n18 z0b z0n z0c z3b z3n z3c z4 z6 Kn Ke1 Ke0 Kr h) Ke1 Ke0 Kr h
theorem n17_ok (x0b : Option Addr) (x0n : Nat) (x0c : Nat) (x3b : Option Addr) (x3n : Nat) (x3c : Nat) (x4 : Int) (x5 : Addr) (x6 : Int) (Kn : T4) (Ke1 : T4) (Ke0 : T3) (Kr : T0) (g : Env) (hg : E6 g x0b x0n x0c x3b x3n x3c x4 x5 x6) (h : H) (hS : n17 x0b x0n x0c x3b x3n x3c x4 x5 x6 Kn Ke1 Ke0 Kr h) : wpC none Try.prog 82 n16_c2 (Q4 Kn Ke1 Ke0 Kr) g h := by
  refine wpC_seq' (x := n17_c1) (y := n17_c2) (by kernel_rfl) (n19_ok x0b x0n x0c x3b x3n x3c x4 x5 x6 (fun z0b z0n z0c z3b z3n z3c z4 z6 h => n18 z0b z0n z0c z3b z3n z3c z4 z6 Kn Ke1 Ke0 Kr h) Ke1 Ke0 Kr g hg h hS) ?_
  intro e g' h' hq
  cases e with
  | normal =>
    have hq : D7 (fun z0b z0n z0c z3b z3n z3c z4 z6 h => n18 z0b z0n z0c z3b z3n z3c z4 z6 Kn Ke1 Ke0 Kr h) g' h' := hq
    obtain ⟨y0b, y0n, y0c, y3b, y3n, y3c, y4, y6, hg', hq⟩ := D7_ok hq
    exact n18_ok y0b y0n y0c y3b y3n y3c y4 y6 Kn Ke1 Ke0 Kr g' hg' h' hq
  | _ => exact hq
def Q9 (Kn : T6) (Ke1 : T4) (Ke0 : T3) (Kr : T0) : XPost
  | .normal, g, h => D6 Kn g h
  | .ret, g, h => D0 Kr g h
  | .exit id, g, h => cond (Nat.beq id 1) (D4 Ke1 g h) (cond (Nat.beq id 0) (D3 Ke0 g h) (False))
  | _, _, _ => False
abbrev n16 (x0b : Option Addr) (x0n : Nat) (x0c : Nat) (x3b : Option Addr) (x3n : Nat) (x3c : Nat) (x4 : Int) (x5 : Addr) (Kn : T4) (Ke1 : T4) (Ke0 : T3) (Kr : T0) (h : H) : Prop :=
  n17 x0b x0n x0c x3b x3n x3c x4 x5 (0 : Int) Kn Ke1 Ke0 Kr h
theorem n16_ok (x0b : Option Addr) (x0n : Nat) (x0c : Nat) (x3b : Option Addr) (x3n : Nat) (x3c : Nat) (x4 : Int) (x5 : Addr) (Kn : T4) (Ke1 : T4) (Ke0 : T3) (Kr : T0) (g : Env) (hg : E5 g x0b x0n x0c x3b x3n x3c x4 x5) (h : H) (hS : n16 x0b x0n x0c x3b x3n x3c x4 x5 Kn Ke1 Ke0 Kr h) : wpC none Try.prog 82 n15_c2 (Q4 Kn Ke1 Ke0 Kr) g h := by
  obtain ⟨hg0, hg3, hg4, hg5, hds⟩ := hg
  refine wpC_seq' (x := n16_c1) (y := n16_c2) (Q' := (Q9 (fun z0b z0n z0c z3b z3n z3c z4 z5 z6 h => n17 z0b z0n z0c z3b z3n z3c z4 z5 z6 Kn Ke1 Ke0 Kr h) Ke1 Ke0 Kr)) (by kernel_rfl) ?_ ?_
  · refine wpC_of_wpx (by kernel_rfl) (by kernel_rfl) (g' := ((((⟨g.v, []⟩ : Env).upd (some 0) (.slice x0b x0n x0c)).upd (some 3) (.slice x3b x3n x3c)).upd (some 4) (.int .i64 x4)).upd (some 5) (.pointer (some x5))) (by rw [env_ds hds, upd_self hg0, upd_self hg3, upd_self hg4, upd_self hg5]) ?_
    have e : (n16 x0b x0n x0c x3b x3n x3c x4 x5 Kn Ke1 Ke0 Kr h) = wpx none Try.prog 82 n16_c1 (Q9 (fun z0b z0n z0c z3b z3n z3c z4 z5 z6 h => n17 z0b z0n z0c z3b z3n z3c z4 z5 z6 Kn Ke1 Ke0 Kr h) Ke1 Ke0 Kr) (((((⟨g.v, []⟩ : Env).upd (some 0) (.slice x0b x0n x0c)).upd (some 3) (.slice x3b x3n x3c)).upd (some 4) (.int .i64 x4)).upd (some 5) (.pointer (some x5))) h := by kernel_rfl
    exact e ▸ hS
  · intro e g' h' hq
    cases e with
    | normal =>
      have hq : D6 (fun z0b z0n z0c z3b z3n z3c z4 z5 z6 h => n17 z0b z0n z0c z3b z3n z3c z4 z5 z6 Kn Ke1 Ke0 Kr h) g' h' := hq
      obtain ⟨y0b, y0n, y0c, y3b, y3n, y3c, y4, y5, y6, hg', hq⟩ := D6_ok hq
      exact n17_ok y0b y0n y0c y3b y3n y3c y4 y5 y6 Kn Ke1 Ke0 Kr g' hg' h' hq
    | _ => exact hq
def Q10 (Kn : T5) (Ke1 : T4) (Ke0 : T3) (Kr : T0) : XPost
  | .normal, g, h => D5 Kn g h
  | .ret, g, h => D0 Kr g h
  | .exit id, g, h => cond (Nat.beq id 1) (D4 Ke1 g h) (cond (Nat.beq id 0) (D3 Ke0 g h) (False))
  | _, _, _ => False
abbrev n15 (x0b : Option Addr) (x0n : Nat) (x0c : Nat) (x3b : Option Addr) (x3n : Nat) (x3c : Nat) (x4 : Int) (x5 : Addr) (Kn : T4) (Ke1 : T4) (Ke0 : T3) (Kr : T0) (h : H) : Prop :=
  Spl ((x3n : Int) = (0 : Int)) (Kr false h) (Rng .i64 ((x3n : Int) - (1 : Int)) ∧ ((0 ≤ ((x3n : Int) - (1 : Int)) ∧ ((x3n : Int) - (1 : Int)) < (x3n : Int)) ∧ (vSome x3b fun a110 => ∃ i111, cell h ((a110.add (Int.toNat ((x3n : Int) - (1 : Int)) * 3)).add 0) = some (.int .i64 i111) ∧ (∃ i112, cell h (x5.add 0) = some (.int .i64 i112) ∧ (Spl (i111 = i112) (n16 x0b x0n x0c x3b x3n x3c x4 x5 Kn Ke1 Ke0 Kr h) (Kr false h))))))
theorem n15_ok (x0b : Option Addr) (x0n : Nat) (x0c : Nat) (x3b : Option Addr) (x3n : Nat) (x3c : Nat) (x4 : Int) (x5 : Addr) (Kn : T4) (Ke1 : T4) (Ke0 : T3) (Kr : T0) (g : Env) (hg : E5 g x0b x0n x0c x3b x3n x3c x4 x5) (h : H) (hS : n15 x0b x0n x0c x3b x3n x3c x4 x5 Kn Ke1 Ke0 Kr h) : wpC none Try.prog 82 n14_c2 (Q4 Kn Ke1 Ke0 Kr) g h := by
  obtain ⟨hg0, hg3, hg4, hg5, hds⟩ := hg
  refine wpC_seq' (x := n15_c1) (y := n15_c2) (Q' := (Q10 (fun z0b z0n z0c z3b z3n z3c z4 z5 h => n16 z0b z0n z0c z3b z3n z3c z4 z5 Kn Ke1 Ke0 Kr h) Ke1 Ke0 Kr)) (by kernel_rfl) ?_ ?_
  · refine wpC_of_wpx (by kernel_rfl) (by kernel_rfl) (g' := ((((⟨g.v, []⟩ : Env).upd (some 0) (.slice x0b x0n x0c)).upd (some 3) (.slice x3b x3n x3c)).upd (some 4) (.int .i64 x4)).upd (some 5) (.pointer (some x5))) (by rw [env_ds hds, upd_self hg0, upd_self hg3, upd_self hg4, upd_self hg5]) ?_
    have e : (n15 x0b x0n x0c x3b x3n x3c x4 x5 Kn Ke1 Ke0 Kr h) = wpx none Try.prog 82 n15_c1 (Q10 (fun z0b z0n z0c z3b z3n z3c z4 z5 h => n16 z0b z0n z0c z3b z3n z3c z4 z5 Kn Ke1 Ke0 Kr h) Ke1 Ke0 Kr) (((((⟨g.v, []⟩ : Env).upd (some 0) (.slice x0b x0n x0c)).upd (some 3) (.slice x3b x3n x3c)).upd (some 4) (.int .i64 x4)).upd (some 5) (.pointer (some x5))) h := by kernel_rfl
    exact e ▸ hS
  · intro e g' h' hq
    cases e with
    | normal =>
      have hq : D5 (fun z0b z0n z0c z3b z3n z3c z4 z5 h => n16 z0b z0n z0c z3b z3n z3c z4 z5 Kn Ke1 Ke0 Kr h) g' h' := hq
      obtain ⟨y0b, y0n, y0c, y3b, y3n, y3c, y4, y5, hg', hq⟩ := D5_ok hq
      exact n16_ok y0b y0n y0c y3b y3n y3c y4 y5 Kn Ke1 Ke0 Kr g' hg' h' hq
    | _ => exact hq
abbrev n14 (x0b : Option Addr) (x0n : Nat) (x0c : Nat) (x3b : Option Addr) (x3n : Nat) (x3c : Nat) (x4 : Int) (x5 : Addr) (Kn : T4) (Ke1 : T4) (Ke0 : T3) (Kr : T0) (h : H) : Prop :=
  ∃ i113, cell h ((x5).add 0) = some (.int .i64 i113) ∧ (∃ s114, cell h ((x5).add 1) = some (S s114) ∧ (∃ s115b s115n s115c, cell h ((x5).add 2) = some (.slice s115b s115n s115c) ∧ (HCalls Try.prog 9 ⟨[(.slice x3b x3n x3c), (.agg ⟨[(.int .i64 i113), (S s114), (.slice s115b s115n s115c)]⟩)]⟩ h fun v116 h117 => vSlice v116 fun s118b s118n s118c => n15 x0b x0n x0c s118b s118n s118c x4 x5 Kn Ke1 Ke0 Kr h117)))
theorem n14_ok (x0b : Option Addr) (x0n : Nat) (x0c : Nat) (x3b : Option Addr) (x3n : Nat) (x3c : Nat) (x4 : Int) (x5 : Addr) (Kn : T4) (Ke1 : T4) (Ke0 : T3) (Kr : T0) (g : Env) (hg : E5 g x0b x0n x0c x3b x3n x3c x4 x5) (h : H) (hS : n14 x0b x0n x0c x3b x3n x3c x4 x5 Kn Ke1 Ke0 Kr h) : wpC none Try.prog 82 n13_c2 (Q4 Kn Ke1 Ke0 Kr) g h := by
  obtain ⟨hg0, hg3, hg4, hg5, hds⟩ := hg
  refine wpC_seq' (x := n14_c1) (y := n14_c2) (Q' := (Q10 (fun z0b z0n z0c z3b z3n z3c z4 z5 h => n15 z0b z0n z0c z3b z3n z3c z4 z5 Kn Ke1 Ke0 Kr h) Ke1 Ke0 Kr)) (by kernel_rfl) ?_ ?_
  · refine wpC_of_wpx (by kernel_rfl) (by kernel_rfl) (g' := ((((⟨g.v, []⟩ : Env).upd (some 0) (.slice x0b x0n x0c)).upd (some 3) (.slice x3b x3n x3c)).upd (some 4) (.int .i64 x4)).upd (some 5) (.pointer (some x5))) (by rw [env_ds hds, upd_self hg0, upd_self hg3, upd_self hg4, upd_self hg5]) ?_
    have e : (n14 x0b x0n x0c x3b x3n x3c x4 x5 Kn Ke1 Ke0 Kr h) = wpx none Try.prog 82 n14_c1 (Q10 (fun z0b z0n z0c z3b z3n z3c z4 z5 h => n15 z0b z0n z0c z3b z3n z3c z4 z5 Kn Ke1 Ke0 Kr h) Ke1 Ke0 Kr) (((((⟨g.v, []⟩ : Env).upd (some 0) (.slice x0b x0n x0c)).upd (some 3) (.slice x3b x3n x3c)).upd (some 4) (.int .i64 x4)).upd (some 5) (.pointer (some x5))) h := by kernel_rfl
    exact e ▸ hS
  · intro e g' h' hq
    cases e with
    | normal =>
      have hq : D5 (fun z0b z0n z0c z3b z3n z3c z4 z5 h => n15 z0b z0n z0c z3b z3n z3c z4 z5 Kn Ke1 Ke0 Kr h) g' h' := hq
      obtain ⟨y0b, y0n, y0c, y3b, y3n, y3c, y4, y5, hg', hq⟩ := D5_ok hq
      exact n15_ok y0b y0n y0c y3b y3n y3c y4 y5 Kn Ke1 Ke0 Kr g' hg' h' hq
    | _ => exact hq
abbrev n13 (x0b : Option Addr) (x0n : Nat) (x0c : Nat) (x3b : Option Addr) (x3n : Nat) (x3c : Nat) (x4 : Int) (Kn : T4) (Ke1 : T4) (Ke0 : T3) (Kr : T0) (h : H) : Prop :=
  (0 ≤ x4 ∧ x4 < (x0n : Int)) ∧ (vSome x0b fun a119 => ∃ i120, cell h ((a119.add (Int.toNat x4 * 3)).add 0) = some (.int .i64 i120) ∧ ((0 ≤ x4 ∧ x4 < (x0n : Int)) ∧ (vSome x0b fun a121 => ∃ s122, cell h ((a121.add (Int.toNat x4 * 3)).add 1) = some (S s122) ∧ (newx h ⟨[(.int .i64 (0 : Int)), (S ([] : List UInt8)), (.slice none 0 0)]⟩ 25 fun a123 h124 => ExtH h h124 ∧ (stL a123 [(.int .i64 i120), (S s122), (.slice none 0 0)] 0 h124 fun h125 => n14 x0b x0n x0c x3b x3n x3c x4 a123 Kn Ke1 Ke0 Kr h125)))))
theorem n13_ok (x0b : Option Addr) (x0n : Nat) (x0c : Nat) (x3b : Option Addr) (x3n : Nat) (x3c : Nat) (x4 : Int) (Kn : T4) (Ke1 : T4) (Ke0 : T3) (Kr : T0) (g : Env) (hg : E4 g x0b x0n x0c x3b x3n x3c x4) (h : H) (hS : n13 x0b x0n x0c x3b x3n x3c x4 Kn Ke1 Ke0 Kr h) : wpC none Try.prog 82 n12_c1 (Q4 Kn Ke1 Ke0 Kr) g h := by
  obtain ⟨hg0, hg3, hg4, hds⟩ := hg
  refine wpC_seq' (x := n13_c1) (y := n13_c2) (Q' := (Q10 (fun z0b z0n z0c z3b z3n z3c z4 z5 h => n14 z0b z0n z0c z3b z3n z3c z4 z5 Kn Ke1 Ke0 Kr h) Ke1 Ke0 Kr)) (by kernel_rfl) ?_ ?_
  · refine wpC_of_wpx (by kernel_rfl) (by kernel_rfl) (g' := (((⟨g.v, []⟩ : Env).upd (some 0) (.slice x0b x0n x0c)).upd (some 3) (.slice x3b x3n x3c)).upd (some 4) (.int .i64 x4)) (by rw [env_ds hds, upd_self hg0, upd_self hg3, upd_self hg4]) ?_
    have e : (n13 x0b x0n x0c x3b x3n x3c x4 Kn Ke1 Ke0 Kr h) = wpx none Try.prog 82 n13_c1 (Q10 (fun z0b z0n z0c z3b z3n z3c z4 z5 h => n14 z0b z0n z0c z3b z3n z3c z4 z5 Kn Ke1 Ke0 Kr h) Ke1 Ke0 Kr) ((((⟨g.v, []⟩ : Env).upd (some 0) (.slice x0b x0n x0c)).upd (some 3) (.slice x3b x3n x3c)).upd (some 4) (.int .i64 x4)) h := by kernel_rfl
    exact e ▸ hS
  · intro e g' h' hq
    cases e with
    | normal =>
      have hq : D5 (fun z0b z0n z0c z3b z3n z3c z4 z5 h => n14 z0b z0n z0c z3b z3n z3c z4 z5 Kn Ke1 Ke0 Kr h) g' h' := hq
      obtain ⟨y0b, y0n, y0c, y3b, y3n, y3c, y4, y5, hg', hq⟩ := D5_ok hq
      exact n14_ok y0b y0n y0c y3b y3n y3c y4 y5 Kn Ke1 Ke0 Kr g' hg' h' hq
    | _ => exact hq
abbrev n12 (x0b : Option Addr) (x0n : Nat) (x0c : Nat) (x3b : Option Addr) (x3n : Nat) (x3c : Nat) (x4 : Int) (Kn : T4) (Ke0 : T3) (Kr : T0) (h : H) : Prop := n13 x0b x0n x0c x3b x3n x3c x4 Kn Kn Ke0 Kr h
theorem n12_ok (x0b : Option Addr) (x0n : Nat) (x0c : Nat) (x3b : Option Addr) (x3n : Nat) (x3c : Nat) (x4 : Int) (Kn : T4) (Ke0 : T3) (Kr : T0) (g : Env) (hg : E4 g x0b x0n x0c x3b x3n x3c x4) (h : H) (hS : n12 x0b x0n x0c x3b x3n x3c x4 Kn Ke0 Kr h) : wpC none Try.prog 82 n10_c1 (Q3 Kn Ke0 Kr) g h := by
  refine wpC_block' (id := 1) (x := n12_c1) (by kernel_rfl) (n13_ok x0b x0n x0c x3b x3n x3c x4 Kn Kn Ke0 Kr g hg h hS) ?_
  intro e g' h' hq
  cases e <;> exact hq
abbrev n10 (x0b : Option Addr) (x0n : Nat) (x0c : Nat) (x3b : Option Addr) (x3n : Nat) (x3c : Nat) (x4 : Int) (Kn : T4) (Ke0 : T3) (Kr : T0) (h : H) : Prop := n12 x0b x0n x0c x3b x3n x3c x4 (fun z0b z0n z0c z3b z3n z3c z4 h => n11 z0b z0n z0c z3b z3n z3c z4 Kn Ke0 Kr h) Ke0 Kr h
theorem n10_ok (x0b : Option Addr) (x0n : Nat) (x0c : Nat) (x3b : Option Addr) (x3n : Nat) (x3c : Nat) (x4 : Int) (Kn : T4) (Ke0 : T3) (Kr : T0) (g : Env) (hg : E4 g x0b x0n x0c x3b x3n x3c x4) (h : H) (hS : n10 x0b x0n x0c x3b x3n x3c x4 Kn Ke0 Kr h) : wpC none Try.prog 82 n9_c2 (Q3 Kn Ke0 Kr) g h := by
  refine wpC_seq' (x := n10_c1) (y := n10_c2) (by kernel_rfl) (n12_ok x0b x0n x0c x3b x3n x3c x4 (fun z0b z0n z0c z3b z3n z3c z4 h => n11 z0b z0n z0c z3b z3n z3c z4 Kn Ke0 Kr h) Ke0 Kr g hg h hS) ?_
  intro e g' h' hq
  cases e with
  | normal =>
    have hq : D4 (fun z0b z0n z0c z3b z3n z3c z4 h => n11 z0b z0n z0c z3b z3n z3c z4 Kn Ke0 Kr h) g' h' := hq
    obtain ⟨y0b, y0n, y0c, y3b, y3n, y3c, y4, hg', hq⟩ := D4_ok hq
    exact n11_ok y0b y0n y0c y3b y3n y3c y4 Kn Ke0 Kr g' hg' h' hq
  | _ => exact hq
abbrev n9 (x0b : Option Addr) (x0n : Nat) (x0c : Nat) (x3b : Option Addr) (x3n : Nat) (x3c : Nat) (x4 : Int) (Kn : T4) (Ke0 : T3) (Kr : T0) (h : H) : Prop :=
  Spl (x4 < (x0n : Int)) (n10 x0b x0n x0c x3b x3n x3c x4 Kn Ke0 Kr h) (Ke0 h)
theorem n9_ok (x0b : Option Addr) (x0n : Nat) (x0c : Nat) (x3b : Option Addr) (x3n : Nat) (x3c : Nat) (x4 : Int) (Kn : T4) (Ke0 : T3) (Kr : T0) (g : Env) (hg : E4 g x0b x0n x0c x3b x3n x3c x4) (h : H) (hS : n9 x0b x0n x0c x3b x3n x3c x4 Kn Ke0 Kr h) : wpC none Try.prog 82 n8_c1 (Q3 Kn Ke0 Kr) g h := by
  obtain ⟨hg0, hg3, hg4, hds⟩ := hg
  refine wpC_seq' (x := n9_c1) (y := n9_c2) (Q' := (Q3 (fun z0b z0n z0c z3b z3n z3c z4 h => n10 z0b z0n z0c z3b z3n z3c z4 Kn Ke0 Kr h) Ke0 Kr)) (by kernel_rfl) ?_ ?_
  · refine wpC_of_wpx (by kernel_rfl) (by kernel_rfl) (g' := (((⟨g.v, []⟩ : Env).upd (some 0) (.slice x0b x0n x0c)).upd (some 3) (.slice x3b x3n x3c)).upd (some 4) (.int .i64 x4)) (by rw [env_ds hds, upd_self hg0, upd_self hg3, upd_self hg4]) ?_
    have e : (n9 x0b x0n x0c x3b x3n x3c x4 Kn Ke0 Kr h) = wpx none Try.prog 82 n9_c1 (Q3 (fun z0b z0n z0c z3b z3n z3c z4 h => n10 z0b z0n z0c z3b z3n z3c z4 Kn Ke0 Kr h) Ke0 Kr) ((((⟨g.v, []⟩ : Env).upd (some 0) (.slice x0b x0n x0c)).upd (some 3) (.slice x3b x3n x3c)).upd (some 4) (.int .i64 x4)) h := by kernel_rfl
    exact e ▸ hS
  · intro e g' h' hq
    cases e with
    | normal =>
      have hq : D4 (fun z0b z0n z0c z3b z3n z3c z4 h => n10 z0b z0n z0c z3b z3n z3c z4 Kn Ke0 Kr h) g' h' := hq
      obtain ⟨y0b, y0n, y0c, y3b, y3n, y3c, y4, hg', hq⟩ := D4_ok hq
      exact n10_ok y0b y0n y0c y3b y3n y3c y4 Kn Ke0 Kr g' hg' h' hq
    | _ => exact hq
def n8_L (Kn : T3) (Ke0 : T3) (Kr : T0) : Nat → (Option Addr) → Nat → Nat → (Option Addr) → Nat → Nat → Int → H → Prop
  | 0, _, _, _, _, _, _, _, _ => False
  | N + 1, x0b, x0n, x0c, x3b, x3n, x3c, x4, h => n9 x0b x0n x0c x3b x3n x3c x4 (fun z0b z0n z0c z3b z3n z3c z4 h => n8_L Kn Ke0 Kr N z0b z0n z0c z3b z3n z3c z4 h) Ke0 Kr h
abbrev n8 (x0b : Option Addr) (x0n : Nat) (x0c : Nat) (x3b : Option Addr) (x3n : Nat) (x3c : Nat) (x4 : Int) (Kn : T3) (Ke0 : T3) (Kr : T0) (h : H) : Prop := ∃ N, n8_L Kn Ke0 Kr N x0b x0n x0c x3b x3n x3c x4 h
theorem n8_ok (x0b : Option Addr) (x0n : Nat) (x0c : Nat) (x3b : Option Addr) (x3n : Nat) (x3c : Nat) (x4 : Int) (Kn : T3) (Ke0 : T3) (Kr : T0) (g : Env) (hg : E4 g x0b x0n x0c x3b x3n x3c x4) (h : H) (hS : n8 x0b x0n x0c x3b x3n x3c x4 Kn Ke0 Kr h) : wpC none Try.prog 82 n7_c1 (Q2 Kn Ke0 Kr) g h := by
  obtain ⟨N0, hS⟩ := hS
  refine wpC_loop' (x := n8_c1) (by kernel_rfl) (fun k g h => ∃ (x0b : Option Addr) (x0n : Nat) (x0c : Nat) (x3b : Option Addr) (x3n : Nat) (x3c : Nat) (x4 : Int), E4 g x0b x0n x0c x3b x3n x3c x4 ∧ n8_L Kn Ke0 Kr k x0b x0n x0c x3b x3n x3c x4 h) (fun g h hr => ?_) (fun N g h hr => ?_) N0 ⟨x0b, x0n, x0c, x3b, x3n, x3c, x4, hg, hS⟩
  · obtain ⟨x0b, x0n, x0c, x3b, x3n, x3c, x4, hg, hS⟩ := hr
    exact hS.elim
  · obtain ⟨x0b, x0n, x0c, x3b, x3n, x3c, x4, hg, hS⟩ := hr
    refine (n9_ok x0b x0n x0c x3b x3n x3c x4 (fun z0b z0n z0c z3b z3n z3c z4 h => n8_L Kn Ke0 Kr N z0b z0n z0c z3b z3n z3c z4 h) Ke0 Kr g hg h hS).mono ?_
    intro e g' h' hq
    cases e with
    | normal => exact D4_ok (K := (fun z0b z0n z0c z3b z3n z3c z4 h => n8_L Kn Ke0 Kr N z0b z0n z0c z3b z3n z3c z4 h)) hq
    | _ => exact hq
abbrev n7 (x0b : Option Addr) (x0n : Nat) (x0c : Nat) (x3b : Option Addr) (x3n : Nat) (x3c : Nat) (x4 : Int) (Kn : T3) (Kr : T0) (h : H) : Prop := n8 x0b x0n x0c x3b x3n x3c x4 Kn Kn Kr h
theorem n7_ok (x0b : Option Addr) (x0n : Nat) (x0c : Nat) (x3b : Option Addr) (x3n : Nat) (x3c : Nat) (x4 : Int) (Kn : T3) (Kr : T0) (g : Env) (hg : E4 g x0b x0n x0c x3b x3n x3c x4) (h : H) (hS : n7 x0b x0n x0c x3b x3n x3c x4 Kn Kr h) : wpC none Try.prog 82 n6_c2 (Q1 Kn Kr) g h := by
  refine wpC_block' (id := 0) (x := n7_c1) (by kernel_rfl) (n8_ok x0b x0n x0c x3b x3n x3c x4 Kn Kn Kr g hg h hS) ?_
  intro e g' h' hq
  cases e <;> exact hq
def Q11 (Kn : T4) (Kr : T0) : XPost
  | .normal, g, h => D4 Kn g h
  | .ret, g, h => D0 Kr g h
  | _, _, _ => False
abbrev n6 (x0b : Option Addr) (x0n : Nat) (x0c : Nat) (x3b : Option Addr) (x3n : Nat) (x3c : Nat) (Kn : T3) (Kr : T0) (h : H) : Prop :=
  n7 x0b x0n x0c x3b x3n x3c (0 : Int) Kn Kr h
theorem n6_ok (x0b : Option Addr) (x0n : Nat) (x0c : Nat) (x3b : Option Addr) (x3n : Nat) (x3c : Nat) (Kn : T3) (Kr : T0) (g : Env) (hg : E2 g x0b x0n x0c x3b x3n x3c) (h : H) (hS : n6 x0b x0n x0c x3b x3n x3c Kn Kr h) : wpC none Try.prog 82 n4_c1 (Q1 Kn Kr) g h := by
  obtain ⟨hg0, hg3, hds⟩ := hg
  refine wpC_seq' (x := n6_c1) (y := n6_c2) (Q' := (Q11 (fun z0b z0n z0c z3b z3n z3c z4 h => n7 z0b z0n z0c z3b z3n z3c z4 Kn Kr h) Kr)) (by kernel_rfl) ?_ ?_
  · refine wpC_of_wpx (by kernel_rfl) (by kernel_rfl) (g' := ((⟨g.v, []⟩ : Env).upd (some 0) (.slice x0b x0n x0c)).upd (some 3) (.slice x3b x3n x3c)) (by rw [env_ds hds, upd_self hg0, upd_self hg3]) ?_
    have e : (n6 x0b x0n x0c x3b x3n x3c Kn Kr h) = wpx none Try.prog 82 n6_c1 (Q11 (fun z0b z0n z0c z3b z3n z3c z4 h => n7 z0b z0n z0c z3b z3n z3c z4 Kn Kr h) Kr) (((⟨g.v, []⟩ : Env).upd (some 0) (.slice x0b x0n x0c)).upd (some 3) (.slice x3b x3n x3c)) h := by kernel_rfl
    exact e ▸ hS
  · intro e g' h' hq
    cases e with
    | normal =>
      have hq : D4 (fun z0b z0n z0c z3b z3n z3c z4 h => n7 z0b z0n z0c z3b z3n z3c z4 Kn Kr h) g' h' := hq
      obtain ⟨y0b, y0n, y0c, y3b, y3n, y3c, y4, hg', hq⟩ := D4_ok hq
      exact n7_ok y0b y0n y0c y3b y3n y3c y4 Kn Kr g' hg' h' hq
    | _ => exact hq
abbrev n4 (x0b : Option Addr) (x0n : Nat) (x0c : Nat) (x3b : Option Addr) (x3n : Nat) (x3c : Nat) (Kn : T0) (Kr : T0) (h : H) : Prop := n6 x0b x0n x0c x3b x3n x3c (fun  h => n5 Kn Kr h) Kr h
theorem n4_ok (x0b : Option Addr) (x0n : Nat) (x0c : Nat) (x3b : Option Addr) (x3n : Nat) (x3c : Nat) (Kn : T0) (Kr : T0) (g : Env) (hg : E2 g x0b x0n x0c x3b x3n x3c) (h : H) (hS : n4 x0b x0n x0c x3b x3n x3c Kn Kr h) : wpC none Try.prog 82 n3_c2 (Q0 Kn Kr) g h := by
  refine wpC_seq' (x := n4_c1) (y := n4_c2) (by kernel_rfl) (n6_ok x0b x0n x0c x3b x3n x3c (fun  h => n5 Kn Kr h) Kr g hg h hS) ?_
  intro e g' h' hq
  cases e with
  | normal =>
    have hq : D3 (fun  h => n5 Kn Kr h) g' h' := hq
    obtain ⟨hg', hq⟩ := D3_ok hq
    exact n5_ok  Kn Kr g' hg' h' hq
  | _ => exact hq
def Q12 (Kn : T2) (Kr : T0) : XPost
  | .normal, g, h => D2 Kn g h
  | .ret, g, h => D0 Kr g h
  | _, _, _ => False
abbrev n3 (x0b : Option Addr) (x0n : Nat) (x0c : Nat) (Kn : T0) (Kr : T0) (h : H) : Prop :=
  n4 x0b x0n x0c none 0 0 Kn Kr h
theorem n3_ok (x0b : Option Addr) (x0n : Nat) (x0c : Nat) (Kn : T0) (Kr : T0) (g : Env) (hg : E1 g x0b x0n x0c) (h : H) (hS : n3 x0b x0n x0c Kn Kr h) : wpC none Try.prog 82 n2_c2 (Q0 Kn Kr) g h := by
  obtain ⟨hg0, hds⟩ := hg
  refine wpC_seq' (x := n3_c1) (y := n3_c2) (Q' := (Q12 (fun z0b z0n z0c z3b z3n z3c h => n4 z0b z0n z0c z3b z3n z3c Kn Kr h) Kr)) (by kernel_rfl) ?_ ?_
  · refine wpC_of_wpx (by kernel_rfl) (by kernel_rfl) (g' := (⟨g.v, []⟩ : Env).upd (some 0) (.slice x0b x0n x0c)) (by rw [env_ds hds, upd_self hg0]) ?_
    have e : (n3 x0b x0n x0c Kn Kr h) = wpx none Try.prog 82 n3_c1 (Q12 (fun z0b z0n z0c z3b z3n z3c h => n4 z0b z0n z0c z3b z3n z3c Kn Kr h) Kr) ((⟨g.v, []⟩ : Env).upd (some 0) (.slice x0b x0n x0c)) h := by kernel_rfl
    exact e ▸ hS
  · intro e g' h' hq
    cases e with
    | normal =>
      have hq : D2 (fun z0b z0n z0c z3b z3n z3c h => n4 z0b z0n z0c z3b z3n z3c Kn Kr h) g' h' := hq
      obtain ⟨y0b, y0n, y0c, y3b, y3n, y3c, hg', hq⟩ := D2_ok hq
      exact n4_ok y0b y0n y0c y3b y3n y3c Kn Kr g' hg' h' hq
    | _ => exact hq
def Q13 (Kn : T1) (Kr : T0) : XPost
  | .normal, g, h => D1 Kn g h
  | .ret, g, h => D0 Kr g h
  | _, _, _ => False
abbrev n2 (x0b : Option Addr) (x0n : Nat) (x0c : Nat) (Kn : T0) (Kr : T0) (h : H) : Prop :=
  HCalls Try.prog 7 ⟨[(.slice x0b x0n x0c)]⟩ h fun v126 h127 => vBool v126 fun b128 => cond b128 (HCalls Try.prog 12 ⟨[]⟩ h127 fun v129 h130 => vBool v129 fun b131 => cond b131 (Kr true h130) (Kr false h130)) (Spl ((x0n : Int) > (60 : Int)) (HCalls Try.prog 12 ⟨[]⟩ h127 fun v132 h133 => vBool v132 fun b134 => cond b134 (Kr true h133) (Kr false h133)) (HCalls Try.prog 12 ⟨[]⟩ h127 fun v135 h136 => vBool v135 fun b137 => cond b137 (n3 x0b x0n x0c Kn Kr h136) (HCalls Try.prog 12 ⟨[]⟩ h136 fun v138 h139 => vBool v138 fun b140 => cond b140 (Kr true h139) (Kr false h139))))
theorem n2_ok (x0b : Option Addr) (x0n : Nat) (x0c : Nat) (Kn : T0) (Kr : T0) (g : Env) (hg : E1 g x0b x0n x0c) (h : H) (hS : n2 x0b x0n x0c Kn Kr h) : wpC none Try.prog 82 n1_c2 (Q0 Kn Kr) g h := by
  obtain ⟨hg0, hds⟩ := hg
  refine wpC_seq' (x := n2_c1) (y := n2_c2) (Q' := (Q13 (fun z0b z0n z0c h => n3 z0b z0n z0c Kn Kr h) Kr)) (by kernel_rfl) ?_ ?_
  · refine wpC_of_wpx (by kernel_rfl) (by kernel_rfl) (g' := (⟨g.v, []⟩ : Env).upd (some 0) (.slice x0b x0n x0c)) (by rw [env_ds hds, upd_self hg0]) ?_
    have e : (n2 x0b x0n x0c Kn Kr h) = wpx none Try.prog 82 n2_c1 (Q13 (fun z0b z0n z0c h => n3 z0b z0n z0c Kn Kr h) Kr) ((⟨g.v, []⟩ : Env).upd (some 0) (.slice x0b x0n x0c)) h := by kernel_rfl
    exact e ▸ hS
  · intro e g' h' hq
    cases e with
    | normal =>
      have hq : D1 (fun z0b z0n z0c h => n3 z0b z0n z0c Kn Kr h) g' h' := hq
      obtain ⟨y0b, y0n, y0c, hg', hq⟩ := D1_ok hq
      exact n3_ok y0b y0n y0c Kn Kr g' hg' h' hq
    | _ => exact hq
abbrev n1 (x0b : Option Addr) (x0n : Nat) (x0c : Nat) (Kn : T0) (Kr : T0) (h : H) : Prop :=
  n2 x0b x0n x0c Kn Kr h
theorem n1_ok (x0b : Option Addr) (x0n : Nat) (x0c : Nat) (Kn : T0) (Kr : T0) (g : Env) (hg : E1 g x0b x0n x0c) (h : H) (hS : n1 x0b x0n x0c Kn Kr h) : wpC none Try.prog 82 code (Q0 Kn Kr) g h := by
  obtain ⟨hg0, hds⟩ := hg
  refine wpC_seq' (x := n1_c1) (y := n1_c2) (Q' := (Q13 (fun z0b z0n z0c h => n2 z0b z0n z0c Kn Kr h) Kr)) (by kernel_rfl) ?_ ?_
  · refine wpC_of_wpx (by kernel_rfl) (by kernel_rfl) (g' := (⟨g.v, []⟩ : Env).upd (some 0) (.slice x0b x0n x0c)) (by rw [env_ds hds, upd_self hg0]) ?_
    have e : (n1 x0b x0n x0c Kn Kr h) = wpx none Try.prog 82 n1_c1 (Q13 (fun z0b z0n z0c h => n2 z0b z0n z0c Kn Kr h) Kr) ((⟨g.v, []⟩ : Env).upd (some 0) (.slice x0b x0n x0c)) h := by kernel_rfl
    exact e ▸ hS
  · intro e g' h' hq
    cases e with
    | normal =>
      have hq : D1 (fun z0b z0n z0c h => n2 z0b z0n z0c Kn Kr h) g' h' := hq
      obtain ⟨y0b, y0n, y0c, hg', hq⟩ := D1_ok hq
      exact n2_ok y0b y0n y0c Kn Kr g' hg' h' hq
    | _ => exact hq
/-- WHAT tympan/tympanlaw12.MarksFew ASKS -/
abbrev asks (x0b : Option Addr) (x0n : Nat) (x0c : Nat) (K : Value → H → Prop) (h : H) : Prop := n1 x0b x0n x0c (fun y2 h => K (.bool y2) h) (fun y2 h => K (.bool y2) h) h
theorem ok (x0b : Option Addr) (x0n : Nat) (x0c : Nat) (K : Value → H → Prop) (h : H) (hS : asks x0b x0n x0c K h) : HCalls Try.prog 5 ⟨[(.slice x0b x0n x0c)]⟩ h K := by
  refine calls_of_wpC (c := code) Try.func5 (by kernel_rfl) (Nat.le_of_ble_eq_true (by kernel_rfl)) ?_
  refine (n1_ok x0b x0n x0c (fun y2 h => K (.bool y2) h) (fun y2 h => K (.bool y2) h) (env0 [(.slice x0b x0n x0c)]) ⟨rfl, rfl⟩ h hS).mono ?_
  intro e g' h' hq
  cases e with
  | normal =>
    have hq : D0 (fun y2 h => K (.bool y2) h) g' h' := hq
    obtain ⟨y2, ⟨hg2, hd⟩, hq⟩ := D0_ok hq
    show leaveX g'.ds h' _
    rw [hd]
    show K (g'.v 2) h'
    rw [hg2]
    exact hq
  | ret =>
    have hq : D0 (fun y2 h => K (.bool y2) h) g' h' := hq
    obtain ⟨y2, ⟨hg2, hd⟩, hq⟩ := D0_ok hq
    show leaveX g'.ds h' _
    rw [hd]
    show K (g'.v 2) h'
    rw [hg2]
    exact hq
  | _ => exact hq
end Sx.l12_MarksFew

/-! ### tympan/tympanlaw12.MarksBack -/
namespace Sx.l12_MarksBack
noncomputable def code : Code := bodyOf Try.f6
abbrev T0 := Bool → H → Prop
def E0 (g : Env) (x4 : Bool) : Prop := g.v 4 = (.bool x4) ∧ g.ds = []
def D0 (K : T0) (g : Env) (h : H) : Prop := nilDs g.ds (vBool (g.v 4) fun b1 => K b1 h)
theorem D0_ok {K : T0} {g : Env} {h : H} (hq : D0 K g h) : ∃ (x4 : Bool), E0 g x4 ∧ K x4 h := by
  obtain ⟨hd, hq⟩ := nilDs_ok hq
  obtain ⟨y3, e2, q4⟩ := vBool_ok hq
  exact ⟨y3, ⟨e2, hd⟩, q4⟩
def Q0 (Kn : T0) (Kr : T0) : XPost
  | .normal, g, h => D0 Kn g h
  | .ret, g, h => D0 Kr g h
  | _, _, _ => False
abbrev T1 := (Option Addr) → Nat → Nat → (Option Addr) → Nat → Nat → H → Prop
def E1 (g : Env) (x0b : Option Addr) (x0n : Nat) (x0c : Nat) (x1b : Option Addr) (x1n : Nat) (x1c : Nat) : Prop := g.v 0 = (.slice x0b x0n x0c) ∧ g.v 1 = (.slice x1b x1n x1c) ∧ g.ds = []
def D1 (K : T1) (g : Env) (h : H) : Prop := nilDs g.ds (vSlice (g.v 0) fun s5b s5n s5c => vSlice (g.v 1) fun s6b s6n s6c => K s5b s5n s5c s6b s6n s6c h)
theorem D1_ok {K : T1} {g : Env} {h : H} (hq : D1 K g h) : ∃ (x0b : Option Addr) (x0n : Nat) (x0c : Nat) (x1b : Option Addr) (x1n : Nat) (x1c : Nat), E1 g x0b x0n x0c x1b x1n x1c ∧ K x0b x0n x0c x1b x1n x1c h := by
  obtain ⟨hd, hq⟩ := nilDs_ok hq
  obtain ⟨y8b, y8n, y8c, e7, q9⟩ := vSlice_ok hq
  obtain ⟨y11b, y11n, y11c, e10, q12⟩ := vSlice_ok q9
  exact ⟨y8b, y8n, y8c, y11b, y11n, y11c, ⟨e7, e10, hd⟩, q12⟩
noncomputable def n1_c1 : Code := cFst code
noncomputable def n1_c2 : Code := cSnd code
noncomputable def n2_c1 : Code := cFst n1_c2
noncomputable def n2_c2 : Code := cSnd n1_c2
noncomputable def n3_c1 : Code := cFst n2_c2
noncomputable def n3_c2 : Code := cSnd n2_c2
abbrev T2 := (Option Addr) → Nat → Nat → (Option Addr) → Nat → Nat → (Option Addr) → Nat → Nat → H → Prop
def E2 (g : Env) (x0b : Option Addr) (x0n : Nat) (x0c : Nat) (x1b : Option Addr) (x1n : Nat) (x1c : Nat) (x5b : Option Addr) (x5n : Nat) (x5c : Nat) : Prop := g.v 0 = (.slice x0b x0n x0c) ∧ g.v 1 = (.slice x1b x1n x1c) ∧ g.v 5 = (.slice x5b x5n x5c) ∧ g.ds = []
def D2 (K : T2) (g : Env) (h : H) : Prop := nilDs g.ds (vSlice (g.v 0) fun s13b s13n s13c => vSlice (g.v 1) fun s14b s14n s14c => vSlice (g.v 5) fun s15b s15n s15c => K s13b s13n s13c s14b s14n s14c s15b s15n s15c h)
theorem D2_ok {K : T2} {g : Env} {h : H} (hq : D2 K g h) : ∃ (x0b : Option Addr) (x0n : Nat) (x0c : Nat) (x1b : Option Addr) (x1n : Nat) (x1c : Nat) (x5b : Option Addr) (x5n : Nat) (x5c : Nat), E2 g x0b x0n x0c x1b x1n x1c x5b x5n x5c ∧ K x0b x0n x0c x1b x1n x1c x5b x5n x5c h := by
  obtain ⟨hd, hq⟩ := nilDs_ok hq
  obtain ⟨y17b, y17n, y17c, e16, q18⟩ := vSlice_ok hq
  obtain ⟨y20b, y20n, y20c, e19, q21⟩ := vSlice_ok q18
  obtain ⟨y23b, y23n, y23c, e22, q24⟩ := vSlice_ok q21
  exact ⟨y17b, y17n, y17c, y20b, y20n, y20c, y23b, y23n, y23c, ⟨e16, e19, e22, hd⟩, q24⟩
noncomputable def n4_c1 : Code := cFst n3_c2
noncomputable def n4_c2 : Code := cSnd n3_c2
abbrev T3 := (Option Addr) → Nat → Nat → (Option Addr) → Nat → Nat → H → Prop
def E3 (g : Env) (x0b : Option Addr) (x0n : Nat) (x0c : Nat) (x5b : Option Addr) (x5n : Nat) (x5c : Nat) : Prop := g.v 0 = (.slice x0b x0n x0c) ∧ g.v 5 = (.slice x5b x5n x5c) ∧ g.ds = []
def D3 (K : T3) (g : Env) (h : H) : Prop := nilDs g.ds (vSlice (g.v 0) fun s25b s25n s25c => vSlice (g.v 5) fun s26b s26n s26c => K s25b s25n s25c s26b s26n s26c h)
theorem D3_ok {K : T3} {g : Env} {h : H} (hq : D3 K g h) : ∃ (x0b : Option Addr) (x0n : Nat) (x0c : Nat) (x5b : Option Addr) (x5n : Nat) (x5c : Nat), E3 g x0b x0n x0c x5b x5n x5c ∧ K x0b x0n x0c x5b x5n x5c h := by
  obtain ⟨hd, hq⟩ := nilDs_ok hq
  obtain ⟨y28b, y28n, y28c, e27, q29⟩ := vSlice_ok hq
  obtain ⟨y31b, y31n, y31c, e30, q32⟩ := vSlice_ok q29
  exact ⟨y28b, y28n, y28c, y31b, y31n, y31c, ⟨e27, e30, hd⟩, q32⟩
abbrev n5 (x0b : Option Addr) (x0n : Nat) (x0c : Nat) (x5b : Option Addr) (x5n : Nat) (x5c : Nat) (Kn : T0) (Kr : T0) (h : H) : Prop :=
  HCalls Try.prog 13 ⟨[(.slice x5b x5n x5c)]⟩ h fun v33 h34 => vSlice v33 fun s35b s35n s35c => HCalls Try.prog 10 ⟨[(.slice s35b s35n s35c), (.slice x0b x0n x0c)]⟩ h34 fun v36 h37 => vBool v36 fun b38 => cond b38 (Kr true h37) (Kr false h37)
theorem n5_ok (x0b : Option Addr) (x0n : Nat) (x0c : Nat) (x5b : Option Addr) (x5n : Nat) (x5c : Nat) (Kn : T0) (Kr : T0) (g : Env) (hg : E3 g x0b x0n x0c x5b x5n x5c) (h : H) (hS : n5 x0b x0n x0c x5b x5n x5c Kn Kr h) : wpC none Try.prog 48 n4_c2 (Q0 Kn Kr) g h := by
  obtain ⟨hg0, hg5, hds⟩ := hg
  refine wpC_of_wpx (by kernel_rfl) (by kernel_rfl) (g' := ((⟨g.v, []⟩ : Env).upd (some 0) (.slice x0b x0n x0c)).upd (some 5) (.slice x5b x5n x5c)) (by rw [env_ds hds, upd_self hg0, upd_self hg5]) ?_
  have e : (n5 x0b x0n x0c x5b x5n x5c Kn Kr h) = wpx none Try.prog 48 n4_c2 (Q0 Kn Kr) (((⟨g.v, []⟩ : Env).upd (some 0) (.slice x0b x0n x0c)).upd (some 5) (.slice x5b x5n x5c)) h := by kernel_rfl
  exact e ▸ hS
def Q1 (Kn : T3) (Kr : T0) : XPost
  | .normal, g, h => D3 Kn g h
  | .ret, g, h => D0 Kr g h
  | _, _, _ => False
noncomputable def n6_c1 : Code := cFst n4_c1
noncomputable def n6_c2 : Code := cSnd n4_c1
abbrev T4 := (Option Addr) → Nat → Nat → (Option Addr) → Nat → Nat → (Option Addr) → Nat → Nat → Int → H → Prop
def E4 (g : Env) (x0b : Option Addr) (x0n : Nat) (x0c : Nat) (x1b : Option Addr) (x1n : Nat) (x1c : Nat) (x5b : Option Addr) (x5n : Nat) (x5c : Nat) (x6 : Int) : Prop := g.v 0 = (.slice x0b x0n x0c) ∧ g.v 1 = (.slice x1b x1n x1c) ∧ g.v 5 = (.slice x5b x5n x5c) ∧ g.v 6 = (.int .i64 x6) ∧ g.ds = []
def D4 (K : T4) (g : Env) (h : H) : Prop := nilDs g.ds (vSlice (g.v 0) fun s39b s39n s39c => vSlice (g.v 1) fun s40b s40n s40c => vSlice (g.v 5) fun s41b s41n s41c => vInt .i64 (g.v 6) fun i42 => K s39b s39n s39c s40b s40n s40c s41b s41n s41c i42 h)
theorem D4_ok {K : T4} {g : Env} {h : H} (hq : D4 K g h) : ∃ (x0b : Option Addr) (x0n : Nat) (x0c : Nat) (x1b : Option Addr) (x1n : Nat) (x1c : Nat) (x5b : Option Addr) (x5n : Nat) (x5c : Nat) (x6 : Int), E4 g x0b x0n x0c x1b x1n x1c x5b x5n x5c x6 ∧ K x0b x0n x0c x1b x1n x1c x5b x5n x5c x6 h := by
  obtain ⟨hd, hq⟩ := nilDs_ok hq
  obtain ⟨y44b, y44n, y44c, e43, q45⟩ := vSlice_ok hq
  obtain ⟨y47b, y47n, y47c, e46, q48⟩ := vSlice_ok q45
  obtain ⟨y50b, y50n, y50c, e49, q51⟩ := vSlice_ok q48
  obtain ⟨y53, e52, q54⟩ := vInt_ok q51
  exact ⟨y44b, y44n, y44c, y47b, y47n, y47c, y50b, y50n, y50c, y53, ⟨e43, e46, e49, e52, hd⟩, q54⟩
noncomputable def n7_c1 : Code := cFst n6_c2
def Q2 (Kn : T3) (Ke0 : T3) (Kr : T0) : XPost
  | .normal, g, h => D3 Kn g h
  | .ret, g, h => D0 Kr g h
  | .exit id, g, h => cond (Nat.beq id 0) (D3 Ke0 g h) (False)
  | _, _, _ => False
noncomputable def n8_c1 : Code := cFst n7_c1
def Q3 (Kn : T4) (Ke0 : T3) (Kr : T0) : XPost
  | .normal, g, h => D4 Kn g h
  | .ret, g, h => D0 Kr g h
  | .exit id, g, h => cond (Nat.beq id 0) (D3 Ke0 g h) (False)
  | _, _, _ => False
def n8_L (Kn : T3) (Ke0 : T3) (Kr : T0) : Nat → (Option Addr) → Nat → Nat → (Option Addr) → Nat → Nat → (Option Addr) → Nat → Nat → Int → H → Prop
  | 0, _, _, _, _, _, _, _, _, _, _, _ => False
  | N + 1, x0b, x0n, x0c, x1b, x1n, x1c, x5b, x5n, x5c, x6, h => Spl (x6 < (x1n : Int)) ((0 ≤ x6 ∧ x6 < (x1n : Int)) ∧ (vSome x1b fun a55 => ∃ i56, cell h ((a55.add (Int.toNat x6 * 3)).add 0) = some (.int .i64 i56) ∧ (Spl (i56 ≥ (0 : Int)) ((0 ≤ x6 ∧ x6 < (x1n : Int)) ∧ (vSome x1b fun a57 => ∃ i58, cell h (((a57.add (Int.toNat x6 * 3))).add 0) = some (.int .i64 i58) ∧ (∃ s59, cell h (((a57.add (Int.toNat x6 * 3))).add 1) = some (S s59) ∧ (∃ s60b s60n s60c, cell h (((a57.add (Int.toNat x6 * 3))).add 2) = some (.slice s60b s60n s60c) ∧ (HCalls Try.prog 9 ⟨[(.slice x5b x5n x5c), (.agg ⟨[(.int .i64 i58), (S s59), (.slice s60b s60n s60c)]⟩)]⟩ h fun v61 h62 => vSlice v61 fun s63b s63n s63c => Rng .i64 (x6 + (1 : Int)) ∧ (n8_L Kn Ke0 Kr N x0b x0n x0c x1b x1n x1c s63b s63n s63c (x6 + (1 : Int)) h62)))))) (Rng .i64 (x6 + (1 : Int)) ∧ (n8_L Kn Ke0 Kr N x0b x0n x0c x1b x1n x1c x5b x5n x5c (x6 + (1 : Int)) h))))) (Ke0 x0b x0n x0c x5b x5n x5c h)
abbrev n8 (x0b : Option Addr) (x0n : Nat) (x0c : Nat) (x1b : Option Addr) (x1n : Nat) (x1c : Nat) (x5b : Option Addr) (x5n : Nat) (x5c : Nat) (x6 : Int) (Kn : T3) (Ke0 : T3) (Kr : T0) (h : H) : Prop := ∃ N, n8_L Kn Ke0 Kr N x0b x0n x0c x1b x1n x1c x5b x5n x5c x6 h
theorem n8_ok (x0b : Option Addr) (x0n : Nat) (x0c : Nat) (x1b : Option Addr) (x1n : Nat) (x1c : Nat) (x5b : Option Addr) (x5n : Nat) (x5c : Nat) (x6 : Int) (Kn : T3) (Ke0 : T3) (Kr : T0) (g : Env) (hg : E4 g x0b x0n x0c x1b x1n x1c x5b x5n x5c x6) (h : H) (hS : n8 x0b x0n x0c x1b x1n x1c x5b x5n x5c x6 Kn Ke0 Kr h) : wpC none Try.prog 48 n7_c1 (Q2 Kn Ke0 Kr) g h := by
  obtain ⟨N0, hS⟩ := hS
  refine wpC_loop' (x := n8_c1) (by kernel_rfl) (fun k g h => ∃ (x0b : Option Addr) (x0n : Nat) (x0c : Nat) (x1b : Option Addr) (x1n : Nat) (x1c : Nat) (x5b : Option Addr) (x5n : Nat) (x5c : Nat) (x6 : Int), E4 g x0b x0n x0c x1b x1n x1c x5b x5n x5c x6 ∧ n8_L Kn Ke0 Kr k x0b x0n x0c x1b x1n x1c x5b x5n x5c x6 h) (fun g h hr => ?_) (fun N g h hr => ?_) N0 ⟨x0b, x0n, x0c, x1b, x1n, x1c, x5b, x5n, x5c, x6, hg, hS⟩
  · obtain ⟨x0b, x0n, x0c, x1b, x1n, x1c, x5b, x5n, x5c, x6, hg, hS⟩ := hr
    exact hS.elim
  · obtain ⟨x0b, x0n, x0c, x1b, x1n, x1c, x5b, x5n, x5c, x6, hg, hS⟩ := hr
    have hw : wpC none Try.prog 48 n8_c1 (Q3 (fun z0b z0n z0c z1b z1n z1c z5b z5n z5c z6 h => n8_L Kn Ke0 Kr N z0b z0n z0c z1b z1n z1c z5b z5n z5c z6 h) Ke0 Kr) g h := by
      obtain ⟨hg0, hg1, hg5, hg6, hds⟩ := hg
      refine wpC_of_wpx (by kernel_rfl) (by kernel_rfl) (g' := ((((⟨g.v, []⟩ : Env).upd (some 0) (.slice x0b x0n x0c)).upd (some 1) (.slice x1b x1n x1c)).upd (some 5) (.slice x5b x5n x5c)).upd (some 6) (.int .i64 x6)) (by rw [env_ds hds, upd_self hg0, upd_self hg1, upd_self hg5, upd_self hg6]) ?_
      have e : (n8_L Kn Ke0 Kr (N + 1) x0b x0n x0c x1b x1n x1c x5b x5n x5c x6 h) = wpx none Try.prog 48 n8_c1 (Q3 (fun z0b z0n z0c z1b z1n z1c z5b z5n z5c z6 h => n8_L Kn Ke0 Kr N z0b z0n z0c z1b z1n z1c z5b z5n z5c z6 h) Ke0 Kr) (((((⟨g.v, []⟩ : Env).upd (some 0) (.slice x0b x0n x0c)).upd (some 1) (.slice x1b x1n x1c)).upd (some 5) (.slice x5b x5n x5c)).upd (some 6) (.int .i64 x6)) h := by kernel_rfl
      exact e ▸ hS
    refine hw.mono ?_
    intro e g' h' hq
    cases e with
    | normal => exact D4_ok (K := (fun z0b z0n z0c z1b z1n z1c z5b z5n z5c z6 h => n8_L Kn Ke0 Kr N z0b z0n z0c z1b z1n z1c z5b z5n z5c z6 h)) hq
    | _ => exact hq
abbrev n7 (x0b : Option Addr) (x0n : Nat) (x0c : Nat) (x1b : Option Addr) (x1n : Nat) (x1c : Nat) (x5b : Option Addr) (x5n : Nat) (x5c : Nat) (x6 : Int) (Kn : T3) (Kr : T0) (h : H) : Prop := n8 x0b x0n x0c x1b x1n x1c x5b x5n x5c x6 Kn Kn Kr h
theorem n7_ok (x0b : Option Addr) (x0n : Nat) (x0c : Nat) (x1b : Option Addr) (x1n : Nat) (x1c : Nat) (x5b : Option Addr) (x5n : Nat) (x5c : Nat) (x6 : Int) (Kn : T3) (Kr : T0) (g : Env) (hg : E4 g x0b x0n x0c x1b x1n x1c x5b x5n x5c x6) (h : H) (hS : n7 x0b x0n x0c x1b x1n x1c x5b x5n x5c x6 Kn Kr h) : wpC none Try.prog 48 n6_c2 (Q1 Kn Kr) g h := by
  refine wpC_block' (id := 0) (x := n7_c1) (by kernel_rfl) (n8_ok x0b x0n x0c x1b x1n x1c x5b x5n x5c x6 Kn Kn Kr g hg h hS) ?_
  intro e g' h' hq
  cases e <;> exact hq
def Q4 (Kn : T4) (Kr : T0) : XPost
  | .normal, g, h => D4 Kn g h
  | .ret, g, h => D0 Kr g h
  | _, _, _ => False
abbrev n6 (x0b : Option Addr) (x0n : Nat) (x0c : Nat) (x1b : Option Addr) (x1n : Nat) (x1c : Nat) (x5b : Option Addr) (x5n : Nat) (x5c : Nat) (Kn : T3) (Kr : T0) (h : H) : Prop :=
  n7 x0b x0n x0c x1b x1n x1c x5b x5n x5c (0 : Int) Kn Kr h
theorem n6_ok (x0b : Option Addr) (x0n : Nat) (x0c : Nat) (x1b : Option Addr) (x1n : Nat) (x1c : Nat) (x5b : Option Addr) (x5n : Nat) (x5c : Nat) (Kn : T3) (Kr : T0) (g : Env) (hg : E2 g x0b x0n x0c x1b x1n x1c x5b x5n x5c) (h : H) (hS : n6 x0b x0n x0c x1b x1n x1c x5b x5n x5c Kn Kr h) : wpC none Try.prog 48 n4_c1 (Q1 Kn Kr) g h := by
  obtain ⟨hg0, hg1, hg5, hds⟩ := hg
  refine wpC_seq' (x := n6_c1) (y := n6_c2) (Q' := (Q4 (fun z0b z0n z0c z1b z1n z1c z5b z5n z5c z6 h => n7 z0b z0n z0c z1b z1n z1c z5b z5n z5c z6 Kn Kr h) Kr)) (by kernel_rfl) ?_ ?_
  · refine wpC_of_wpx (by kernel_rfl) (by kernel_rfl) (g' := (((⟨g.v, []⟩ : Env).upd (some 0) (.slice x0b x0n x0c)).upd (some 1) (.slice x1b x1n x1c)).upd (some 5) (.slice x5b x5n x5c)) (by rw [env_ds hds, upd_self hg0, upd_self hg1, upd_self hg5]) ?_
    have e : (n6 x0b x0n x0c x1b x1n x1c x5b x5n x5c Kn Kr h) = wpx none Try.prog 48 n6_c1 (Q4 (fun z0b z0n z0c z1b z1n z1c z5b z5n z5c z6 h => n7 z0b z0n z0c z1b z1n z1c z5b z5n z5c z6 Kn Kr h) Kr) ((((⟨g.v, []⟩ : Env).upd (some 0) (.slice x0b x0n x0c)).upd (some 1) (.slice x1b x1n x1c)).upd (some 5) (.slice x5b x5n x5c)) h := by kernel_rfl
    exact e ▸ hS
  · intro e g' h' hq
    cases e with
    | normal =>
      have hq : D4 (fun z0b z0n z0c z1b z1n z1c z5b z5n z5c z6 h => n7 z0b z0n z0c z1b z1n z1c z5b z5n z5c z6 Kn Kr h) g' h' := hq
      obtain ⟨y0b, y0n, y0c, y1b, y1n, y1c, y5b, y5n, y5c, y6, hg', hq⟩ := D4_ok hq
      exact n7_ok y0b y0n y0c y1b y1n y1c y5b y5n y5c y6 Kn Kr g' hg' h' hq
    | _ => exact hq
abbrev n4 (x0b : Option Addr) (x0n : Nat) (x0c : Nat) (x1b : Option Addr) (x1n : Nat) (x1c : Nat) (x5b : Option Addr) (x5n : Nat) (x5c : Nat) (Kn : T0) (Kr : T0) (h : H) : Prop := n6 x0b x0n x0c x1b x1n x1c x5b x5n x5c (fun z0b z0n z0c z5b z5n z5c h => n5 z0b z0n z0c z5b z5n z5c Kn Kr h) Kr h
theorem n4_ok (x0b : Option Addr) (x0n : Nat) (x0c : Nat) (x1b : Option Addr) (x1n : Nat) (x1c : Nat) (x5b : Option Addr) (x5n : Nat) (x5c : Nat) (Kn : T0) (Kr : T0) (g : Env) (hg : E2 g x0b x0n x0c x1b x1n x1c x5b x5n x5c) (h : H) (hS : n4 x0b x0n x0c x1b x1n x1c x5b x5n x5c Kn Kr h) : wpC none Try.prog 48 n3_c2 (Q0 Kn Kr) g h := by
  refine wpC_seq' (x := n4_c1) (y := n4_c2) (by kernel_rfl) (n6_ok x0b x0n x0c x1b x1n x1c x5b x5n x5c (fun z0b z0n z0c z5b z5n z5c h => n5 z0b z0n z0c z5b z5n z5c Kn Kr h) Kr g hg h hS) ?_
  intro e g' h' hq
  cases e with
  | normal =>
    have hq : D3 (fun z0b z0n z0c z5b z5n z5c h => n5 z0b z0n z0c z5b z5n z5c Kn Kr h) g' h' := hq
    obtain ⟨y0b, y0n, y0c, y5b, y5n, y5c, hg', hq⟩ := D3_ok hq
    exact n5_ok y0b y0n y0c y5b y5n y5c Kn Kr g' hg' h' hq
  | _ => exact hq
def Q5 (Kn : T2) (Kr : T0) : XPost
  | .normal, g, h => D2 Kn g h
  | .ret, g, h => D0 Kr g h
  | _, _, _ => False
abbrev n3 (x0b : Option Addr) (x0n : Nat) (x0c : Nat) (x1b : Option Addr) (x1n : Nat) (x1c : Nat) (Kn : T0) (Kr : T0) (h : H) : Prop :=
  HCalls Try.prog 9 ⟨[(.slice x0b x0n x0c), (.agg ⟨[(.int .i64 (-1 : Int)), (S ([] : List UInt8)), (.slice none 0 0)]⟩)]⟩ h fun v64 h65 => vSlice v64 fun s66b s66n s66c => n4 x0b x0n x0c x1b x1n x1c s66b s66n s66c Kn Kr h65
theorem n3_ok (x0b : Option Addr) (x0n : Nat) (x0c : Nat) (x1b : Option Addr) (x1n : Nat) (x1c : Nat) (Kn : T0) (Kr : T0) (g : Env) (hg : E1 g x0b x0n x0c x1b x1n x1c) (h : H) (hS : n3 x0b x0n x0c x1b x1n x1c Kn Kr h) : wpC none Try.prog 48 n2_c2 (Q0 Kn Kr) g h := by
  obtain ⟨hg0, hg1, hds⟩ := hg
  refine wpC_seq' (x := n3_c1) (y := n3_c2) (Q' := (Q5 (fun z0b z0n z0c z1b z1n z1c z5b z5n z5c h => n4 z0b z0n z0c z1b z1n z1c z5b z5n z5c Kn Kr h) Kr)) (by kernel_rfl) ?_ ?_
  · refine wpC_of_wpx (by kernel_rfl) (by kernel_rfl) (g' := ((⟨g.v, []⟩ : Env).upd (some 0) (.slice x0b x0n x0c)).upd (some 1) (.slice x1b x1n x1c)) (by rw [env_ds hds, upd_self hg0, upd_self hg1]) ?_
    have e : (n3 x0b x0n x0c x1b x1n x1c Kn Kr h) = wpx none Try.prog 48 n3_c1 (Q5 (fun z0b z0n z0c z1b z1n z1c z5b z5n z5c h => n4 z0b z0n z0c z1b z1n z1c z5b z5n z5c Kn Kr h) Kr) (((⟨g.v, []⟩ : Env).upd (some 0) (.slice x0b x0n x0c)).upd (some 1) (.slice x1b x1n x1c)) h := by kernel_rfl
    exact e ▸ hS
  · intro e g' h' hq
    cases e with
    | normal =>
      have hq : D2 (fun z0b z0n z0c z1b z1n z1c z5b z5n z5c h => n4 z0b z0n z0c z1b z1n z1c z5b z5n z5c Kn Kr h) g' h' := hq
      obtain ⟨y0b, y0n, y0c, y1b, y1n, y1c, y5b, y5n, y5c, hg', hq⟩ := D2_ok hq
      exact n4_ok y0b y0n y0c y1b y1n y1c y5b y5n y5c Kn Kr g' hg' h' hq
    | _ => exact hq
def Q6 (Kn : T1) (Kr : T0) : XPost
  | .normal, g, h => D1 Kn g h
  | .ret, g, h => D0 Kr g h
  | _, _, _ => False
abbrev n2 (x0b : Option Addr) (x0n : Nat) (x0c : Nat) (x1b : Option Addr) (x1n : Nat) (x1c : Nat) (Kn : T0) (Kr : T0) (h : H) : Prop :=
  HCalls Try.prog 7 ⟨[(.slice x0b x0n x0c)]⟩ h fun v67 h68 => vBool v67 fun b69 => cond b69 (HCalls Try.prog 12 ⟨[]⟩ h68 fun v70 h71 => vBool v70 fun b72 => cond b72 (Kr true h71) (Kr false h71)) (HCalls Try.prog 7 ⟨[(.slice x1b x1n x1c)]⟩ h68 fun v73 h74 => vBool v73 fun b75 => cond b75 (HCalls Try.prog 12 ⟨[]⟩ h74 fun v76 h77 => vBool v76 fun b78 => cond b78 (Kr true h77) (Kr false h77)) (Spl ((x1n : Int) > (60 : Int)) (HCalls Try.prog 12 ⟨[]⟩ h74 fun v79 h80 => vBool v79 fun b81 => cond b81 (Kr true h80) (Kr false h80)) (HCalls Try.prog 12 ⟨[]⟩ h74 fun v82 h83 => vBool v82 fun b84 => cond b84 (n3 x0b x0n x0c x1b x1n x1c Kn Kr h83) (HCalls Try.prog 12 ⟨[]⟩ h83 fun v85 h86 => vBool v85 fun b87 => cond b87 (Kr true h86) (Kr false h86)))))
theorem n2_ok (x0b : Option Addr) (x0n : Nat) (x0c : Nat) (x1b : Option Addr) (x1n : Nat) (x1c : Nat) (Kn : T0) (Kr : T0) (g : Env) (hg : E1 g x0b x0n x0c x1b x1n x1c) (h : H) (hS : n2 x0b x0n x0c x1b x1n x1c Kn Kr h) : wpC none Try.prog 48 n1_c2 (Q0 Kn Kr) g h := by
  obtain ⟨hg0, hg1, hds⟩ := hg
  refine wpC_seq' (x := n2_c1) (y := n2_c2) (Q' := (Q6 (fun z0b z0n z0c z1b z1n z1c h => n3 z0b z0n z0c z1b z1n z1c Kn Kr h) Kr)) (by kernel_rfl) ?_ ?_
  · refine wpC_of_wpx (by kernel_rfl) (by kernel_rfl) (g' := ((⟨g.v, []⟩ : Env).upd (some 0) (.slice x0b x0n x0c)).upd (some 1) (.slice x1b x1n x1c)) (by rw [env_ds hds, upd_self hg0, upd_self hg1]) ?_
    have e : (n2 x0b x0n x0c x1b x1n x1c Kn Kr h) = wpx none Try.prog 48 n2_c1 (Q6 (fun z0b z0n z0c z1b z1n z1c h => n3 z0b z0n z0c z1b z1n z1c Kn Kr h) Kr) (((⟨g.v, []⟩ : Env).upd (some 0) (.slice x0b x0n x0c)).upd (some 1) (.slice x1b x1n x1c)) h := by kernel_rfl
    exact e ▸ hS
  · intro e g' h' hq
    cases e with
    | normal =>
      have hq : D1 (fun z0b z0n z0c z1b z1n z1c h => n3 z0b z0n z0c z1b z1n z1c Kn Kr h) g' h' := hq
      obtain ⟨y0b, y0n, y0c, y1b, y1n, y1c, hg', hq⟩ := D1_ok hq
      exact n3_ok y0b y0n y0c y1b y1n y1c Kn Kr g' hg' h' hq
    | _ => exact hq
abbrev n1 (x0b : Option Addr) (x0n : Nat) (x0c : Nat) (x1b : Option Addr) (x1n : Nat) (x1c : Nat) (Kn : T0) (Kr : T0) (h : H) : Prop :=
  n2 x0b x0n x0c x1b x1n x1c Kn Kr h
theorem n1_ok (x0b : Option Addr) (x0n : Nat) (x0c : Nat) (x1b : Option Addr) (x1n : Nat) (x1c : Nat) (Kn : T0) (Kr : T0) (g : Env) (hg : E1 g x0b x0n x0c x1b x1n x1c) (h : H) (hS : n1 x0b x0n x0c x1b x1n x1c Kn Kr h) : wpC none Try.prog 48 code (Q0 Kn Kr) g h := by
  obtain ⟨hg0, hg1, hds⟩ := hg
  refine wpC_seq' (x := n1_c1) (y := n1_c2) (Q' := (Q6 (fun z0b z0n z0c z1b z1n z1c h => n2 z0b z0n z0c z1b z1n z1c Kn Kr h) Kr)) (by kernel_rfl) ?_ ?_
  · refine wpC_of_wpx (by kernel_rfl) (by kernel_rfl) (g' := ((⟨g.v, []⟩ : Env).upd (some 0) (.slice x0b x0n x0c)).upd (some 1) (.slice x1b x1n x1c)) (by rw [env_ds hds, upd_self hg0, upd_self hg1]) ?_
    have e : (n1 x0b x0n x0c x1b x1n x1c Kn Kr h) = wpx none Try.prog 48 n1_c1 (Q6 (fun z0b z0n z0c z1b z1n z1c h => n2 z0b z0n z0c z1b z1n z1c Kn Kr h) Kr) (((⟨g.v, []⟩ : Env).upd (some 0) (.slice x0b x0n x0c)).upd (some 1) (.slice x1b x1n x1c)) h := by kernel_rfl
    exact e ▸ hS
  · intro e g' h' hq
    cases e with
    | normal =>
      have hq : D1 (fun z0b z0n z0c z1b z1n z1c h => n2 z0b z0n z0c z1b z1n z1c Kn Kr h) g' h' := hq
      obtain ⟨y0b, y0n, y0c, y1b, y1n, y1c, hg', hq⟩ := D1_ok hq
      exact n2_ok y0b y0n y0c y1b y1n y1c Kn Kr g' hg' h' hq
    | _ => exact hq
/-- WHAT tympan/tympanlaw12.MarksBack ASKS -/
abbrev asks (x0b : Option Addr) (x0n : Nat) (x0c : Nat) (x1b : Option Addr) (x1n : Nat) (x1c : Nat) (K : Value → H → Prop) (h : H) : Prop := n1 x0b x0n x0c x1b x1n x1c (fun y4 h => K (.bool y4) h) (fun y4 h => K (.bool y4) h) h
theorem ok (x0b : Option Addr) (x0n : Nat) (x0c : Nat) (x1b : Option Addr) (x1n : Nat) (x1c : Nat) (K : Value → H → Prop) (h : H) (hS : asks x0b x0n x0c x1b x1n x1c K h) : HCalls Try.prog 6 ⟨[(.slice x0b x0n x0c), (.slice x1b x1n x1c)]⟩ h K := by
  refine calls_of_wpC (c := code) Try.func6 (by kernel_rfl) (Nat.le_of_ble_eq_true (by kernel_rfl)) ?_
  refine (n1_ok x0b x0n x0c x1b x1n x1c (fun y4 h => K (.bool y4) h) (fun y4 h => K (.bool y4) h) (env0 [(.slice x0b x0n x0c), (.slice x1b x1n x1c)]) ⟨rfl, rfl, rfl⟩ h hS).mono ?_
  intro e g' h' hq
  cases e with
  | normal =>
    have hq : D0 (fun y4 h => K (.bool y4) h) g' h' := hq
    obtain ⟨y4, ⟨hg4, hd⟩, hq⟩ := D0_ok hq
    show leaveX g'.ds h' _
    rw [hd]
    show K (g'.v 4) h'
    rw [hg4]
    exact hq
  | ret =>
    have hq : D0 (fun y4 h => K (.bool y4) h) g' h' := hq
    obtain ⟨y4, ⟨hg4, hd⟩, hq⟩ := D0_ok hq
    show leaveX g'.ds h' _
    rw [hd]
    show K (g'.v 4) h'
    rw [hg4]
    exact hq
  | _ => exact hq
end Sx.l12_MarksBack

/-! ### tympan/tympanlaw12.much -/
namespace Sx.l12_much
noncomputable def code : Code := bodyOf Try.f7
abbrev T0 := Bool → H → Prop
def E0 (g : Env) (x2 : Bool) : Prop := g.v 2 = (.bool x2) ∧ g.ds = []
def D0 (K : T0) (g : Env) (h : H) : Prop := nilDs g.ds (vBool (g.v 2) fun b1 => K b1 h)
theorem D0_ok {K : T0} {g : Env} {h : H} (hq : D0 K g h) : ∃ (x2 : Bool), E0 g x2 ∧ K x2 h := by
  obtain ⟨hd, hq⟩ := nilDs_ok hq
  obtain ⟨y3, e2, q4⟩ := vBool_ok hq
  exact ⟨y3, ⟨e2, hd⟩, q4⟩
def Q0 (Kn : T0) (Kr : T0) : XPost
  | .normal, g, h => D0 Kn g h
  | .ret, g, h => D0 Kr g h
  | _, _, _ => False
abbrev T1 := (Option Addr) → Nat → Nat → H → Prop
def E1 (g : Env) (x0b : Option Addr) (x0n : Nat) (x0c : Nat) : Prop := g.v 0 = (.slice x0b x0n x0c) ∧ g.ds = []
def D1 (K : T1) (g : Env) (h : H) : Prop := nilDs g.ds (vSlice (g.v 0) fun s5b s5n s5c => K s5b s5n s5c h)
theorem D1_ok {K : T1} {g : Env} {h : H} (hq : D1 K g h) : ∃ (x0b : Option Addr) (x0n : Nat) (x0c : Nat), E1 g x0b x0n x0c ∧ K x0b x0n x0c h := by
  obtain ⟨hd, hq⟩ := nilDs_ok hq
  obtain ⟨y7b, y7n, y7c, e6, q8⟩ := vSlice_ok hq
  exact ⟨y7b, y7n, y7c, ⟨e6, hd⟩, q8⟩
noncomputable def n1_c1 : Code := cFst code
noncomputable def n1_c2 : Code := cSnd code
noncomputable def n2_c1 : Code := cFst n1_c2
noncomputable def n2_c2 : Code := cSnd n1_c2
abbrev T2 := (Option Addr) → Nat → Nat → Int → H → Prop
def E2 (g : Env) (x0b : Option Addr) (x0n : Nat) (x0c : Nat) (x3 : Int) : Prop := g.v 0 = (.slice x0b x0n x0c) ∧ g.v 3 = (.int .i64 x3) ∧ g.ds = []
def D2 (K : T2) (g : Env) (h : H) : Prop := nilDs g.ds (vSlice (g.v 0) fun s9b s9n s9c => vInt .i64 (g.v 3) fun i10 => K s9b s9n s9c i10 h)
theorem D2_ok {K : T2} {g : Env} {h : H} (hq : D2 K g h) : ∃ (x0b : Option Addr) (x0n : Nat) (x0c : Nat) (x3 : Int), E2 g x0b x0n x0c x3 ∧ K x0b x0n x0c x3 h := by
  obtain ⟨hd, hq⟩ := nilDs_ok hq
  obtain ⟨y12b, y12n, y12c, e11, q13⟩ := vSlice_ok hq
  obtain ⟨y15, e14, q16⟩ := vInt_ok q13
  exact ⟨y12b, y12n, y12c, y15, ⟨e11, e14, hd⟩, q16⟩
noncomputable def n3_c1 : Code := cFst n2_c2
noncomputable def n3_c2 : Code := cSnd n2_c2
abbrev T3 := Int → H → Prop
def E3 (g : Env) (x3 : Int) : Prop := g.v 3 = (.int .i64 x3) ∧ g.ds = []
def D3 (K : T3) (g : Env) (h : H) : Prop := nilDs g.ds (vInt .i64 (g.v 3) fun i17 => K i17 h)
theorem D3_ok {K : T3} {g : Env} {h : H} (hq : D3 K g h) : ∃ (x3 : Int), E3 g x3 ∧ K x3 h := by
  obtain ⟨hd, hq⟩ := nilDs_ok hq
  obtain ⟨y19, e18, q20⟩ := vInt_ok hq
  exact ⟨y19, ⟨e18, hd⟩, q20⟩
abbrev n4 (x3 : Int) (Kn : T0) (Kr : T0) (h : H) : Prop :=
  Spl (x3 > (1500 : Int)) (Kr true h) (Kr false h)
theorem n4_ok (x3 : Int) (Kn : T0) (Kr : T0) (g : Env) (hg : E3 g x3) (h : H) (hS : n4 x3 Kn Kr h) : wpC none Try.prog 75 n3_c2 (Q0 Kn Kr) g h := by
  obtain ⟨hg3, hds⟩ := hg
  refine wpC_of_wpx (by kernel_rfl) (by kernel_rfl) (g' := (⟨g.v, []⟩ : Env).upd (some 3) (.int .i64 x3)) (by rw [env_ds hds, upd_self hg3]) ?_
  have e : (n4 x3 Kn Kr h) = wpx none Try.prog 75 n3_c2 (Q0 Kn Kr) ((⟨g.v, []⟩ : Env).upd (some 3) (.int .i64 x3)) h := by kernel_rfl
  exact e ▸ hS
def Q1 (Kn : T3) (Kr : T0) : XPost
  | .normal, g, h => D3 Kn g h
  | .ret, g, h => D0 Kr g h
  | _, _, _ => False
noncomputable def n5_c1 : Code := cFst n3_c1
noncomputable def n5_c2 : Code := cSnd n3_c1
abbrev T4 := (Option Addr) → Nat → Nat → Int → Int → H → Prop
def E4 (g : Env) (x0b : Option Addr) (x0n : Nat) (x0c : Nat) (x3 : Int) (x4 : Int) : Prop := g.v 0 = (.slice x0b x0n x0c) ∧ g.v 3 = (.int .i64 x3) ∧ g.v 4 = (.int .i64 x4) ∧ g.ds = []
def D4 (K : T4) (g : Env) (h : H) : Prop := nilDs g.ds (vSlice (g.v 0) fun s21b s21n s21c => vInt .i64 (g.v 3) fun i22 => vInt .i64 (g.v 4) fun i23 => K s21b s21n s21c i22 i23 h)
theorem D4_ok {K : T4} {g : Env} {h : H} (hq : D4 K g h) : ∃ (x0b : Option Addr) (x0n : Nat) (x0c : Nat) (x3 : Int) (x4 : Int), E4 g x0b x0n x0c x3 x4 ∧ K x0b x0n x0c x3 x4 h := by
  obtain ⟨hd, hq⟩ := nilDs_ok hq
  obtain ⟨y25b, y25n, y25c, e24, q26⟩ := vSlice_ok hq
  obtain ⟨y28, e27, q29⟩ := vInt_ok q26
  obtain ⟨y31, e30, q32⟩ := vInt_ok q29
  exact ⟨y25b, y25n, y25c, y28, y31, ⟨e24, e27, e30, hd⟩, q32⟩
noncomputable def n6_c1 : Code := cFst n5_c2
def Q2 (Kn : T3) (Ke0 : T3) (Kr : T0) : XPost
  | .normal, g, h => D3 Kn g h
  | .ret, g, h => D0 Kr g h
  | .exit id, g, h => cond (Nat.beq id 0) (D3 Ke0 g h) (False)
  | _, _, _ => False
noncomputable def n7_c1 : Code := cFst n6_c1
def Q3 (Kn : T4) (Ke0 : T3) (Kr : T0) : XPost
  | .normal, g, h => D4 Kn g h
  | .ret, g, h => D0 Kr g h
  | .exit id, g, h => cond (Nat.beq id 0) (D3 Ke0 g h) (False)
  | _, _, _ => False
noncomputable def n8_c1 : Code := cFst n7_c1
noncomputable def n8_c2 : Code := cSnd n7_c1
noncomputable def n9_c1 : Code := cFst n8_c2
noncomputable def n9_c2 : Code := cSnd n8_c2
abbrev n10 (x0b : Option Addr) (x0n : Nat) (x0c : Nat) (x3 : Int) (x4 : Int) (Kn : T4) (Ke0 : T3) (Kr : T0) (h : H) : Prop :=
  Rng .i64 (x4 + (1 : Int)) ∧ (Kn x0b x0n x0c x3 (x4 + (1 : Int)) h)
theorem n10_ok (x0b : Option Addr) (x0n : Nat) (x0c : Nat) (x3 : Int) (x4 : Int) (Kn : T4) (Ke0 : T3) (Kr : T0) (g : Env) (hg : E4 g x0b x0n x0c x3 x4) (h : H) (hS : n10 x0b x0n x0c x3 x4 Kn Ke0 Kr h) : wpC none Try.prog 75 n9_c2 (Q3 Kn Ke0 Kr) g h := by
  obtain ⟨hg0, hg3, hg4, hds⟩ := hg
  refine wpC_of_wpx (by kernel_rfl) (by kernel_rfl) (g' := (((⟨g.v, []⟩ : Env).upd (some 0) (.slice x0b x0n x0c)).upd (some 3) (.int .i64 x3)).upd (some 4) (.int .i64 x4)) (by rw [env_ds hds, upd_self hg0, upd_self hg3, upd_self hg4]) ?_
  have e : (n10 x0b x0n x0c x3 x4 Kn Ke0 Kr h) = wpx none Try.prog 75 n9_c2 (Q3 Kn Ke0 Kr) ((((⟨g.v, []⟩ : Env).upd (some 0) (.slice x0b x0n x0c)).upd (some 3) (.int .i64 x3)).upd (some 4) (.int .i64 x4)) h := by kernel_rfl
  exact e ▸ hS
noncomputable def n11_c1 : Code := cFst n9_c1
def Q4 (Kn : T4) (Ke1 : T4) (Ke0 : T3) (Kr : T0) : XPost
  | .normal, g, h => D4 Kn g h
  | .ret, g, h => D0 Kr g h
  | .exit id, g, h => cond (Nat.beq id 1) (D4 Ke1 g h) (cond (Nat.beq id 0) (D3 Ke0 g h) (False))
  | _, _, _ => False
noncomputable def n12_c1 : Code := cFst n11_c1
noncomputable def n12_c2 : Code := cSnd n11_c1
noncomputable def n13_c1 : Code := cFst n12_c2
noncomputable def n13_c2 : Code := cSnd n12_c2
abbrev T5 := (Option Addr) → Nat → Nat → Int → Int → Int → H → Prop
def E5 (g : Env) (x0b : Option Addr) (x0n : Nat) (x0c : Nat) (x3 : Int) (x4 : Int) (x5 : Int) : Prop := g.v 0 = (.slice x0b x0n x0c) ∧ g.v 3 = (.int .i64 x3) ∧ g.v 4 = (.int .i64 x4) ∧ g.v 5 = (.int .i64 x5) ∧ g.ds = []
def D5 (K : T5) (g : Env) (h : H) : Prop := nilDs g.ds (vSlice (g.v 0) fun s33b s33n s33c => vInt .i64 (g.v 3) fun i34 => vInt .i64 (g.v 4) fun i35 => vInt .i64 (g.v 5) fun i36 => K s33b s33n s33c i34 i35 i36 h)
theorem D5_ok {K : T5} {g : Env} {h : H} (hq : D5 K g h) : ∃ (x0b : Option Addr) (x0n : Nat) (x0c : Nat) (x3 : Int) (x4 : Int) (x5 : Int), E5 g x0b x0n x0c x3 x4 x5 ∧ K x0b x0n x0c x3 x4 x5 h := by
  obtain ⟨hd, hq⟩ := nilDs_ok hq
  obtain ⟨y38b, y38n, y38c, e37, q39⟩ := vSlice_ok hq
  obtain ⟨y41, e40, q42⟩ := vInt_ok q39
  obtain ⟨y44, e43, q45⟩ := vInt_ok q42
  obtain ⟨y47, e46, q48⟩ := vInt_ok q45
  exact ⟨y38b, y38n, y38c, y41, y44, y47, ⟨e37, e40, e43, e46, hd⟩, q48⟩
noncomputable def n14_c1 : Code := cFst n13_c2
def Q5 (Kn : T4) (Ke2 : T4) (Ke1 : T4) (Ke0 : T3) (Kr : T0) : XPost
  | .normal, g, h => D4 Kn g h
  | .ret, g, h => D0 Kr g h
  | .exit id, g, h => cond (Nat.beq id 2) (D4 Ke2 g h) (cond (Nat.beq id 1) (D4 Ke1 g h) (cond (Nat.beq id 0) (D3 Ke0 g h) (False)))
  | _, _, _ => False
noncomputable def n15_c1 : Code := cFst n14_c1
def Q6 (Kn : T5) (Ke2 : T4) (Ke1 : T4) (Ke0 : T3) (Kr : T0) : XPost
  | .normal, g, h => D5 Kn g h
  | .ret, g, h => D0 Kr g h
  | .exit id, g, h => cond (Nat.beq id 2) (D4 Ke2 g h) (cond (Nat.beq id 1) (D4 Ke1 g h) (cond (Nat.beq id 0) (D3 Ke0 g h) (False)))
  | _, _, _ => False
def n15_L (Kn : T4) (Ke2 : T4) (Ke1 : T4) (Ke0 : T3) (Kr : T0) : Nat → (Option Addr) → Nat → Nat → Int → Int → Int → H → Prop
  | 0, _, _, _, _, _, _, _ => False
  | N + 1, x0b, x0n, x0c, x3, x4, x5, h => (0 ≤ x4 ∧ x4 < (x0n : Int)) ∧ (vSome x0b fun a49 => ∃ s50b s50n s50c, cell h ((a49.add (Int.toNat x4 * 3)).add 2) = some (.slice s50b s50n s50c) ∧ (Spl (x5 < (s50n : Int)) (Spl (x3 ≤ (1500 : Int)) ((0 ≤ x4 ∧ x4 < (x0n : Int)) ∧ (vSome x0b fun a51 => ∃ s52b s52n s52c, cell h ((a51.add (Int.toNat x4 * 3)).add 2) = some (.slice s52b s52n s52c) ∧ ((0 ≤ x5 ∧ x5 < (s52n : Int)) ∧ (vSome s52b fun a53 => ∃ s54, cell h ((a53.add (Int.toNat x5 * 2)).add 0) = some (S s54) ∧ ((16 : Int) ≠ 0 ∧ (Rng .i64 (Int.tdiv (s54.length : Int) (16 : Int)) ∧ ((0 ≤ x4 ∧ x4 < (x0n : Int)) ∧ (vSome x0b fun a55 => ∃ s56b s56n s56c, cell h ((a55.add (Int.toNat x4 * 3)).add 2) = some (.slice s56b s56n s56c) ∧ ((0 ≤ x5 ∧ x5 < (s56n : Int)) ∧ (vSome s56b fun a57 => ∃ s58, cell h ((a57.add (Int.toNat x5 * 2)).add 1) = some (S s58) ∧ ((16 : Int) ≠ 0 ∧ (Rng .i64 (Int.tdiv (s58.length : Int) (16 : Int)) ∧ (Rng .i64 ((Int.tdiv (s54.length : Int) (16 : Int)) + (Int.tdiv (s58.length : Int) (16 : Int))) ∧ (Rng .i64 (x3 + ((Int.tdiv (s54.length : Int) (16 : Int)) + (Int.tdiv (s58.length : Int) (16 : Int)))) ∧ (Rng .i64 (x5 + (1 : Int)) ∧ (n15_L Kn Ke2 Ke1 Ke0 Kr N x0b x0n x0c (x3 + ((Int.tdiv (s54.length : Int) (16 : Int)) + (Int.tdiv (s58.length : Int) (16 : Int)))) x4 (x5 + (1 : Int)) h)))))))))))))))) (Ke2 x0b x0n x0c x3 x4 h)) (Ke2 x0b x0n x0c x3 x4 h)))
abbrev n15 (x0b : Option Addr) (x0n : Nat) (x0c : Nat) (x3 : Int) (x4 : Int) (x5 : Int) (Kn : T4) (Ke2 : T4) (Ke1 : T4) (Ke0 : T3) (Kr : T0) (h : H) : Prop := ∃ N, n15_L Kn Ke2 Ke1 Ke0 Kr N x0b x0n x0c x3 x4 x5 h
theorem n15_ok (x0b : Option Addr) (x0n : Nat) (x0c : Nat) (x3 : Int) (x4 : Int) (x5 : Int) (Kn : T4) (Ke2 : T4) (Ke1 : T4) (Ke0 : T3) (Kr : T0) (g : Env) (hg : E5 g x0b x0n x0c x3 x4 x5) (h : H) (hS : n15 x0b x0n x0c x3 x4 x5 Kn Ke2 Ke1 Ke0 Kr h) : wpC none Try.prog 75 n14_c1 (Q5 Kn Ke2 Ke1 Ke0 Kr) g h := by
  obtain ⟨N0, hS⟩ := hS
  refine wpC_loop' (x := n15_c1) (by kernel_rfl) (fun k g h => ∃ (x0b : Option Addr) (x0n : Nat) (x0c : Nat) (x3 : Int) (x4 : Int) (x5 : Int), E5 g x0b x0n x0c x3 x4 x5 ∧ n15_L Kn Ke2 Ke1 Ke0 Kr k x0b x0n x0c x3 x4 x5 h) (fun g h hr => ?_) (fun N g h hr => ?_) N0 ⟨x0b, x0n, x0c, x3, x4, x5, hg, hS⟩
  · obtain ⟨x0b, x0n, x0c, x3, x4, x5, hg, hS⟩ := hr
    exact hS.elim
  · obtain ⟨x0b, x0n, x0c, x3, x4, x5, hg, hS⟩ := hr
    have hw : wpC none Try.prog 75 n15_c1 (Q6 (fun z0b z0n z0c z3 z4 z5 h => n15_L Kn Ke2 Ke1 Ke0 Kr N z0b z0n z0c z3 z4 z5 h) Ke2 Ke1 Ke0 Kr) g h := by
      obtain ⟨hg0, hg3, hg4, hg5, hds⟩ := hg
      refine wpC_of_wpx (by kernel_rfl) (by kernel_rfl) (g' := ((((⟨g.v, []⟩ : Env).upd (some 0) (.slice x0b x0n x0c)).upd (some 3) (.int .i64 x3)).upd (some 4) (.int .i64 x4)).upd (some 5) (.int .i64 x5)) (by rw [env_ds hds, upd_self hg0, upd_self hg3, upd_self hg4, upd_self hg5]) ?_
      have e : (n15_L Kn Ke2 Ke1 Ke0 Kr (N + 1) x0b x0n x0c x3 x4 x5 h) = wpx none Try.prog 75 n15_c1 (Q6 (fun z0b z0n z0c z3 z4 z5 h => n15_L Kn Ke2 Ke1 Ke0 Kr N z0b z0n z0c z3 z4 z5 h) Ke2 Ke1 Ke0 Kr) (((((⟨g.v, []⟩ : Env).upd (some 0) (.slice x0b x0n x0c)).upd (some 3) (.int .i64 x3)).upd (some 4) (.int .i64 x4)).upd (some 5) (.int .i64 x5)) h := by kernel_rfl
      exact e ▸ hS
    refine hw.mono ?_
    intro e g' h' hq
    cases e with
    | normal => exact D5_ok (K := (fun z0b z0n z0c z3 z4 z5 h => n15_L Kn Ke2 Ke1 Ke0 Kr N z0b z0n z0c z3 z4 z5 h)) hq
    | _ => exact hq
abbrev n14 (x0b : Option Addr) (x0n : Nat) (x0c : Nat) (x3 : Int) (x4 : Int) (x5 : Int) (Kn : T4) (Ke1 : T4) (Ke0 : T3) (Kr : T0) (h : H) : Prop := n15 x0b x0n x0c x3 x4 x5 Kn Kn Ke1 Ke0 Kr h
theorem n14_ok (x0b : Option Addr) (x0n : Nat) (x0c : Nat) (x3 : Int) (x4 : Int) (x5 : Int) (Kn : T4) (Ke1 : T4) (Ke0 : T3) (Kr : T0) (g : Env) (hg : E5 g x0b x0n x0c x3 x4 x5) (h : H) (hS : n14 x0b x0n x0c x3 x4 x5 Kn Ke1 Ke0 Kr h) : wpC none Try.prog 75 n13_c2 (Q4 Kn Ke1 Ke0 Kr) g h := by
  refine wpC_block' (id := 2) (x := n14_c1) (by kernel_rfl) (n15_ok x0b x0n x0c x3 x4 x5 Kn Kn Ke1 Ke0 Kr g hg h hS) ?_
  intro e g' h' hq
  cases e <;> exact hq
def Q7 (Kn : T5) (Ke1 : T4) (Ke0 : T3) (Kr : T0) : XPost
  | .normal, g, h => D5 Kn g h
  | .ret, g, h => D0 Kr g h
  | .exit id, g, h => cond (Nat.beq id 1) (D4 Ke1 g h) (cond (Nat.beq id 0) (D3 Ke0 g h) (False))
  | _, _, _ => False
abbrev n13 (x0b : Option Addr) (x0n : Nat) (x0c : Nat) (x3 : Int) (x4 : Int) (Kn : T4) (Ke1 : T4) (Ke0 : T3) (Kr : T0) (h : H) : Prop :=
  n14 x0b x0n x0c x3 x4 (0 : Int) Kn Ke1 Ke0 Kr h
theorem n13_ok (x0b : Option Addr) (x0n : Nat) (x0c : Nat) (x3 : Int) (x4 : Int) (Kn : T4) (Ke1 : T4) (Ke0 : T3) (Kr : T0) (g : Env) (hg : E4 g x0b x0n x0c x3 x4) (h : H) (hS : n13 x0b x0n x0c x3 x4 Kn Ke1 Ke0 Kr h) : wpC none Try.prog 75 n12_c2 (Q4 Kn Ke1 Ke0 Kr) g h := by
  obtain ⟨hg0, hg3, hg4, hds⟩ := hg
  refine wpC_seq' (x := n13_c1) (y := n13_c2) (Q' := (Q7 (fun z0b z0n z0c z3 z4 z5 h => n14 z0b z0n z0c z3 z4 z5 Kn Ke1 Ke0 Kr h) Ke1 Ke0 Kr)) (by kernel_rfl) ?_ ?_
  · refine wpC_of_wpx (by kernel_rfl) (by kernel_rfl) (g' := (((⟨g.v, []⟩ : Env).upd (some 0) (.slice x0b x0n x0c)).upd (some 3) (.int .i64 x3)).upd (some 4) (.int .i64 x4)) (by rw [env_ds hds, upd_self hg0, upd_self hg3, upd_self hg4]) ?_
    have e : (n13 x0b x0n x0c x3 x4 Kn Ke1 Ke0 Kr h) = wpx none Try.prog 75 n13_c1 (Q7 (fun z0b z0n z0c z3 z4 z5 h => n14 z0b z0n z0c z3 z4 z5 Kn Ke1 Ke0 Kr h) Ke1 Ke0 Kr) ((((⟨g.v, []⟩ : Env).upd (some 0) (.slice x0b x0n x0c)).upd (some 3) (.int .i64 x3)).upd (some 4) (.int .i64 x4)) h := by kernel_rfl
    exact e ▸ hS
  · intro e g' h' hq
    cases e with
    | normal =>
      have hq : D5 (fun z0b z0n z0c z3 z4 z5 h => n14 z0b z0n z0c z3 z4 z5 Kn Ke1 Ke0 Kr h) g' h' := hq
      obtain ⟨y0b, y0n, y0c, y3, y4, y5, hg', hq⟩ := D5_ok hq
      exact n14_ok y0b y0n y0c y3 y4 y5 Kn Ke1 Ke0 Kr g' hg' h' hq
    | _ => exact hq
abbrev n12 (x0b : Option Addr) (x0n : Nat) (x0c : Nat) (x3 : Int) (x4 : Int) (Kn : T4) (Ke1 : T4) (Ke0 : T3) (Kr : T0) (h : H) : Prop :=
  (0 ≤ x4 ∧ x4 < (x0n : Int)) ∧ (vSome x0b fun a59 => ∃ s60, cell h ((a59.add (Int.toNat x4 * 3)).add 1) = some (S s60) ∧ ((16 : Int) ≠ 0 ∧ (Rng .i64 (Int.tdiv (s60.length : Int) (16 : Int)) ∧ ((0 ≤ x4 ∧ x4 < (x0n : Int)) ∧ (vSome x0b fun a61 => ∃ s62b s62n s62c, cell h ((a61.add (Int.toNat x4 * 3)).add 2) = some (.slice s62b s62n s62c) ∧ (Rng .i64 ((Int.tdiv (s60.length : Int) (16 : Int)) + (s62n : Int)) ∧ (Rng .i64 (x3 + ((Int.tdiv (s60.length : Int) (16 : Int)) + (s62n : Int))) ∧ (n13 x0b x0n x0c (x3 + ((Int.tdiv (s60.length : Int) (16 : Int)) + (s62n : Int))) x4 Kn Ke1 Ke0 Kr h))))))))
theorem n12_ok (x0b : Option Addr) (x0n : Nat) (x0c : Nat) (x3 : Int) (x4 : Int) (Kn : T4) (Ke1 : T4) (Ke0 : T3) (Kr : T0) (g : Env) (hg : E4 g x0b x0n x0c x3 x4) (h : H) (hS : n12 x0b x0n x0c x3 x4 Kn Ke1 Ke0 Kr h) : wpC none Try.prog 75 n11_c1 (Q4 Kn Ke1 Ke0 Kr) g h := by
  obtain ⟨hg0, hg3, hg4, hds⟩ := hg
  refine wpC_seq' (x := n12_c1) (y := n12_c2) (Q' := (Q4 (fun z0b z0n z0c z3 z4 h => n13 z0b z0n z0c z3 z4 Kn Ke1 Ke0 Kr h) Ke1 Ke0 Kr)) (by kernel_rfl) ?_ ?_
  · refine wpC_of_wpx (by kernel_rfl) (by kernel_rfl) (g' := (((⟨g.v, []⟩ : Env).upd (some 0) (.slice x0b x0n x0c)).upd (some 3) (.int .i64 x3)).upd (some 4) (.int .i64 x4)) (by rw [env_ds hds, upd_self hg0, upd_self hg3, upd_self hg4]) ?_
    have e : (n12 x0b x0n x0c x3 x4 Kn Ke1 Ke0 Kr h) = wpx none Try.prog 75 n12_c1 (Q4 (fun z0b z0n z0c z3 z4 h => n13 z0b z0n z0c z3 z4 Kn Ke1 Ke0 Kr h) Ke1 Ke0 Kr) ((((⟨g.v, []⟩ : Env).upd (some 0) (.slice x0b x0n x0c)).upd (some 3) (.int .i64 x3)).upd (some 4) (.int .i64 x4)) h := by kernel_rfl
    exact e ▸ hS
  · intro e g' h' hq
    cases e with
    | normal =>
      have hq : D4 (fun z0b z0n z0c z3 z4 h => n13 z0b z0n z0c z3 z4 Kn Ke1 Ke0 Kr h) g' h' := hq
      obtain ⟨y0b, y0n, y0c, y3, y4, hg', hq⟩ := D4_ok hq
      exact n13_ok y0b y0n y0c y3 y4 Kn Ke1 Ke0 Kr g' hg' h' hq
    | _ => exact hq
abbrev n11 (x0b : Option Addr) (x0n : Nat) (x0c : Nat) (x3 : Int) (x4 : Int) (Kn : T4) (Ke0 : T3) (Kr : T0) (h : H) : Prop := n12 x0b x0n x0c x3 x4 Kn Kn Ke0 Kr h
theorem n11_ok (x0b : Option Addr) (x0n : Nat) (x0c : Nat) (x3 : Int) (x4 : Int) (Kn : T4) (Ke0 : T3) (Kr : T0) (g : Env) (hg : E4 g x0b x0n x0c x3 x4) (h : H) (hS : n11 x0b x0n x0c x3 x4 Kn Ke0 Kr h) : wpC none Try.prog 75 n9_c1 (Q3 Kn Ke0 Kr) g h := by
  refine wpC_block' (id := 1) (x := n11_c1) (by kernel_rfl) (n12_ok x0b x0n x0c x3 x4 Kn Kn Ke0 Kr g hg h hS) ?_
  intro e g' h' hq
  cases e <;> exact hq
abbrev n9 (x0b : Option Addr) (x0n : Nat) (x0c : Nat) (x3 : Int) (x4 : Int) (Kn : T4) (Ke0 : T3) (Kr : T0) (h : H) : Prop := n11 x0b x0n x0c x3 x4 (fun z0b z0n z0c z3 z4 h => n10 z0b z0n z0c z3 z4 Kn Ke0 Kr h) Ke0 Kr h
theorem n9_ok (x0b : Option Addr) (x0n : Nat) (x0c : Nat) (x3 : Int) (x4 : Int) (Kn : T4) (Ke0 : T3) (Kr : T0) (g : Env) (hg : E4 g x0b x0n x0c x3 x4) (h : H) (hS : n9 x0b x0n x0c x3 x4 Kn Ke0 Kr h) : wpC none Try.prog 75 n8_c2 (Q3 Kn Ke0 Kr) g h := by
  refine wpC_seq' (x := n9_c1) (y := n9_c2) (by kernel_rfl) (n11_ok x0b x0n x0c x3 x4 (fun z0b z0n z0c z3 z4 h => n10 z0b z0n z0c z3 z4 Kn Ke0 Kr h) Ke0 Kr g hg h hS) ?_
  intro e g' h' hq
  cases e with
  | normal =>
    have hq : D4 (fun z0b z0n z0c z3 z4 h => n10 z0b z0n z0c z3 z4 Kn Ke0 Kr h) g' h' := hq
    obtain ⟨y0b, y0n, y0c, y3, y4, hg', hq⟩ := D4_ok hq
    exact n10_ok y0b y0n y0c y3 y4 Kn Ke0 Kr g' hg' h' hq
  | _ => exact hq
abbrev n8 (x0b : Option Addr) (x0n : Nat) (x0c : Nat) (x3 : Int) (x4 : Int) (Kn : T4) (Ke0 : T3) (Kr : T0) (h : H) : Prop :=
  Spl (x4 < (x0n : Int)) (Spl (x3 ≤ (1500 : Int)) (n9 x0b x0n x0c x3 x4 Kn Ke0 Kr h) (Ke0 x3 h)) (Ke0 x3 h)
theorem n8_ok (x0b : Option Addr) (x0n : Nat) (x0c : Nat) (x3 : Int) (x4 : Int) (Kn : T4) (Ke0 : T3) (Kr : T0) (g : Env) (hg : E4 g x0b x0n x0c x3 x4) (h : H) (hS : n8 x0b x0n x0c x3 x4 Kn Ke0 Kr h) : wpC none Try.prog 75 n7_c1 (Q3 Kn Ke0 Kr) g h := by
  obtain ⟨hg0, hg3, hg4, hds⟩ := hg
  refine wpC_seq' (x := n8_c1) (y := n8_c2) (Q' := (Q3 (fun z0b z0n z0c z3 z4 h => n9 z0b z0n z0c z3 z4 Kn Ke0 Kr h) Ke0 Kr)) (by kernel_rfl) ?_ ?_
  · refine wpC_of_wpx (by kernel_rfl) (by kernel_rfl) (g' := (((⟨g.v, []⟩ : Env).upd (some 0) (.slice x0b x0n x0c)).upd (some 3) (.int .i64 x3)).upd (some 4) (.int .i64 x4)) (by rw [env_ds hds, upd_self hg0, upd_self hg3, upd_self hg4]) ?_
    have e : (n8 x0b x0n x0c x3 x4 Kn Ke0 Kr h) = wpx none Try.prog 75 n8_c1 (Q3 (fun z0b z0n z0c z3 z4 h => n9 z0b z0n z0c z3 z4 Kn Ke0 Kr h) Ke0 Kr) ((((⟨g.v, []⟩ : Env).upd (some 0) (.slice x0b x0n x0c)).upd (some 3) (.int .i64 x3)).upd (some 4) (.int .i64 x4)) h := by kernel_rfl
    exact e ▸ hS
  · intro e g' h' hq
    cases e with
    | normal =>
      have hq : D4 (fun z0b z0n z0c z3 z4 h => n9 z0b z0n z0c z3 z4 Kn Ke0 Kr h) g' h' := hq
      obtain ⟨y0b, y0n, y0c, y3, y4, hg', hq⟩ := D4_ok hq
      exact n9_ok y0b y0n y0c y3 y4 Kn Ke0 Kr g' hg' h' hq
    | _ => exact hq
def n7_L (Kn : T3) (Ke0 : T3) (Kr : T0) : Nat → (Option Addr) → Nat → Nat → Int → Int → H → Prop
  | 0, _, _, _, _, _, _ => False
  | N + 1, x0b, x0n, x0c, x3, x4, h => n8 x0b x0n x0c x3 x4 (fun z0b z0n z0c z3 z4 h => n7_L Kn Ke0 Kr N z0b z0n z0c z3 z4 h) Ke0 Kr h
abbrev n7 (x0b : Option Addr) (x0n : Nat) (x0c : Nat) (x3 : Int) (x4 : Int) (Kn : T3) (Ke0 : T3) (Kr : T0) (h : H) : Prop := ∃ N, n7_L Kn Ke0 Kr N x0b x0n x0c x3 x4 h
theorem n7_ok (x0b : Option Addr) (x0n : Nat) (x0c : Nat) (x3 : Int) (x4 : Int) (Kn : T3) (Ke0 : T3) (Kr : T0) (g : Env) (hg : E4 g x0b x0n x0c x3 x4) (h : H) (hS : n7 x0b x0n x0c x3 x4 Kn Ke0 Kr h) : wpC none Try.prog 75 n6_c1 (Q2 Kn Ke0 Kr) g h := by
  obtain ⟨N0, hS⟩ := hS
  refine wpC_loop' (x := n7_c1) (by kernel_rfl) (fun k g h => ∃ (x0b : Option Addr) (x0n : Nat) (x0c : Nat) (x3 : Int) (x4 : Int), E4 g x0b x0n x0c x3 x4 ∧ n7_L Kn Ke0 Kr k x0b x0n x0c x3 x4 h) (fun g h hr => ?_) (fun N g h hr => ?_) N0 ⟨x0b, x0n, x0c, x3, x4, hg, hS⟩
  · obtain ⟨x0b, x0n, x0c, x3, x4, hg, hS⟩ := hr
    exact hS.elim
  · obtain ⟨x0b, x0n, x0c, x3, x4, hg, hS⟩ := hr
    refine (n8_ok x0b x0n x0c x3 x4 (fun z0b z0n z0c z3 z4 h => n7_L Kn Ke0 Kr N z0b z0n z0c z3 z4 h) Ke0 Kr g hg h hS).mono ?_
    intro e g' h' hq
    cases e with
    | normal => exact D4_ok (K := (fun z0b z0n z0c z3 z4 h => n7_L Kn Ke0 Kr N z0b z0n z0c z3 z4 h)) hq
    | _ => exact hq
abbrev n6 (x0b : Option Addr) (x0n : Nat) (x0c : Nat) (x3 : Int) (x4 : Int) (Kn : T3) (Kr : T0) (h : H) : Prop := n7 x0b x0n x0c x3 x4 Kn Kn Kr h
theorem n6_ok (x0b : Option Addr) (x0n : Nat) (x0c : Nat) (x3 : Int) (x4 : Int) (Kn : T3) (Kr : T0) (g : Env) (hg : E4 g x0b x0n x0c x3 x4) (h : H) (hS : n6 x0b x0n x0c x3 x4 Kn Kr h) : wpC none Try.prog 75 n5_c2 (Q1 Kn Kr) g h := by
  refine wpC_block' (id := 0) (x := n6_c1) (by kernel_rfl) (n7_ok x0b x0n x0c x3 x4 Kn Kn Kr g hg h hS) ?_
  intro e g' h' hq
  cases e <;> exact hq
def Q8 (Kn : T4) (Kr : T0) : XPost
  | .normal, g, h => D4 Kn g h
  | .ret, g, h => D0 Kr g h
  | _, _, _ => False
abbrev n5 (x0b : Option Addr) (x0n : Nat) (x0c : Nat) (x3 : Int) (Kn : T3) (Kr : T0) (h : H) : Prop :=
  n6 x0b x0n x0c x3 (0 : Int) Kn Kr h
theorem n5_ok (x0b : Option Addr) (x0n : Nat) (x0c : Nat) (x3 : Int) (Kn : T3) (Kr : T0) (g : Env) (hg : E2 g x0b x0n x0c x3) (h : H) (hS : n5 x0b x0n x0c x3 Kn Kr h) : wpC none Try.prog 75 n3_c1 (Q1 Kn Kr) g h := by
  obtain ⟨hg0, hg3, hds⟩ := hg
  refine wpC_seq' (x := n5_c1) (y := n5_c2) (Q' := (Q8 (fun z0b z0n z0c z3 z4 h => n6 z0b z0n z0c z3 z4 Kn Kr h) Kr)) (by kernel_rfl) ?_ ?_
  · refine wpC_of_wpx (by kernel_rfl) (by kernel_rfl) (g' := ((⟨g.v, []⟩ : Env).upd (some 0) (.slice x0b x0n x0c)).upd (some 3) (.int .i64 x3)) (by rw [env_ds hds, upd_self hg0, upd_self hg3]) ?_
    have e : (n5 x0b x0n x0c x3 Kn Kr h) = wpx none Try.prog 75 n5_c1 (Q8 (fun z0b z0n z0c z3 z4 h => n6 z0b z0n z0c z3 z4 Kn Kr h) Kr) (((⟨g.v, []⟩ : Env).upd (some 0) (.slice x0b x0n x0c)).upd (some 3) (.int .i64 x3)) h := by kernel_rfl
    exact e ▸ hS
  · intro e g' h' hq
    cases e with
    | normal =>
      have hq : D4 (fun z0b z0n z0c z3 z4 h => n6 z0b z0n z0c z3 z4 Kn Kr h) g' h' := hq
      obtain ⟨y0b, y0n, y0c, y3, y4, hg', hq⟩ := D4_ok hq
      exact n6_ok y0b y0n y0c y3 y4 Kn Kr g' hg' h' hq
    | _ => exact hq
abbrev n3 (x0b : Option Addr) (x0n : Nat) (x0c : Nat) (x3 : Int) (Kn : T0) (Kr : T0) (h : H) : Prop := n5 x0b x0n x0c x3 (fun z3 h => n4 z3 Kn Kr h) Kr h
theorem n3_ok (x0b : Option Addr) (x0n : Nat) (x0c : Nat) (x3 : Int) (Kn : T0) (Kr : T0) (g : Env) (hg : E2 g x0b x0n x0c x3) (h : H) (hS : n3 x0b x0n x0c x3 Kn Kr h) : wpC none Try.prog 75 n2_c2 (Q0 Kn Kr) g h := by
  refine wpC_seq' (x := n3_c1) (y := n3_c2) (by kernel_rfl) (n5_ok x0b x0n x0c x3 (fun z3 h => n4 z3 Kn Kr h) Kr g hg h hS) ?_
  intro e g' h' hq
  cases e with
  | normal =>
    have hq : D3 (fun z3 h => n4 z3 Kn Kr h) g' h' := hq
    obtain ⟨y3, hg', hq⟩ := D3_ok hq
    exact n4_ok y3 Kn Kr g' hg' h' hq
  | _ => exact hq
def Q9 (Kn : T2) (Kr : T0) : XPost
  | .normal, g, h => D2 Kn g h
  | .ret, g, h => D0 Kr g h
  | _, _, _ => False
abbrev n2 (x0b : Option Addr) (x0n : Nat) (x0c : Nat) (Kn : T0) (Kr : T0) (h : H) : Prop :=
  n3 x0b x0n x0c (x0n : Int) Kn Kr h
theorem n2_ok (x0b : Option Addr) (x0n : Nat) (x0c : Nat) (Kn : T0) (Kr : T0) (g : Env) (hg : E1 g x0b x0n x0c) (h : H) (hS : n2 x0b x0n x0c Kn Kr h) : wpC none Try.prog 75 n1_c2 (Q0 Kn Kr) g h := by
  obtain ⟨hg0, hds⟩ := hg
  refine wpC_seq' (x := n2_c1) (y := n2_c2) (Q' := (Q9 (fun z0b z0n z0c z3 h => n3 z0b z0n z0c z3 Kn Kr h) Kr)) (by kernel_rfl) ?_ ?_
  · refine wpC_of_wpx (by kernel_rfl) (by kernel_rfl) (g' := (⟨g.v, []⟩ : Env).upd (some 0) (.slice x0b x0n x0c)) (by rw [env_ds hds, upd_self hg0]) ?_
    have e : (n2 x0b x0n x0c Kn Kr h) = wpx none Try.prog 75 n2_c1 (Q9 (fun z0b z0n z0c z3 h => n3 z0b z0n z0c z3 Kn Kr h) Kr) ((⟨g.v, []⟩ : Env).upd (some 0) (.slice x0b x0n x0c)) h := by kernel_rfl
    exact e ▸ hS
  · intro e g' h' hq
    cases e with
    | normal =>
      have hq : D2 (fun z0b z0n z0c z3 h => n3 z0b z0n z0c z3 Kn Kr h) g' h' := hq
      obtain ⟨y0b, y0n, y0c, y3, hg', hq⟩ := D2_ok hq
      exact n3_ok y0b y0n y0c y3 Kn Kr g' hg' h' hq
    | _ => exact hq
def Q10 (Kn : T1) (Kr : T0) : XPost
  | .normal, g, h => D1 Kn g h
  | .ret, g, h => D0 Kr g h
  | _, _, _ => False
abbrev n1 (x0b : Option Addr) (x0n : Nat) (x0c : Nat) (Kn : T0) (Kr : T0) (h : H) : Prop :=
  n2 x0b x0n x0c Kn Kr h
theorem n1_ok (x0b : Option Addr) (x0n : Nat) (x0c : Nat) (Kn : T0) (Kr : T0) (g : Env) (hg : E1 g x0b x0n x0c) (h : H) (hS : n1 x0b x0n x0c Kn Kr h) : wpC none Try.prog 75 code (Q0 Kn Kr) g h := by
  obtain ⟨hg0, hds⟩ := hg
  refine wpC_seq' (x := n1_c1) (y := n1_c2) (Q' := (Q10 (fun z0b z0n z0c h => n2 z0b z0n z0c Kn Kr h) Kr)) (by kernel_rfl) ?_ ?_
  · refine wpC_of_wpx (by kernel_rfl) (by kernel_rfl) (g' := (⟨g.v, []⟩ : Env).upd (some 0) (.slice x0b x0n x0c)) (by rw [env_ds hds, upd_self hg0]) ?_
    have e : (n1 x0b x0n x0c Kn Kr h) = wpx none Try.prog 75 n1_c1 (Q10 (fun z0b z0n z0c h => n2 z0b z0n z0c Kn Kr h) Kr) ((⟨g.v, []⟩ : Env).upd (some 0) (.slice x0b x0n x0c)) h := by kernel_rfl
    exact e ▸ hS
  · intro e g' h' hq
    cases e with
    | normal =>
      have hq : D1 (fun z0b z0n z0c h => n2 z0b z0n z0c Kn Kr h) g' h' := hq
      obtain ⟨y0b, y0n, y0c, hg', hq⟩ := D1_ok hq
      exact n2_ok y0b y0n y0c Kn Kr g' hg' h' hq
    | _ => exact hq
/-- WHAT tympan/tympanlaw12.much ASKS -/
abbrev asks (x0b : Option Addr) (x0n : Nat) (x0c : Nat) (K : Value → H → Prop) (h : H) : Prop := n1 x0b x0n x0c (fun y2 h => K (.bool y2) h) (fun y2 h => K (.bool y2) h) h
theorem ok (x0b : Option Addr) (x0n : Nat) (x0c : Nat) (K : Value → H → Prop) (h : H) (hS : asks x0b x0n x0c K h) : HCalls Try.prog 7 ⟨[(.slice x0b x0n x0c)]⟩ h K := by
  refine calls_of_wpC (c := code) Try.func7 (by kernel_rfl) (Nat.le_of_ble_eq_true (by kernel_rfl)) ?_
  refine (n1_ok x0b x0n x0c (fun y2 h => K (.bool y2) h) (fun y2 h => K (.bool y2) h) (env0 [(.slice x0b x0n x0c)]) ⟨rfl, rfl⟩ h hS).mono ?_
  intro e g' h' hq
  cases e with
  | normal =>
    have hq : D0 (fun y2 h => K (.bool y2) h) g' h' := hq
    obtain ⟨y2, ⟨hg2, hd⟩, hq⟩ := D0_ok hq
    show leaveX g'.ds h' _
    rw [hd]
    show K (g'.v 2) h'
    rw [hg2]
    exact hq
  | ret =>
    have hq : D0 (fun y2 h => K (.bool y2) h) g' h' := hq
    obtain ⟨y2, ⟨hg2, hd⟩, hq⟩ := D0_ok hq
    show leaveX g'.ds h' _
    rw [hd]
    show K (g'.v 2) h'
    rw [hg2]
    exact hq
  | _ => exact hq
end Sx.l12_much

/-! ### tympan/tympanlaw12.lent -/
namespace Sx.l12_lent
noncomputable def code : Code := bodyOf Try.f8
abbrev T0 := (Option Addr) → Nat → Nat → H → Prop
def E0 (g : Env) (x2b : Option Addr) (x2n : Nat) (x2c : Nat) : Prop := g.v 2 = (.slice x2b x2n x2c) ∧ g.ds = []
def D0 (K : T0) (g : Env) (h : H) : Prop := nilDs g.ds (vSlice (g.v 2) fun s1b s1n s1c => K s1b s1n s1c h)
theorem D0_ok {K : T0} {g : Env} {h : H} (hq : D0 K g h) : ∃ (x2b : Option Addr) (x2n : Nat) (x2c : Nat), E0 g x2b x2n x2c ∧ K x2b x2n x2c h := by
  obtain ⟨hd, hq⟩ := nilDs_ok hq
  obtain ⟨y3b, y3n, y3c, e2, q4⟩ := vSlice_ok hq
  exact ⟨y3b, y3n, y3c, ⟨e2, hd⟩, q4⟩
def Q0 (Kn : T0) (Kr : T0) : XPost
  | .normal, g, h => D0 Kn g h
  | .ret, g, h => D0 Kr g h
  | _, _, _ => False
abbrev T1 := (Option Addr) → Nat → Nat → H → Prop
def E1 (g : Env) (x0b : Option Addr) (x0n : Nat) (x0c : Nat) : Prop := g.v 0 = (.slice x0b x0n x0c) ∧ g.ds = []
def D1 (K : T1) (g : Env) (h : H) : Prop := nilDs g.ds (vSlice (g.v 0) fun s5b s5n s5c => K s5b s5n s5c h)
theorem D1_ok {K : T1} {g : Env} {h : H} (hq : D1 K g h) : ∃ (x0b : Option Addr) (x0n : Nat) (x0c : Nat), E1 g x0b x0n x0c ∧ K x0b x0n x0c h := by
  obtain ⟨hd, hq⟩ := nilDs_ok hq
  obtain ⟨y7b, y7n, y7c, e6, q8⟩ := vSlice_ok hq
  exact ⟨y7b, y7n, y7c, ⟨e6, hd⟩, q8⟩
noncomputable def n1_c1 : Code := cFst code
noncomputable def n1_c2 : Code := cSnd code
noncomputable def n2_c1 : Code := cFst n1_c2
noncomputable def n2_c2 : Code := cSnd n1_c2
abbrev T2 := (Option Addr) → Nat → Nat → (Option Addr) → Nat → Nat → H → Prop
def E2 (g : Env) (x0b : Option Addr) (x0n : Nat) (x0c : Nat) (x3b : Option Addr) (x3n : Nat) (x3c : Nat) : Prop := g.v 0 = (.slice x0b x0n x0c) ∧ g.v 3 = (.slice x3b x3n x3c) ∧ g.ds = []
def D2 (K : T2) (g : Env) (h : H) : Prop := nilDs g.ds (vSlice (g.v 0) fun s9b s9n s9c => vSlice (g.v 3) fun s10b s10n s10c => K s9b s9n s9c s10b s10n s10c h)
theorem D2_ok {K : T2} {g : Env} {h : H} (hq : D2 K g h) : ∃ (x0b : Option Addr) (x0n : Nat) (x0c : Nat) (x3b : Option Addr) (x3n : Nat) (x3c : Nat), E2 g x0b x0n x0c x3b x3n x3c ∧ K x0b x0n x0c x3b x3n x3c h := by
  obtain ⟨hd, hq⟩ := nilDs_ok hq
  obtain ⟨y12b, y12n, y12c, e11, q13⟩ := vSlice_ok hq
  obtain ⟨y15b, y15n, y15c, e14, q16⟩ := vSlice_ok q13
  exact ⟨y12b, y12n, y12c, y15b, y15n, y15c, ⟨e11, e14, hd⟩, q16⟩
noncomputable def n3_c1 : Code := cFst n2_c2
noncomputable def n3_c2 : Code := cSnd n2_c2
abbrev T3 := (Option Addr) → Nat → Nat → H → Prop
def E3 (g : Env) (x3b : Option Addr) (x3n : Nat) (x3c : Nat) : Prop := g.v 3 = (.slice x3b x3n x3c) ∧ g.ds = []
def D3 (K : T3) (g : Env) (h : H) : Prop := nilDs g.ds (vSlice (g.v 3) fun s17b s17n s17c => K s17b s17n s17c h)
theorem D3_ok {K : T3} {g : Env} {h : H} (hq : D3 K g h) : ∃ (x3b : Option Addr) (x3n : Nat) (x3c : Nat), E3 g x3b x3n x3c ∧ K x3b x3n x3c h := by
  obtain ⟨hd, hq⟩ := nilDs_ok hq
  obtain ⟨y19b, y19n, y19c, e18, q20⟩ := vSlice_ok hq
  exact ⟨y19b, y19n, y19c, ⟨e18, hd⟩, q20⟩
abbrev n4 (x3b : Option Addr) (x3n : Nat) (x3c : Nat) (Kn : T0) (Kr : T0) (h : H) : Prop :=
  Kr x3b x3n x3c h
theorem n4_ok (x3b : Option Addr) (x3n : Nat) (x3c : Nat) (Kn : T0) (Kr : T0) (g : Env) (hg : E3 g x3b x3n x3c) (h : H) (hS : n4 x3b x3n x3c Kn Kr h) : wpC none Try.prog 25 n3_c2 (Q0 Kn Kr) g h := by
  obtain ⟨hg3, hds⟩ := hg
  refine wpC_of_wpx (by kernel_rfl) (by kernel_rfl) (g' := (⟨g.v, []⟩ : Env).upd (some 3) (.slice x3b x3n x3c)) (by rw [env_ds hds, upd_self hg3]) ?_
  have e : (n4 x3b x3n x3c Kn Kr h) = wpx none Try.prog 25 n3_c2 (Q0 Kn Kr) ((⟨g.v, []⟩ : Env).upd (some 3) (.slice x3b x3n x3c)) h := by kernel_rfl
  exact e ▸ hS
def Q1 (Kn : T3) (Kr : T0) : XPost
  | .normal, g, h => D3 Kn g h
  | .ret, g, h => D0 Kr g h
  | _, _, _ => False
noncomputable def n5_c1 : Code := cFst n3_c1
noncomputable def n5_c2 : Code := cSnd n3_c1
abbrev T4 := (Option Addr) → Nat → Nat → (Option Addr) → Nat → Nat → Int → H → Prop
def E4 (g : Env) (x0b : Option Addr) (x0n : Nat) (x0c : Nat) (x3b : Option Addr) (x3n : Nat) (x3c : Nat) (x4 : Int) : Prop := g.v 0 = (.slice x0b x0n x0c) ∧ g.v 3 = (.slice x3b x3n x3c) ∧ g.v 4 = (.int .i64 x4) ∧ g.ds = []
def D4 (K : T4) (g : Env) (h : H) : Prop := nilDs g.ds (vSlice (g.v 0) fun s21b s21n s21c => vSlice (g.v 3) fun s22b s22n s22c => vInt .i64 (g.v 4) fun i23 => K s21b s21n s21c s22b s22n s22c i23 h)
theorem D4_ok {K : T4} {g : Env} {h : H} (hq : D4 K g h) : ∃ (x0b : Option Addr) (x0n : Nat) (x0c : Nat) (x3b : Option Addr) (x3n : Nat) (x3c : Nat) (x4 : Int), E4 g x0b x0n x0c x3b x3n x3c x4 ∧ K x0b x0n x0c x3b x3n x3c x4 h := by
  obtain ⟨hd, hq⟩ := nilDs_ok hq
  obtain ⟨y25b, y25n, y25c, e24, q26⟩ := vSlice_ok hq
  obtain ⟨y28b, y28n, y28c, e27, q29⟩ := vSlice_ok q26
  obtain ⟨y31, e30, q32⟩ := vInt_ok q29
  exact ⟨y25b, y25n, y25c, y28b, y28n, y28c, y31, ⟨e24, e27, e30, hd⟩, q32⟩
noncomputable def n6_c1 : Code := cFst n5_c2
def Q2 (Kn : T3) (Ke0 : T3) (Kr : T0) : XPost
  | .normal, g, h => D3 Kn g h
  | .ret, g, h => D0 Kr g h
  | .exit id, g, h => cond (Nat.beq id 0) (D3 Ke0 g h) (False)
  | _, _, _ => False
noncomputable def n7_c1 : Code := cFst n6_c1
def Q3 (Kn : T4) (Ke0 : T3) (Kr : T0) : XPost
  | .normal, g, h => D4 Kn g h
  | .ret, g, h => D0 Kr g h
  | .exit id, g, h => cond (Nat.beq id 0) (D3 Ke0 g h) (False)
  | _, _, _ => False
def n7_L (Kn : T3) (Ke0 : T3) (Kr : T0) : Nat → (Option Addr) → Nat → Nat → (Option Addr) → Nat → Nat → Int → H → Prop
  | 0, _, _, _, _, _, _, _, _ => False
  | N + 1, x0b, x0n, x0c, x3b, x3n, x3c, x4, h => Spl (x4 < (x0n : Int)) ((0 ≤ x4 ∧ x4 < (x0n : Int)) ∧ (vSome x0b fun a33 => ∃ i34, cell h (((a33.add (Int.toNat x4 * 3))).add 0) = some (.int .i64 i34) ∧ (∃ s35, cell h (((a33.add (Int.toNat x4 * 3))).add 1) = some (S s35) ∧ (∃ s36b s36n s36c, cell h (((a33.add (Int.toNat x4 * 3))).add 2) = some (.slice s36b s36n s36c) ∧ (newx h ⟨[(.int .i64 (0 : Int)), (S ([] : List UInt8)), (.slice none 0 0)]⟩ 25 fun a37 h38 => stL a37 [(.int .i64 i34), (S s35), (.slice s36b s36n s36c)] 0 h38 fun h39 => ∃ s40b s40n s40c, cell h39 (a37.add 2) = some (.slice s40b s40n s40c) ∧ (HCalls Try.prog 21 ⟨[(.slice s40b s40n s40c)]⟩ h39 fun v41 h42 => vSlice v41 fun s43b s43n s43c => stL (a37.add 2) [(.slice s43b s43n s43c)] 0 h42 fun h44 => ∃ i45, cell h44 ((a37).add 0) = some (.int .i64 i45) ∧ (∃ s46, cell h44 ((a37).add 1) = some (S s46) ∧ (∃ s47b s47n s47c, cell h44 ((a37).add 2) = some (.slice s47b s47n s47c) ∧ (newx h44 #[(.int .i64 i45), (S s46), (.slice s47b s47n s47c)] 25 fun a48 h49 => SemH Try.prog (Builtin.append_ #[22, 22] 22 ⟨[(.slice x3b x3n x3c), (.slice (some a48) 1 1)]⟩) h49 fun v50 h51 => vSlice v50 fun s52b s52n s52c => Rng .i64 (x4 + (1 : Int)) ∧ (n7_L Kn Ke0 Kr N x0b x0n x0c s52b s52n s52c (x4 + (1 : Int)) h51)))))))))) (Ke0 x3b x3n x3c h)
abbrev n7 (x0b : Option Addr) (x0n : Nat) (x0c : Nat) (x3b : Option Addr) (x3n : Nat) (x3c : Nat) (x4 : Int) (Kn : T3) (Ke0 : T3) (Kr : T0) (h : H) : Prop := ∃ N, n7_L Kn Ke0 Kr N x0b x0n x0c x3b x3n x3c x4 h
theorem n7_ok (x0b : Option Addr) (x0n : Nat) (x0c : Nat) (x3b : Option Addr) (x3n : Nat) (x3c : Nat) (x4 : Int) (Kn : T3) (Ke0 : T3) (Kr : T0) (g : Env) (hg : E4 g x0b x0n x0c x3b x3n x3c x4) (h : H) (hS : n7 x0b x0n x0c x3b x3n x3c x4 Kn Ke0 Kr h) : wpC none Try.prog 25 n6_c1 (Q2 Kn Ke0 Kr) g h := by
  obtain ⟨N0, hS⟩ := hS
  refine wpC_loop' (x := n7_c1) (by kernel_rfl) (fun k g h => ∃ (x0b : Option Addr) (x0n : Nat) (x0c : Nat) (x3b : Option Addr) (x3n : Nat) (x3c : Nat) (x4 : Int), E4 g x0b x0n x0c x3b x3n x3c x4 ∧ n7_L Kn Ke0 Kr k x0b x0n x0c x3b x3n x3c x4 h) (fun g h hr => ?_) (fun N g h hr => ?_) N0 ⟨x0b, x0n, x0c, x3b, x3n, x3c, x4, hg, hS⟩
  · obtain ⟨x0b, x0n, x0c, x3b, x3n, x3c, x4, hg, hS⟩ := hr
    exact hS.elim
  · obtain ⟨x0b, x0n, x0c, x3b, x3n, x3c, x4, hg, hS⟩ := hr
    have hw : wpC none Try.prog 25 n7_c1 (Q3 (fun z0b z0n z0c z3b z3n z3c z4 h => n7_L Kn Ke0 Kr N z0b z0n z0c z3b z3n z3c z4 h) Ke0 Kr) g h := by
      obtain ⟨hg0, hg3, hg4, hds⟩ := hg
      refine wpC_of_wpx (by kernel_rfl) (by kernel_rfl) (g' := (((⟨g.v, []⟩ : Env).upd (some 0) (.slice x0b x0n x0c)).upd (some 3) (.slice x3b x3n x3c)).upd (some 4) (.int .i64 x4)) (by rw [env_ds hds, upd_self hg0, upd_self hg3, upd_self hg4]) ?_
      have e : (n7_L Kn Ke0 Kr (N + 1) x0b x0n x0c x3b x3n x3c x4 h) = wpx none Try.prog 25 n7_c1 (Q3 (fun z0b z0n z0c z3b z3n z3c z4 h => n7_L Kn Ke0 Kr N z0b z0n z0c z3b z3n z3c z4 h) Ke0 Kr) ((((⟨g.v, []⟩ : Env).upd (some 0) (.slice x0b x0n x0c)).upd (some 3) (.slice x3b x3n x3c)).upd (some 4) (.int .i64 x4)) h := by kernel_rfl
      exact e ▸ hS
    refine hw.mono ?_
    intro e g' h' hq
    cases e with
    | normal => exact D4_ok (K := (fun z0b z0n z0c z3b z3n z3c z4 h => n7_L Kn Ke0 Kr N z0b z0n z0c z3b z3n z3c z4 h)) hq
    | _ => exact hq
abbrev n6 (x0b : Option Addr) (x0n : Nat) (x0c : Nat) (x3b : Option Addr) (x3n : Nat) (x3c : Nat) (x4 : Int) (Kn : T3) (Kr : T0) (h : H) : Prop := n7 x0b x0n x0c x3b x3n x3c x4 Kn Kn Kr h
theorem n6_ok (x0b : Option Addr) (x0n : Nat) (x0c : Nat) (x3b : Option Addr) (x3n : Nat) (x3c : Nat) (x4 : Int) (Kn : T3) (Kr : T0) (g : Env) (hg : E4 g x0b x0n x0c x3b x3n x3c x4) (h : H) (hS : n6 x0b x0n x0c x3b x3n x3c x4 Kn Kr h) : wpC none Try.prog 25 n5_c2 (Q1 Kn Kr) g h := by
  refine wpC_block' (id := 0) (x := n6_c1) (by kernel_rfl) (n7_ok x0b x0n x0c x3b x3n x3c x4 Kn Kn Kr g hg h hS) ?_
  intro e g' h' hq
  cases e <;> exact hq
def Q4 (Kn : T4) (Kr : T0) : XPost
  | .normal, g, h => D4 Kn g h
  | .ret, g, h => D0 Kr g h
  | _, _, _ => False
abbrev n5 (x0b : Option Addr) (x0n : Nat) (x0c : Nat) (x3b : Option Addr) (x3n : Nat) (x3c : Nat) (Kn : T3) (Kr : T0) (h : H) : Prop :=
  n6 x0b x0n x0c x3b x3n x3c (0 : Int) Kn Kr h
theorem n5_ok (x0b : Option Addr) (x0n : Nat) (x0c : Nat) (x3b : Option Addr) (x3n : Nat) (x3c : Nat) (Kn : T3) (Kr : T0) (g : Env) (hg : E2 g x0b x0n x0c x3b x3n x3c) (h : H) (hS : n5 x0b x0n x0c x3b x3n x3c Kn Kr h) : wpC none Try.prog 25 n3_c1 (Q1 Kn Kr) g h := by
  obtain ⟨hg0, hg3, hds⟩ := hg
  refine wpC_seq' (x := n5_c1) (y := n5_c2) (Q' := (Q4 (fun z0b z0n z0c z3b z3n z3c z4 h => n6 z0b z0n z0c z3b z3n z3c z4 Kn Kr h) Kr)) (by kernel_rfl) ?_ ?_
  · refine wpC_of_wpx (by kernel_rfl) (by kernel_rfl) (g' := ((⟨g.v, []⟩ : Env).upd (some 0) (.slice x0b x0n x0c)).upd (some 3) (.slice x3b x3n x3c)) (by rw [env_ds hds, upd_self hg0, upd_self hg3]) ?_
    have e : (n5 x0b x0n x0c x3b x3n x3c Kn Kr h) = wpx none Try.prog 25 n5_c1 (Q4 (fun z0b z0n z0c z3b z3n z3c z4 h => n6 z0b z0n z0c z3b z3n z3c z4 Kn Kr h) Kr) (((⟨g.v, []⟩ : Env).upd (some 0) (.slice x0b x0n x0c)).upd (some 3) (.slice x3b x3n x3c)) h := by kernel_rfl
    exact e ▸ hS
  · intro e g' h' hq
    cases e with
    | normal =>
      have hq : D4 (fun z0b z0n z0c z3b z3n z3c z4 h => n6 z0b z0n z0c z3b z3n z3c z4 Kn Kr h) g' h' := hq
      obtain ⟨y0b, y0n, y0c, y3b, y3n, y3c, y4, hg', hq⟩ := D4_ok hq
      exact n6_ok y0b y0n y0c y3b y3n y3c y4 Kn Kr g' hg' h' hq
    | _ => exact hq
abbrev n3 (x0b : Option Addr) (x0n : Nat) (x0c : Nat) (x3b : Option Addr) (x3n : Nat) (x3c : Nat) (Kn : T0) (Kr : T0) (h : H) : Prop := n5 x0b x0n x0c x3b x3n x3c (fun z3b z3n z3c h => n4 z3b z3n z3c Kn Kr h) Kr h
theorem n3_ok (x0b : Option Addr) (x0n : Nat) (x0c : Nat) (x3b : Option Addr) (x3n : Nat) (x3c : Nat) (Kn : T0) (Kr : T0) (g : Env) (hg : E2 g x0b x0n x0c x3b x3n x3c) (h : H) (hS : n3 x0b x0n x0c x3b x3n x3c Kn Kr h) : wpC none Try.prog 25 n2_c2 (Q0 Kn Kr) g h := by
  refine wpC_seq' (x := n3_c1) (y := n3_c2) (by kernel_rfl) (n5_ok x0b x0n x0c x3b x3n x3c (fun z3b z3n z3c h => n4 z3b z3n z3c Kn Kr h) Kr g hg h hS) ?_
  intro e g' h' hq
  cases e with
  | normal =>
    have hq : D3 (fun z3b z3n z3c h => n4 z3b z3n z3c Kn Kr h) g' h' := hq
    obtain ⟨y3b, y3n, y3c, hg', hq⟩ := D3_ok hq
    exact n4_ok y3b y3n y3c Kn Kr g' hg' h' hq
  | _ => exact hq
def Q5 (Kn : T2) (Kr : T0) : XPost
  | .normal, g, h => D2 Kn g h
  | .ret, g, h => D0 Kr g h
  | _, _, _ => False
abbrev n2 (x0b : Option Addr) (x0n : Nat) (x0c : Nat) (Kn : T0) (Kr : T0) (h : H) : Prop :=
  n3 x0b x0n x0c none 0 0 Kn Kr h
theorem n2_ok (x0b : Option Addr) (x0n : Nat) (x0c : Nat) (Kn : T0) (Kr : T0) (g : Env) (hg : E1 g x0b x0n x0c) (h : H) (hS : n2 x0b x0n x0c Kn Kr h) : wpC none Try.prog 25 n1_c2 (Q0 Kn Kr) g h := by
  obtain ⟨hg0, hds⟩ := hg
  refine wpC_seq' (x := n2_c1) (y := n2_c2) (Q' := (Q5 (fun z0b z0n z0c z3b z3n z3c h => n3 z0b z0n z0c z3b z3n z3c Kn Kr h) Kr)) (by kernel_rfl) ?_ ?_
  · refine wpC_of_wpx (by kernel_rfl) (by kernel_rfl) (g' := (⟨g.v, []⟩ : Env).upd (some 0) (.slice x0b x0n x0c)) (by rw [env_ds hds, upd_self hg0]) ?_
    have e : (n2 x0b x0n x0c Kn Kr h) = wpx none Try.prog 25 n2_c1 (Q5 (fun z0b z0n z0c z3b z3n z3c h => n3 z0b z0n z0c z3b z3n z3c Kn Kr h) Kr) ((⟨g.v, []⟩ : Env).upd (some 0) (.slice x0b x0n x0c)) h := by kernel_rfl
    exact e ▸ hS
  · intro e g' h' hq
    cases e with
    | normal =>
      have hq : D2 (fun z0b z0n z0c z3b z3n z3c h => n3 z0b z0n z0c z3b z3n z3c Kn Kr h) g' h' := hq
      obtain ⟨y0b, y0n, y0c, y3b, y3n, y3c, hg', hq⟩ := D2_ok hq
      exact n3_ok y0b y0n y0c y3b y3n y3c Kn Kr g' hg' h' hq
    | _ => exact hq
def Q6 (Kn : T1) (Kr : T0) : XPost
  | .normal, g, h => D1 Kn g h
  | .ret, g, h => D0 Kr g h
  | _, _, _ => False
abbrev n1 (x0b : Option Addr) (x0n : Nat) (x0c : Nat) (Kn : T0) (Kr : T0) (h : H) : Prop :=
  n2 x0b x0n x0c Kn Kr h
theorem n1_ok (x0b : Option Addr) (x0n : Nat) (x0c : Nat) (Kn : T0) (Kr : T0) (g : Env) (hg : E1 g x0b x0n x0c) (h : H) (hS : n1 x0b x0n x0c Kn Kr h) : wpC none Try.prog 25 code (Q0 Kn Kr) g h := by
  obtain ⟨hg0, hds⟩ := hg
  refine wpC_seq' (x := n1_c1) (y := n1_c2) (Q' := (Q6 (fun z0b z0n z0c h => n2 z0b z0n z0c Kn Kr h) Kr)) (by kernel_rfl) ?_ ?_
  · refine wpC_of_wpx (by kernel_rfl) (by kernel_rfl) (g' := (⟨g.v, []⟩ : Env).upd (some 0) (.slice x0b x0n x0c)) (by rw [env_ds hds, upd_self hg0]) ?_
    have e : (n1 x0b x0n x0c Kn Kr h) = wpx none Try.prog 25 n1_c1 (Q6 (fun z0b z0n z0c h => n2 z0b z0n z0c Kn Kr h) Kr) ((⟨g.v, []⟩ : Env).upd (some 0) (.slice x0b x0n x0c)) h := by kernel_rfl
    exact e ▸ hS
  · intro e g' h' hq
    cases e with
    | normal =>
      have hq : D1 (fun z0b z0n z0c h => n2 z0b z0n z0c Kn Kr h) g' h' := hq
      obtain ⟨y0b, y0n, y0c, hg', hq⟩ := D1_ok hq
      exact n2_ok y0b y0n y0c Kn Kr g' hg' h' hq
    | _ => exact hq
/-- WHAT tympan/tympanlaw12.lent ASKS -/
abbrev asks (x0b : Option Addr) (x0n : Nat) (x0c : Nat) (K : Value → H → Prop) (h : H) : Prop := n1 x0b x0n x0c (fun y2b y2n y2c h => K (.slice y2b y2n y2c) h) (fun y2b y2n y2c h => K (.slice y2b y2n y2c) h) h
theorem ok (x0b : Option Addr) (x0n : Nat) (x0c : Nat) (K : Value → H → Prop) (h : H) (hS : asks x0b x0n x0c K h) : HCalls Try.prog 8 ⟨[(.slice x0b x0n x0c)]⟩ h K := by
  refine calls_of_wpC (c := code) Try.func8 (by kernel_rfl) (Nat.le_of_ble_eq_true (by kernel_rfl)) ?_
  refine (n1_ok x0b x0n x0c (fun y2b y2n y2c h => K (.slice y2b y2n y2c) h) (fun y2b y2n y2c h => K (.slice y2b y2n y2c) h) (env0 [(.slice x0b x0n x0c)]) ⟨rfl, rfl⟩ h hS).mono ?_
  intro e g' h' hq
  cases e with
  | normal =>
    have hq : D0 (fun y2b y2n y2c h => K (.slice y2b y2n y2c) h) g' h' := hq
    obtain ⟨y2b, y2n, y2c, ⟨hg2, hd⟩, hq⟩ := D0_ok hq
    show leaveX g'.ds h' _
    rw [hd]
    show K (g'.v 2) h'
    rw [hg2]
    exact hq
  | ret =>
    have hq : D0 (fun y2b y2n y2c h => K (.slice y2b y2n y2c) h) g' h' := hq
    obtain ⟨y2b, y2n, y2c, ⟨hg2, hd⟩, hq⟩ := D0_ok hq
    show leaveX g'.ds h' _
    rw [hd]
    show K (g'.v 2) h'
    rw [hg2]
    exact hq
  | _ => exact hq
end Sx.l12_lent

/-! ### tympan/marks.Push -/
namespace Sx.marks_Push
noncomputable def code : Code := bodyOf Try.f9
abbrev T0 := (Option Addr) → Nat → Nat → H → Prop
def E0 (g : Env) (x4b : Option Addr) (x4n : Nat) (x4c : Nat) : Prop := g.v 4 = (.slice x4b x4n x4c) ∧ g.ds = []
def D0 (K : T0) (g : Env) (h : H) : Prop := nilDs g.ds (vSlice (g.v 4) fun s1b s1n s1c => K s1b s1n s1c h)
theorem D0_ok {K : T0} {g : Env} {h : H} (hq : D0 K g h) : ∃ (x4b : Option Addr) (x4n : Nat) (x4c : Nat), E0 g x4b x4n x4c ∧ K x4b x4n x4c h := by
  obtain ⟨hd, hq⟩ := nilDs_ok hq
  obtain ⟨y3b, y3n, y3c, e2, q4⟩ := vSlice_ok hq
  exact ⟨y3b, y3n, y3c, ⟨e2, hd⟩, q4⟩
def Q0 (Kn : T0) (Kr : T0) : XPost
  | .normal, g, h => D0 Kn g h
  | .ret, g, h => D0 Kr g h
  | _, _, _ => False
abbrev T1 := (Option Addr) → Nat → Nat → Int → (List UInt8) → (Option Addr) → Nat → Nat → H → Prop
def E1 (g : Env) (x0b : Option Addr) (x0n : Nat) (x0c : Nat) (x1_0 : Int) (x1_1 : List UInt8) (x1_2b : Option Addr) (x1_2n : Nat) (x1_2c : Nat) : Prop := g.v 0 = (.slice x0b x0n x0c) ∧ g.v 1 = (.agg ⟨[(.int .i64 x1_0), (S x1_1), (.slice x1_2b x1_2n x1_2c)]⟩) ∧ g.ds = []
def D1 (K : T1) (g : Env) (h : H) : Prop := nilDs g.ds (vSlice (g.v 0) fun s5b s5n s5c => vAgg (g.v 1) fun l6 => uncons l6 fun e7 l8 => vInt .i64 e7 fun i9 => uncons l8 fun e10 l11 => vStr e10 fun s12 => uncons l11 fun e13 l14 => vSlice e13 fun s15b s15n s15c => unnil l14 (K s5b s5n s5c i9 s12 s15b s15n s15c h))
theorem D1_ok {K : T1} {g : Env} {h : H} (hq : D1 K g h) : ∃ (x0b : Option Addr) (x0n : Nat) (x0c : Nat) (x1_0 : Int) (x1_1 : List UInt8) (x1_2b : Option Addr) (x1_2n : Nat) (x1_2c : Nat), E1 g x0b x0n x0c x1_0 x1_1 x1_2b x1_2n x1_2c ∧ K x0b x0n x0c x1_0 x1_1 x1_2b x1_2n x1_2c h := by
  obtain ⟨hd, hq⟩ := nilDs_ok hq
  obtain ⟨y17b, y17n, y17c, e16, q18⟩ := vSlice_ok hq
  obtain ⟨l20, e19, q21⟩ := vAgg_ok q18
  obtain ⟨u22, l23, rfl, q24⟩ := uncons_ok q21
  obtain ⟨y25, rfl, q26⟩ := vInt_ok q24
  obtain ⟨u27, l28, rfl, q29⟩ := uncons_ok q26
  obtain ⟨y30, rfl, q31⟩ := vStr_ok q29
  obtain ⟨u32, l33, rfl, q34⟩ := uncons_ok q31
  obtain ⟨y35b, y35n, y35c, rfl, q36⟩ := vSlice_ok q34
  obtain ⟨rfl, q37⟩ := unnil_ok q36
  exact ⟨y17b, y17n, y17c, y25, y30, y35b, y35n, y35c, ⟨e16, e19, hd⟩, q37⟩
noncomputable def n1_c1 : Code := cFst code
noncomputable def n1_c2 : Code := cSnd code
abbrev T2 := (Option Addr) → Nat → Nat → Addr → H → Prop
def E2 (g : Env) (x0b : Option Addr) (x0n : Nat) (x0c : Nat) (x3 : Addr) : Prop := g.v 0 = (.slice x0b x0n x0c) ∧ g.v 3 = (.pointer (some x3)) ∧ g.ds = []
def D2 (K : T2) (g : Env) (h : H) : Prop := nilDs g.ds (vSlice (g.v 0) fun s38b s38n s38c => vAddr (g.v 3) fun a39 => K s38b s38n s38c a39 h)
theorem D2_ok {K : T2} {g : Env} {h : H} (hq : D2 K g h) : ∃ (x0b : Option Addr) (x0n : Nat) (x0c : Nat) (x3 : Addr), E2 g x0b x0n x0c x3 ∧ K x0b x0n x0c x3 h := by
  obtain ⟨hd, hq⟩ := nilDs_ok hq
  obtain ⟨y41b, y41n, y41c, e40, q42⟩ := vSlice_ok hq
  obtain ⟨y44, e43, q45⟩ := vAddr_ok q42
  exact ⟨y41b, y41n, y41c, y44, ⟨e40, e43, hd⟩, q45⟩
noncomputable def n2_c1 : Code := cFst n1_c2
noncomputable def n2_c2 : Code := cSnd n1_c2
abbrev T3 := (Option Addr) → Nat → Nat → Addr → (Option Addr) → Nat → Nat → H → Prop
def E3 (g : Env) (x0b : Option Addr) (x0n : Nat) (x0c : Nat) (x3 : Addr) (x5b : Option Addr) (x5n : Nat) (x5c : Nat) : Prop := g.v 0 = (.slice x0b x0n x0c) ∧ g.v 3 = (.pointer (some x3)) ∧ g.v 5 = (.slice x5b x5n x5c) ∧ g.ds = []
def D3 (K : T3) (g : Env) (h : H) : Prop := nilDs g.ds (vSlice (g.v 0) fun s46b s46n s46c => vAddr (g.v 3) fun a47 => vSlice (g.v 5) fun s48b s48n s48c => K s46b s46n s46c a47 s48b s48n s48c h)
theorem D3_ok {K : T3} {g : Env} {h : H} (hq : D3 K g h) : ∃ (x0b : Option Addr) (x0n : Nat) (x0c : Nat) (x3 : Addr) (x5b : Option Addr) (x5n : Nat) (x5c : Nat), E3 g x0b x0n x0c x3 x5b x5n x5c ∧ K x0b x0n x0c x3 x5b x5n x5c h := by
  obtain ⟨hd, hq⟩ := nilDs_ok hq
  obtain ⟨y50b, y50n, y50c, e49, q51⟩ := vSlice_ok hq
  obtain ⟨y53, e52, q54⟩ := vAddr_ok q51
  obtain ⟨y56b, y56n, y56c, e55, q57⟩ := vSlice_ok q54
  exact ⟨y50b, y50n, y50c, y53, y56b, y56n, y56c, ⟨e49, e52, e55, hd⟩, q57⟩
noncomputable def n3_c1 : Code := cFst n2_c2
noncomputable def n3_c2 : Code := cSnd n2_c2
noncomputable def n4_c1 : Code := cFst n3_c2
noncomputable def n4_c2 : Code := cSnd n3_c2
abbrev T4 := (Option Addr) → Nat → Nat → Addr → (Option Addr) → Nat → Nat → (Option Addr) → Nat → Nat → H → Prop
def E4 (g : Env) (x0b : Option Addr) (x0n : Nat) (x0c : Nat) (x3 : Addr) (x5b : Option Addr) (x5n : Nat) (x5c : Nat) (x6b : Option Addr) (x6n : Nat) (x6c : Nat) : Prop := g.v 0 = (.slice x0b x0n x0c) ∧ g.v 3 = (.pointer (some x3)) ∧ g.v 5 = (.slice x5b x5n x5c) ∧ g.v 6 = (.slice x6b x6n x6c) ∧ g.ds = []
def D4 (K : T4) (g : Env) (h : H) : Prop := nilDs g.ds (vSlice (g.v 0) fun s58b s58n s58c => vAddr (g.v 3) fun a59 => vSlice (g.v 5) fun s60b s60n s60c => vSlice (g.v 6) fun s61b s61n s61c => K s58b s58n s58c a59 s60b s60n s60c s61b s61n s61c h)
theorem D4_ok {K : T4} {g : Env} {h : H} (hq : D4 K g h) : ∃ (x0b : Option Addr) (x0n : Nat) (x0c : Nat) (x3 : Addr) (x5b : Option Addr) (x5n : Nat) (x5c : Nat) (x6b : Option Addr) (x6n : Nat) (x6c : Nat), E4 g x0b x0n x0c x3 x5b x5n x5c x6b x6n x6c ∧ K x0b x0n x0c x3 x5b x5n x5c x6b x6n x6c h := by
  obtain ⟨hd, hq⟩ := nilDs_ok hq
  obtain ⟨y63b, y63n, y63c, e62, q64⟩ := vSlice_ok hq
  obtain ⟨y66, e65, q67⟩ := vAddr_ok q64
  obtain ⟨y69b, y69n, y69c, e68, q70⟩ := vSlice_ok q67
  obtain ⟨y72b, y72n, y72c, e71, q73⟩ := vSlice_ok q70
  exact ⟨y63b, y63n, y63c, y66, y69b, y69n, y69c, y72b, y72n, y72c, ⟨e62, e65, e68, e71, hd⟩, q73⟩
noncomputable def n5_c1 : Code := cFst n4_c2
noncomputable def n5_c2 : Code := cSnd n4_c2
abbrev T5 := (Option Addr) → Nat → Nat → (Option Addr) → Nat → Nat → H → Prop
def E5 (g : Env) (x5b : Option Addr) (x5n : Nat) (x5c : Nat) (x6b : Option Addr) (x6n : Nat) (x6c : Nat) : Prop := g.v 5 = (.slice x5b x5n x5c) ∧ g.v 6 = (.slice x6b x6n x6c) ∧ g.ds = []
def D5 (K : T5) (g : Env) (h : H) : Prop := nilDs g.ds (vSlice (g.v 5) fun s74b s74n s74c => vSlice (g.v 6) fun s75b s75n s75c => K s74b s74n s74c s75b s75n s75c h)
theorem D5_ok {K : T5} {g : Env} {h : H} (hq : D5 K g h) : ∃ (x5b : Option Addr) (x5n : Nat) (x5c : Nat) (x6b : Option Addr) (x6n : Nat) (x6c : Nat), E5 g x5b x5n x5c x6b x6n x6c ∧ K x5b x5n x5c x6b x6n x6c h := by
  obtain ⟨hd, hq⟩ := nilDs_ok hq
  obtain ⟨y77b, y77n, y77c, e76, q78⟩ := vSlice_ok hq
  obtain ⟨y80b, y80n, y80c, e79, q81⟩ := vSlice_ok q78
  exact ⟨y77b, y77n, y77c, y80b, y80n, y80c, ⟨e76, e79, hd⟩, q81⟩
abbrev n6 (x5b : Option Addr) (x5n : Nat) (x5c : Nat) (x6b : Option Addr) (x6n : Nat) (x6c : Nat) (Kn : T0) (Kr : T0) (h : H) : Prop :=
  Spl ((x6n : Int) < (3 : Int)) (Kr x5b x5n x5c h) ((0 ≤ (0 : Int) ∧ (0 : Int) < (x6n : Int)) ∧ (vSome x6b fun a82 => ∃ i83, cell h (a82.add (Int.toNat (0 : Int) * 1)) = some (.int .i64 i83) ∧ ((0 ≤ (0 : Int) ∧ (0 : Int) ≤ i83 ∧ i83 ≤ (x5c : Int)) ∧ ((0 ≤ (0 : Int) ∧ (0 : Int) < (x6n : Int)) ∧ (vSome x6b fun a84 => ∃ i85, cell h (a84.add (Int.toNat (0 : Int) * 1)) = some (.int .i64 i85) ∧ (Rng .i64 (i85 + (1 : Int)) ∧ ((0 ≤ (i85 + (1 : Int)) ∧ (i85 + (1 : Int)) ≤ (x5n : Int) ∧ (x5n : Int) ≤ (x5c : Int)) ∧ (HCalls Try.prog 24 ⟨[(.slice (if x5c = Int.toNat (0 : Int) then x5b else Option.map (fun q => q.add (Int.toNat (0 : Int) * 3)) x5b) (Int.toNat i83 - Int.toNat (0 : Int)) (x5c - Int.toNat (0 : Int)))]⟩ h fun v86 h87 => vSlice v86 fun s88b s88n s88c => ExtH h h87 ∧ (SemH Try.prog (Builtin.append_ #[22, 22] 22 ⟨[(.slice s88b s88n s88c), (.slice (if x5c = Int.toNat (i85 + (1 : Int)) then x5b else Option.map (fun q => q.add (Int.toNat (i85 + (1 : Int)) * 3)) x5b) (Int.toNat (x5n : Int) - Int.toNat (i85 + (1 : Int))) (x5c - Int.toNat (i85 + (1 : Int))))]⟩) h87 fun v89 h90 => vSlice v89 fun s91b s91n s91c => Kr s91b s91n s91c h90)))))))))
theorem n6_ok (x5b : Option Addr) (x5n : Nat) (x5c : Nat) (x6b : Option Addr) (x6n : Nat) (x6c : Nat) (Kn : T0) (Kr : T0) (g : Env) (hg : E5 g x5b x5n x5c x6b x6n x6c) (h : H) (hS : n6 x5b x5n x5c x6b x6n x6c Kn Kr h) : wpC none Try.prog 56 n5_c2 (Q0 Kn Kr) g h := by
  obtain ⟨hg5, hg6, hds⟩ := hg
  refine wpC_of_wpx (by kernel_rfl) (by kernel_rfl) (g' := ((⟨g.v, []⟩ : Env).upd (some 5) (.slice x5b x5n x5c)).upd (some 6) (.slice x6b x6n x6c)) (by rw [env_ds hds, upd_self hg5, upd_self hg6]) ?_
  have e : (n6 x5b x5n x5c x6b x6n x6c Kn Kr h) = wpx none Try.prog 56 n5_c2 (Q0 Kn Kr) (((⟨g.v, []⟩ : Env).upd (some 5) (.slice x5b x5n x5c)).upd (some 6) (.slice x6b x6n x6c)) h := by kernel_rfl
  exact e ▸ hS
def Q1 (Kn : T5) (Kr : T0) : XPost
  | .normal, g, h => D5 Kn g h
  | .ret, g, h => D0 Kr g h
  | _, _, _ => False
noncomputable def n7_c1 : Code := cFst n5_c1
noncomputable def n7_c2 : Code := cSnd n5_c1
abbrev T6 := (Option Addr) → Nat → Nat → Addr → (Option Addr) → Nat → Nat → (Option Addr) → Nat → Nat → Int → H → Prop
def E6 (g : Env) (x0b : Option Addr) (x0n : Nat) (x0c : Nat) (x3 : Addr) (x5b : Option Addr) (x5n : Nat) (x5c : Nat) (x6b : Option Addr) (x6n : Nat) (x6c : Nat) (x7 : Int) : Prop := g.v 0 = (.slice x0b x0n x0c) ∧ g.v 3 = (.pointer (some x3)) ∧ g.v 5 = (.slice x5b x5n x5c) ∧ g.v 6 = (.slice x6b x6n x6c) ∧ g.v 7 = (.int .i64 x7) ∧ g.ds = []
def D6 (K : T6) (g : Env) (h : H) : Prop := nilDs g.ds (vSlice (g.v 0) fun s92b s92n s92c => vAddr (g.v 3) fun a93 => vSlice (g.v 5) fun s94b s94n s94c => vSlice (g.v 6) fun s95b s95n s95c => vInt .i64 (g.v 7) fun i96 => K s92b s92n s92c a93 s94b s94n s94c s95b s95n s95c i96 h)
theorem D6_ok {K : T6} {g : Env} {h : H} (hq : D6 K g h) : ∃ (x0b : Option Addr) (x0n : Nat) (x0c : Nat) (x3 : Addr) (x5b : Option Addr) (x5n : Nat) (x5c : Nat) (x6b : Option Addr) (x6n : Nat) (x6c : Nat) (x7 : Int), E6 g x0b x0n x0c x3 x5b x5n x5c x6b x6n x6c x7 ∧ K x0b x0n x0c x3 x5b x5n x5c x6b x6n x6c x7 h := by
  obtain ⟨hd, hq⟩ := nilDs_ok hq
  obtain ⟨y98b, y98n, y98c, e97, q99⟩ := vSlice_ok hq
  obtain ⟨y101, e100, q102⟩ := vAddr_ok q99
  obtain ⟨y104b, y104n, y104c, e103, q105⟩ := vSlice_ok q102
  obtain ⟨y107b, y107n, y107c, e106, q108⟩ := vSlice_ok q105
  obtain ⟨y110, e109, q111⟩ := vInt_ok q108
  exact ⟨y98b, y98n, y98c, y101, y104b, y104n, y104c, y107b, y107n, y107c, y110, ⟨e97, e100, e103, e106, e109, hd⟩, q111⟩
noncomputable def n8_c1 : Code := cFst n7_c2
def Q2 (Kn : T5) (Ke0 : T5) (Kr : T0) : XPost
  | .normal, g, h => D5 Kn g h
  | .ret, g, h => D0 Kr g h
  | .exit id, g, h => cond (Nat.beq id 0) (D5 Ke0 g h) (False)
  | _, _, _ => False
noncomputable def n9_c1 : Code := cFst n8_c1
def Q3 (Kn : T6) (Ke0 : T5) (Kr : T0) : XPost
  | .normal, g, h => D6 Kn g h
  | .ret, g, h => D0 Kr g h
  | .exit id, g, h => cond (Nat.beq id 0) (D5 Ke0 g h) (False)
  | _, _, _ => False
def n9_L (Kn : T5) (Ke0 : T5) (Kr : T0) : Nat → (Option Addr) → Nat → Nat → Addr → (Option Addr) → Nat → Nat → (Option Addr) → Nat → Nat → Int → H → Prop
  | 0, _, _, _, _, _, _, _, _, _, _, _, _ => False
  | N + 1, x0b, x0n, x0c, x3, x5b, x5n, x5c, x6b, x6n, x6c, x7, h => Spl (x7 < (x0n : Int)) (∃ i112, cell h ((x3).add 0) = some (.int .i64 i112) ∧ (∃ s113, cell h ((x3).add 1) = some (S s113) ∧ (∃ s114b s114n s114c, cell h ((x3).add 2) = some (.slice s114b s114n s114c) ∧ ((0 ≤ x7 ∧ x7 < (x0n : Int)) ∧ (vSome x0b fun a115 => ∃ i116, cell h (((a115.add (Int.toNat x7 * 3))).add 0) = some (.int .i64 i116) ∧ (∃ s117, cell h (((a115.add (Int.toNat x7 * 3))).add 1) = some (S s117) ∧ (∃ s118b s118n s118c, cell h (((a115.add (Int.toNat x7 * 3))).add 2) = some (.slice s118b s118n s118c) ∧ (HCalls Try.prog 23 ⟨[(.agg ⟨[(.int .i64 i112), (S s113), (.slice s114b s114n s114c)]⟩), (.agg ⟨[(.int .i64 i116), (S s117), (.slice s118b s118n s118c)]⟩)]⟩ h fun v119 h120 => vBool v119 fun b121 => cond b121 (newx h120 #[(.int .i64 x7)] 3 fun a122 h123 => SemH Try.prog (Builtin.append_ #[40, 40] 40 ⟨[(.slice x6b x6n x6c), (.slice (some a122) 1 1)]⟩) h123 fun v124 h125 => vSlice v124 fun s126b s126n s126c => Rng .i64 (x7 + (1 : Int)) ∧ (n9_L Kn Ke0 Kr N x0b x0n x0c x3 x5b x5n x5c s126b s126n s126c (x7 + (1 : Int)) h125)) (Rng .i64 (x7 + (1 : Int)) ∧ (n9_L Kn Ke0 Kr N x0b x0n x0c x3 x5b x5n x5c x6b x6n x6c (x7 + (1 : Int)) h120)))))))))) (Ke0 x5b x5n x5c x6b x6n x6c h)
abbrev n9 (x0b : Option Addr) (x0n : Nat) (x0c : Nat) (x3 : Addr) (x5b : Option Addr) (x5n : Nat) (x5c : Nat) (x6b : Option Addr) (x6n : Nat) (x6c : Nat) (x7 : Int) (Kn : T5) (Ke0 : T5) (Kr : T0) (h : H) : Prop := ∃ N, n9_L Kn Ke0 Kr N x0b x0n x0c x3 x5b x5n x5c x6b x6n x6c x7 h
theorem n9_ok (x0b : Option Addr) (x0n : Nat) (x0c : Nat) (x3 : Addr) (x5b : Option Addr) (x5n : Nat) (x5c : Nat) (x6b : Option Addr) (x6n : Nat) (x6c : Nat) (x7 : Int) (Kn : T5) (Ke0 : T5) (Kr : T0) (g : Env) (hg : E6 g x0b x0n x0c x3 x5b x5n x5c x6b x6n x6c x7) (h : H) (hS : n9 x0b x0n x0c x3 x5b x5n x5c x6b x6n x6c x7 Kn Ke0 Kr h) : wpC none Try.prog 56 n8_c1 (Q2 Kn Ke0 Kr) g h := by
  obtain ⟨N0, hS⟩ := hS
  refine wpC_loop' (x := n9_c1) (by kernel_rfl) (fun k g h => ∃ (x0b : Option Addr) (x0n : Nat) (x0c : Nat) (x3 : Addr) (x5b : Option Addr) (x5n : Nat) (x5c : Nat) (x6b : Option Addr) (x6n : Nat) (x6c : Nat) (x7 : Int), E6 g x0b x0n x0c x3 x5b x5n x5c x6b x6n x6c x7 ∧ n9_L Kn Ke0 Kr k x0b x0n x0c x3 x5b x5n x5c x6b x6n x6c x7 h) (fun g h hr => ?_) (fun N g h hr => ?_) N0 ⟨x0b, x0n, x0c, x3, x5b, x5n, x5c, x6b, x6n, x6c, x7, hg, hS⟩
  · obtain ⟨x0b, x0n, x0c, x3, x5b, x5n, x5c, x6b, x6n, x6c, x7, hg, hS⟩ := hr
    exact hS.elim
  · obtain ⟨x0b, x0n, x0c, x3, x5b, x5n, x5c, x6b, x6n, x6c, x7, hg, hS⟩ := hr
    have hw : wpC none Try.prog 56 n9_c1 (Q3 (fun z0b z0n z0c z3 z5b z5n z5c z6b z6n z6c z7 h => n9_L Kn Ke0 Kr N z0b z0n z0c z3 z5b z5n z5c z6b z6n z6c z7 h) Ke0 Kr) g h := by
      obtain ⟨hg0, hg3, hg5, hg6, hg7, hds⟩ := hg
      refine wpC_of_wpx (by kernel_rfl) (by kernel_rfl) (g' := (((((⟨g.v, []⟩ : Env).upd (some 0) (.slice x0b x0n x0c)).upd (some 3) (.pointer (some x3))).upd (some 5) (.slice x5b x5n x5c)).upd (some 6) (.slice x6b x6n x6c)).upd (some 7) (.int .i64 x7)) (by rw [env_ds hds, upd_self hg0, upd_self hg3, upd_self hg5, upd_self hg6, upd_self hg7]) ?_
      have e : (n9_L Kn Ke0 Kr (N + 1) x0b x0n x0c x3 x5b x5n x5c x6b x6n x6c x7 h) = wpx none Try.prog 56 n9_c1 (Q3 (fun z0b z0n z0c z3 z5b z5n z5c z6b z6n z6c z7 h => n9_L Kn Ke0 Kr N z0b z0n z0c z3 z5b z5n z5c z6b z6n z6c z7 h) Ke0 Kr) ((((((⟨g.v, []⟩ : Env).upd (some 0) (.slice x0b x0n x0c)).upd (some 3) (.pointer (some x3))).upd (some 5) (.slice x5b x5n x5c)).upd (some 6) (.slice x6b x6n x6c)).upd (some 7) (.int .i64 x7)) h := by kernel_rfl
      exact e ▸ hS
    refine hw.mono ?_
    intro e g' h' hq
    cases e with
    | normal => exact D6_ok (K := (fun z0b z0n z0c z3 z5b z5n z5c z6b z6n z6c z7 h => n9_L Kn Ke0 Kr N z0b z0n z0c z3 z5b z5n z5c z6b z6n z6c z7 h)) hq
    | _ => exact hq
abbrev n8 (x0b : Option Addr) (x0n : Nat) (x0c : Nat) (x3 : Addr) (x5b : Option Addr) (x5n : Nat) (x5c : Nat) (x6b : Option Addr) (x6n : Nat) (x6c : Nat) (x7 : Int) (Kn : T5) (Kr : T0) (h : H) : Prop := n9 x0b x0n x0c x3 x5b x5n x5c x6b x6n x6c x7 Kn Kn Kr h
theorem n8_ok (x0b : Option Addr) (x0n : Nat) (x0c : Nat) (x3 : Addr) (x5b : Option Addr) (x5n : Nat) (x5c : Nat) (x6b : Option Addr) (x6n : Nat) (x6c : Nat) (x7 : Int) (Kn : T5) (Kr : T0) (g : Env) (hg : E6 g x0b x0n x0c x3 x5b x5n x5c x6b x6n x6c x7) (h : H) (hS : n8 x0b x0n x0c x3 x5b x5n x5c x6b x6n x6c x7 Kn Kr h) : wpC none Try.prog 56 n7_c2 (Q1 Kn Kr) g h := by
  refine wpC_block' (id := 0) (x := n8_c1) (by kernel_rfl) (n9_ok x0b x0n x0c x3 x5b x5n x5c x6b x6n x6c x7 Kn Kn Kr g hg h hS) ?_
  intro e g' h' hq
  cases e <;> exact hq
def Q4 (Kn : T6) (Kr : T0) : XPost
  | .normal, g, h => D6 Kn g h
  | .ret, g, h => D0 Kr g h
  | _, _, _ => False
abbrev n7 (x0b : Option Addr) (x0n : Nat) (x0c : Nat) (x3 : Addr) (x5b : Option Addr) (x5n : Nat) (x5c : Nat) (x6b : Option Addr) (x6n : Nat) (x6c : Nat) (Kn : T5) (Kr : T0) (h : H) : Prop :=
  HCalls Try.prog 22 ⟨[(.slice x0b x0n x0c)]⟩ h fun v127 h128 => vInt .i64 v127 fun i129 => n8 x0b x0n x0c x3 x5b x5n x5c x6b x6n x6c i129 Kn Kr h128
theorem n7_ok (x0b : Option Addr) (x0n : Nat) (x0c : Nat) (x3 : Addr) (x5b : Option Addr) (x5n : Nat) (x5c : Nat) (x6b : Option Addr) (x6n : Nat) (x6c : Nat) (Kn : T5) (Kr : T0) (g : Env) (hg : E4 g x0b x0n x0c x3 x5b x5n x5c x6b x6n x6c) (h : H) (hS : n7 x0b x0n x0c x3 x5b x5n x5c x6b x6n x6c Kn Kr h) : wpC none Try.prog 56 n5_c1 (Q1 Kn Kr) g h := by
  obtain ⟨hg0, hg3, hg5, hg6, hds⟩ := hg
  refine wpC_seq' (x := n7_c1) (y := n7_c2) (Q' := (Q4 (fun z0b z0n z0c z3 z5b z5n z5c z6b z6n z6c z7 h => n8 z0b z0n z0c z3 z5b z5n z5c z6b z6n z6c z7 Kn Kr h) Kr)) (by kernel_rfl) ?_ ?_
  · refine wpC_of_wpx (by kernel_rfl) (by kernel_rfl) (g' := ((((⟨g.v, []⟩ : Env).upd (some 0) (.slice x0b x0n x0c)).upd (some 3) (.pointer (some x3))).upd (some 5) (.slice x5b x5n x5c)).upd (some 6) (.slice x6b x6n x6c)) (by rw [env_ds hds, upd_self hg0, upd_self hg3, upd_self hg5, upd_self hg6]) ?_
    have e : (n7 x0b x0n x0c x3 x5b x5n x5c x6b x6n x6c Kn Kr h) = wpx none Try.prog 56 n7_c1 (Q4 (fun z0b z0n z0c z3 z5b z5n z5c z6b z6n z6c z7 h => n8 z0b z0n z0c z3 z5b z5n z5c z6b z6n z6c z7 Kn Kr h) Kr) (((((⟨g.v, []⟩ : Env).upd (some 0) (.slice x0b x0n x0c)).upd (some 3) (.pointer (some x3))).upd (some 5) (.slice x5b x5n x5c)).upd (some 6) (.slice x6b x6n x6c)) h := by kernel_rfl
    exact e ▸ hS
  · intro e g' h' hq
    cases e with
    | normal =>
      have hq : D6 (fun z0b z0n z0c z3 z5b z5n z5c z6b z6n z6c z7 h => n8 z0b z0n z0c z3 z5b z5n z5c z6b z6n z6c z7 Kn Kr h) g' h' := hq
      obtain ⟨y0b, y0n, y0c, y3, y5b, y5n, y5c, y6b, y6n, y6c, y7, hg', hq⟩ := D6_ok hq
      exact n8_ok y0b y0n y0c y3 y5b y5n y5c y6b y6n y6c y7 Kn Kr g' hg' h' hq
    | _ => exact hq
abbrev n5 (x0b : Option Addr) (x0n : Nat) (x0c : Nat) (x3 : Addr) (x5b : Option Addr) (x5n : Nat) (x5c : Nat) (x6b : Option Addr) (x6n : Nat) (x6c : Nat) (Kn : T0) (Kr : T0) (h : H) : Prop := n7 x0b x0n x0c x3 x5b x5n x5c x6b x6n x6c (fun z5b z5n z5c z6b z6n z6c h => n6 z5b z5n z5c z6b z6n z6c Kn Kr h) Kr h
theorem n5_ok (x0b : Option Addr) (x0n : Nat) (x0c : Nat) (x3 : Addr) (x5b : Option Addr) (x5n : Nat) (x5c : Nat) (x6b : Option Addr) (x6n : Nat) (x6c : Nat) (Kn : T0) (Kr : T0) (g : Env) (hg : E4 g x0b x0n x0c x3 x5b x5n x5c x6b x6n x6c) (h : H) (hS : n5 x0b x0n x0c x3 x5b x5n x5c x6b x6n x6c Kn Kr h) : wpC none Try.prog 56 n4_c2 (Q0 Kn Kr) g h := by
  refine wpC_seq' (x := n5_c1) (y := n5_c2) (by kernel_rfl) (n7_ok x0b x0n x0c x3 x5b x5n x5c x6b x6n x6c (fun z5b z5n z5c z6b z6n z6c h => n6 z5b z5n z5c z6b z6n z6c Kn Kr h) Kr g hg h hS) ?_
  intro e g' h' hq
  cases e with
  | normal =>
    have hq : D5 (fun z5b z5n z5c z6b z6n z6c h => n6 z5b z5n z5c z6b z6n z6c Kn Kr h) g' h' := hq
    obtain ⟨y5b, y5n, y5c, y6b, y6n, y6c, hg', hq⟩ := D5_ok hq
    exact n6_ok y5b y5n y5c y6b y6n y6c Kn Kr g' hg' h' hq
  | _ => exact hq
def Q5 (Kn : T4) (Kr : T0) : XPost
  | .normal, g, h => D4 Kn g h
  | .ret, g, h => D0 Kr g h
  | _, _, _ => False
abbrev n4 (x0b : Option Addr) (x0n : Nat) (x0c : Nat) (x3 : Addr) (x5b : Option Addr) (x5n : Nat) (x5c : Nat) (Kn : T0) (Kr : T0) (h : H) : Prop :=
  n5 x0b x0n x0c x3 x5b x5n x5c none 0 0 Kn Kr h
theorem n4_ok (x0b : Option Addr) (x0n : Nat) (x0c : Nat) (x3 : Addr) (x5b : Option Addr) (x5n : Nat) (x5c : Nat) (Kn : T0) (Kr : T0) (g : Env) (hg : E3 g x0b x0n x0c x3 x5b x5n x5c) (h : H) (hS : n4 x0b x0n x0c x3 x5b x5n x5c Kn Kr h) : wpC none Try.prog 56 n3_c2 (Q0 Kn Kr) g h := by
  obtain ⟨hg0, hg3, hg5, hds⟩ := hg
  refine wpC_seq' (x := n4_c1) (y := n4_c2) (Q' := (Q5 (fun z0b z0n z0c z3 z5b z5n z5c z6b z6n z6c h => n5 z0b z0n z0c z3 z5b z5n z5c z6b z6n z6c Kn Kr h) Kr)) (by kernel_rfl) ?_ ?_
  · refine wpC_of_wpx (by kernel_rfl) (by kernel_rfl) (g' := (((⟨g.v, []⟩ : Env).upd (some 0) (.slice x0b x0n x0c)).upd (some 3) (.pointer (some x3))).upd (some 5) (.slice x5b x5n x5c)) (by rw [env_ds hds, upd_self hg0, upd_self hg3, upd_self hg5]) ?_
    have e : (n4 x0b x0n x0c x3 x5b x5n x5c Kn Kr h) = wpx none Try.prog 56 n4_c1 (Q5 (fun z0b z0n z0c z3 z5b z5n z5c z6b z6n z6c h => n5 z0b z0n z0c z3 z5b z5n z5c z6b z6n z6c Kn Kr h) Kr) ((((⟨g.v, []⟩ : Env).upd (some 0) (.slice x0b x0n x0c)).upd (some 3) (.pointer (some x3))).upd (some 5) (.slice x5b x5n x5c)) h := by kernel_rfl
    exact e ▸ hS
  · intro e g' h' hq
    cases e with
    | normal =>
      have hq : D4 (fun z0b z0n z0c z3 z5b z5n z5c z6b z6n z6c h => n5 z0b z0n z0c z3 z5b z5n z5c z6b z6n z6c Kn Kr h) g' h' := hq
      obtain ⟨y0b, y0n, y0c, y3, y5b, y5n, y5c, y6b, y6n, y6c, hg', hq⟩ := D4_ok hq
      exact n5_ok y0b y0n y0c y3 y5b y5n y5c y6b y6n y6c Kn Kr g' hg' h' hq
    | _ => exact hq
def Q6 (Kn : T3) (Kr : T0) : XPost
  | .normal, g, h => D3 Kn g h
  | .ret, g, h => D0 Kr g h
  | _, _, _ => False
abbrev n3 (x0b : Option Addr) (x0n : Nat) (x0c : Nat) (x3 : Addr) (x5b : Option Addr) (x5n : Nat) (x5c : Nat) (Kn : T0) (Kr : T0) (h : H) : Prop :=
  ∃ i130, cell h (x3.add 0) = some (.int .i64 i130) ∧ (Spl (i130 < (0 : Int)) (Kr x5b x5n x5c h) (n4 x0b x0n x0c x3 x5b x5n x5c Kn Kr h))
theorem n3_ok (x0b : Option Addr) (x0n : Nat) (x0c : Nat) (x3 : Addr) (x5b : Option Addr) (x5n : Nat) (x5c : Nat) (Kn : T0) (Kr : T0) (g : Env) (hg : E3 g x0b x0n x0c x3 x5b x5n x5c) (h : H) (hS : n3 x0b x0n x0c x3 x5b x5n x5c Kn Kr h) : wpC none Try.prog 56 n2_c2 (Q0 Kn Kr) g h := by
  obtain ⟨hg0, hg3, hg5, hds⟩ := hg
  refine wpC_seq' (x := n3_c1) (y := n3_c2) (Q' := (Q6 (fun z0b z0n z0c z3 z5b z5n z5c h => n4 z0b z0n z0c z3 z5b z5n z5c Kn Kr h) Kr)) (by kernel_rfl) ?_ ?_
  · refine wpC_of_wpx (by kernel_rfl) (by kernel_rfl) (g' := (((⟨g.v, []⟩ : Env).upd (some 0) (.slice x0b x0n x0c)).upd (some 3) (.pointer (some x3))).upd (some 5) (.slice x5b x5n x5c)) (by rw [env_ds hds, upd_self hg0, upd_self hg3, upd_self hg5]) ?_
    have e : (n3 x0b x0n x0c x3 x5b x5n x5c Kn Kr h) = wpx none Try.prog 56 n3_c1 (Q6 (fun z0b z0n z0c z3 z5b z5n z5c h => n4 z0b z0n z0c z3 z5b z5n z5c Kn Kr h) Kr) ((((⟨g.v, []⟩ : Env).upd (some 0) (.slice x0b x0n x0c)).upd (some 3) (.pointer (some x3))).upd (some 5) (.slice x5b x5n x5c)) h := by kernel_rfl
    exact e ▸ hS
  · intro e g' h' hq
    cases e with
    | normal =>
      have hq : D3 (fun z0b z0n z0c z3 z5b z5n z5c h => n4 z0b z0n z0c z3 z5b z5n z5c Kn Kr h) g' h' := hq
      obtain ⟨y0b, y0n, y0c, y3, y5b, y5n, y5c, hg', hq⟩ := D3_ok hq
      exact n4_ok y0b y0n y0c y3 y5b y5n y5c Kn Kr g' hg' h' hq
    | _ => exact hq
abbrev n2 (x0b : Option Addr) (x0n : Nat) (x0c : Nat) (x3 : Addr) (Kn : T0) (Kr : T0) (h : H) : Prop :=
  (0 ≤ (0 : Int) ∧ (0 : Int) ≤ (x0n : Int) ∧ (x0n : Int) ≤ (x0n : Int) ∧ (x0n : Int) ≤ (x0c : Int)) ∧ (∃ i131, cell h ((x3).add 0) = some (.int .i64 i131) ∧ (∃ s132, cell h ((x3).add 1) = some (S s132) ∧ (∃ s133b s133n s133c, cell h ((x3).add 2) = some (.slice s133b s133n s133c) ∧ (newx h #[(.int .i64 i131), (S s132), (.slice s133b s133n s133c)] 25 fun a134 h135 => SemH Try.prog (Builtin.append_ #[22, 22] 22 ⟨[(.slice (if Int.toNat (x0n : Int) = Int.toNat (0 : Int) then x0b else Option.map (fun q => q.add (Int.toNat (0 : Int) * 3)) x0b) (Int.toNat (x0n : Int) - Int.toNat (0 : Int)) (Int.toNat (x0n : Int) - Int.toNat (0 : Int))), (.slice (some a134) 1 1)]⟩) h135 fun v136 h137 => vSlice v136 fun s138b s138n s138c => n3 x0b x0n x0c x3 s138b s138n s138c Kn Kr h137))))
theorem n2_ok (x0b : Option Addr) (x0n : Nat) (x0c : Nat) (x3 : Addr) (Kn : T0) (Kr : T0) (g : Env) (hg : E2 g x0b x0n x0c x3) (h : H) (hS : n2 x0b x0n x0c x3 Kn Kr h) : wpC none Try.prog 56 n1_c2 (Q0 Kn Kr) g h := by
  obtain ⟨hg0, hg3, hds⟩ := hg
  refine wpC_seq' (x := n2_c1) (y := n2_c2) (Q' := (Q6 (fun z0b z0n z0c z3 z5b z5n z5c h => n3 z0b z0n z0c z3 z5b z5n z5c Kn Kr h) Kr)) (by kernel_rfl) ?_ ?_
  · refine wpC_of_wpx (by kernel_rfl) (by kernel_rfl) (g' := ((⟨g.v, []⟩ : Env).upd (some 0) (.slice x0b x0n x0c)).upd (some 3) (.pointer (some x3))) (by rw [env_ds hds, upd_self hg0, upd_self hg3]) ?_
    have e : (n2 x0b x0n x0c x3 Kn Kr h) = wpx none Try.prog 56 n2_c1 (Q6 (fun z0b z0n z0c z3 z5b z5n z5c h => n3 z0b z0n z0c z3 z5b z5n z5c Kn Kr h) Kr) (((⟨g.v, []⟩ : Env).upd (some 0) (.slice x0b x0n x0c)).upd (some 3) (.pointer (some x3))) h := by kernel_rfl
    exact e ▸ hS
  · intro e g' h' hq
    cases e with
    | normal =>
      have hq : D3 (fun z0b z0n z0c z3 z5b z5n z5c h => n3 z0b z0n z0c z3 z5b z5n z5c Kn Kr h) g' h' := hq
      obtain ⟨y0b, y0n, y0c, y3, y5b, y5n, y5c, hg', hq⟩ := D3_ok hq
      exact n3_ok y0b y0n y0c y3 y5b y5n y5c Kn Kr g' hg' h' hq
    | _ => exact hq
def Q7 (Kn : T2) (Kr : T0) : XPost
  | .normal, g, h => D2 Kn g h
  | .ret, g, h => D0 Kr g h
  | _, _, _ => False
abbrev n1 (x0b : Option Addr) (x0n : Nat) (x0c : Nat) (x1_0 : Int) (x1_1 : List UInt8) (x1_2b : Option Addr) (x1_2n : Nat) (x1_2c : Nat) (Kn : T0) (Kr : T0) (h : H) : Prop :=
  newx h ⟨[(.int .i64 x1_0), (S x1_1), (.slice x1_2b x1_2n x1_2c)]⟩ 25 fun a139 h140 => n2 x0b x0n x0c a139 Kn Kr h140
theorem n1_ok (x0b : Option Addr) (x0n : Nat) (x0c : Nat) (x1_0 : Int) (x1_1 : List UInt8) (x1_2b : Option Addr) (x1_2n : Nat) (x1_2c : Nat) (Kn : T0) (Kr : T0) (g : Env) (hg : E1 g x0b x0n x0c x1_0 x1_1 x1_2b x1_2n x1_2c) (h : H) (hS : n1 x0b x0n x0c x1_0 x1_1 x1_2b x1_2n x1_2c Kn Kr h) : wpC none Try.prog 56 code (Q0 Kn Kr) g h := by
  obtain ⟨hg0, hg1, hds⟩ := hg
  refine wpC_seq' (x := n1_c1) (y := n1_c2) (Q' := (Q7 (fun z0b z0n z0c z3 h => n2 z0b z0n z0c z3 Kn Kr h) Kr)) (by kernel_rfl) ?_ ?_
  · refine wpC_of_wpx (by kernel_rfl) (by kernel_rfl) (g' := ((⟨g.v, []⟩ : Env).upd (some 0) (.slice x0b x0n x0c)).upd (some 1) (.agg ⟨[(.int .i64 x1_0), (S x1_1), (.slice x1_2b x1_2n x1_2c)]⟩)) (by rw [env_ds hds, upd_self hg0, upd_self hg1]) ?_
    have e : (n1 x0b x0n x0c x1_0 x1_1 x1_2b x1_2n x1_2c Kn Kr h) = wpx none Try.prog 56 n1_c1 (Q7 (fun z0b z0n z0c z3 h => n2 z0b z0n z0c z3 Kn Kr h) Kr) (((⟨g.v, []⟩ : Env).upd (some 0) (.slice x0b x0n x0c)).upd (some 1) (.agg ⟨[(.int .i64 x1_0), (S x1_1), (.slice x1_2b x1_2n x1_2c)]⟩)) h := by kernel_rfl
    exact e ▸ hS
  · intro e g' h' hq
    cases e with
    | normal =>
      have hq : D2 (fun z0b z0n z0c z3 h => n2 z0b z0n z0c z3 Kn Kr h) g' h' := hq
      obtain ⟨y0b, y0n, y0c, y3, hg', hq⟩ := D2_ok hq
      exact n2_ok y0b y0n y0c y3 Kn Kr g' hg' h' hq
    | _ => exact hq
/-- WHAT tympan/marks.Push ASKS -/
abbrev asks (x0b : Option Addr) (x0n : Nat) (x0c : Nat) (x1_0 : Int) (x1_1 : List UInt8) (x1_2b : Option Addr) (x1_2n : Nat) (x1_2c : Nat) (K : Value → H → Prop) (h : H) : Prop := n1 x0b x0n x0c x1_0 x1_1 x1_2b x1_2n x1_2c (fun y4b y4n y4c h => K (.slice y4b y4n y4c) h) (fun y4b y4n y4c h => K (.slice y4b y4n y4c) h) h
theorem ok (x0b : Option Addr) (x0n : Nat) (x0c : Nat) (x1_0 : Int) (x1_1 : List UInt8) (x1_2b : Option Addr) (x1_2n : Nat) (x1_2c : Nat) (K : Value → H → Prop) (h : H) (hS : asks x0b x0n x0c x1_0 x1_1 x1_2b x1_2n x1_2c K h) : HCalls Try.prog 9 ⟨[(.slice x0b x0n x0c), (.agg ⟨[(.int .i64 x1_0), (S x1_1), (.slice x1_2b x1_2n x1_2c)]⟩)]⟩ h K := by
  refine calls_of_wpC (c := code) Try.func9 (by kernel_rfl) (Nat.le_of_ble_eq_true (by kernel_rfl)) ?_
  refine (n1_ok x0b x0n x0c x1_0 x1_1 x1_2b x1_2n x1_2c (fun y4b y4n y4c h => K (.slice y4b y4n y4c) h) (fun y4b y4n y4c h => K (.slice y4b y4n y4c) h) (env0 [(.slice x0b x0n x0c), (.agg ⟨[(.int .i64 x1_0), (S x1_1), (.slice x1_2b x1_2n x1_2c)]⟩)]) ⟨rfl, rfl, rfl⟩ h hS).mono ?_
  intro e g' h' hq
  cases e with
  | normal =>
    have hq : D0 (fun y4b y4n y4c h => K (.slice y4b y4n y4c) h) g' h' := hq
    obtain ⟨y4b, y4n, y4c, ⟨hg4, hd⟩, hq⟩ := D0_ok hq
    show leaveX g'.ds h' _
    rw [hd]
    show K (g'.v 4) h'
    rw [hg4]
    exact hq
  | ret =>
    have hq : D0 (fun y4b y4n y4c h => K (.slice y4b y4n y4c) h) g' h' := hq
    obtain ⟨y4b, y4n, y4c, ⟨hg4, hd⟩, hq⟩ := D0_ok hq
    show leaveX g'.ds h' _
    rw [hd]
    show K (g'.v 4) h'
    rw [hg4]
    exact hq
  | _ => exact hq
end Sx.marks_Push

/-! ### tympan/tympanref00.SameMarks -/
namespace Sx.r00_SameMarks
noncomputable def code : Code := bodyOf Try.f10
abbrev T0 := Bool → H → Prop
def E0 (g : Env) (x4 : Bool) : Prop := g.v 4 = (.bool x4) ∧ g.ds = []
def D0 (K : T0) (g : Env) (h : H) : Prop := nilDs g.ds (vBool (g.v 4) fun b1 => K b1 h)
theorem D0_ok {K : T0} {g : Env} {h : H} (hq : D0 K g h) : ∃ (x4 : Bool), E0 g x4 ∧ K x4 h := by
  obtain ⟨hd, hq⟩ := nilDs_ok hq
  obtain ⟨y3, e2, q4⟩ := vBool_ok hq
  exact ⟨y3, ⟨e2, hd⟩, q4⟩
def Q0 (Kn : T0) (Kr : T0) : XPost
  | .normal, g, h => D0 Kn g h
  | .ret, g, h => D0 Kr g h
  | _, _, _ => False
abbrev T1 := (Option Addr) → Nat → Nat → (Option Addr) → Nat → Nat → H → Prop
def E1 (g : Env) (x0b : Option Addr) (x0n : Nat) (x0c : Nat) (x1b : Option Addr) (x1n : Nat) (x1c : Nat) : Prop := g.v 0 = (.slice x0b x0n x0c) ∧ g.v 1 = (.slice x1b x1n x1c) ∧ g.ds = []
def D1 (K : T1) (g : Env) (h : H) : Prop := nilDs g.ds (vSlice (g.v 0) fun s5b s5n s5c => vSlice (g.v 1) fun s6b s6n s6c => K s5b s5n s5c s6b s6n s6c h)
theorem D1_ok {K : T1} {g : Env} {h : H} (hq : D1 K g h) : ∃ (x0b : Option Addr) (x0n : Nat) (x0c : Nat) (x1b : Option Addr) (x1n : Nat) (x1c : Nat), E1 g x0b x0n x0c x1b x1n x1c ∧ K x0b x0n x0c x1b x1n x1c h := by
  obtain ⟨hd, hq⟩ := nilDs_ok hq
  obtain ⟨y8b, y8n, y8c, e7, q9⟩ := vSlice_ok hq
  obtain ⟨y11b, y11n, y11c, e10, q12⟩ := vSlice_ok q9
  exact ⟨y8b, y8n, y8c, y11b, y11n, y11c, ⟨e7, e10, hd⟩, q12⟩
noncomputable def n1_c1 : Code := cFst code
noncomputable def n1_c2 : Code := cSnd code
noncomputable def n2_c1 : Code := cFst n1_c2
noncomputable def n2_c2 : Code := cSnd n1_c2
noncomputable def n3_c1 : Code := cFst n2_c2
noncomputable def n3_c2 : Code := cSnd n2_c2
abbrev T2 := H → Prop
def E2 (g : Env)  : Prop := g.ds = []
def D2 (K : T2) (g : Env) (h : H) : Prop := nilDs g.ds (K h)
theorem D2_ok {K : T2} {g : Env} {h : H} (hq : D2 K g h) : E2 g  ∧ K  h := by
  obtain ⟨hd, hq⟩ := nilDs_ok hq
  skip
  exact ⟨hd, hq⟩
abbrev n4  (Kn : T0) (Kr : T0) (h : H) : Prop :=
  Kr true h
theorem n4_ok  (Kn : T0) (Kr : T0) (g : Env) (hg : E2 g ) (h : H) (hS : n4  Kn Kr h) : wpC none Try.prog 55 n3_c2 (Q0 Kn Kr) g h := by
  have hds : g.ds = [] := hg
  refine wpC_of_wpx (by kernel_rfl) (by kernel_rfl) (g' := ⟨g.v, []⟩) (by rw [env_ds hds]) ?_
  have e : (n4  Kn Kr h) = wpx none Try.prog 55 n3_c2 (Q0 Kn Kr) (⟨g.v, []⟩) h := by kernel_rfl
  exact e ▸ hS
def Q1 (Kn : T2) (Kr : T0) : XPost
  | .normal, g, h => D2 Kn g h
  | .ret, g, h => D0 Kr g h
  | _, _, _ => False
noncomputable def n5_c1 : Code := cFst n3_c1
noncomputable def n5_c2 : Code := cSnd n3_c1
abbrev T3 := (Option Addr) → Nat → Nat → (Option Addr) → Nat → Nat → Int → H → Prop
def E3 (g : Env) (x0b : Option Addr) (x0n : Nat) (x0c : Nat) (x1b : Option Addr) (x1n : Nat) (x1c : Nat) (x5 : Int) : Prop := g.v 0 = (.slice x0b x0n x0c) ∧ g.v 1 = (.slice x1b x1n x1c) ∧ g.v 5 = (.int .i64 x5) ∧ g.ds = []
def D3 (K : T3) (g : Env) (h : H) : Prop := nilDs g.ds (vSlice (g.v 0) fun s13b s13n s13c => vSlice (g.v 1) fun s14b s14n s14c => vInt .i64 (g.v 5) fun i15 => K s13b s13n s13c s14b s14n s14c i15 h)
theorem D3_ok {K : T3} {g : Env} {h : H} (hq : D3 K g h) : ∃ (x0b : Option Addr) (x0n : Nat) (x0c : Nat) (x1b : Option Addr) (x1n : Nat) (x1c : Nat) (x5 : Int), E3 g x0b x0n x0c x1b x1n x1c x5 ∧ K x0b x0n x0c x1b x1n x1c x5 h := by
  obtain ⟨hd, hq⟩ := nilDs_ok hq
  obtain ⟨y17b, y17n, y17c, e16, q18⟩ := vSlice_ok hq
  obtain ⟨y20b, y20n, y20c, e19, q21⟩ := vSlice_ok q18
  obtain ⟨y23, e22, q24⟩ := vInt_ok q21
  exact ⟨y17b, y17n, y17c, y20b, y20n, y20c, y23, ⟨e16, e19, e22, hd⟩, q24⟩
noncomputable def n6_c1 : Code := cFst n5_c2
def Q2 (Kn : T2) (Ke0 : T2) (Kr : T0) : XPost
  | .normal, g, h => D2 Kn g h
  | .ret, g, h => D0 Kr g h
  | .exit id, g, h => cond (Nat.beq id 0) (D2 Ke0 g h) (False)
  | _, _, _ => False
noncomputable def n7_c1 : Code := cFst n6_c1
def Q3 (Kn : T3) (Ke0 : T2) (Kr : T0) : XPost
  | .normal, g, h => D3 Kn g h
  | .ret, g, h => D0 Kr g h
  | .exit id, g, h => cond (Nat.beq id 0) (D2 Ke0 g h) (False)
  | _, _, _ => False
def n7_L (Kn : T2) (Ke0 : T2) (Kr : T0) : Nat → (Option Addr) → Nat → Nat → (Option Addr) → Nat → Nat → Int → H → Prop
  | 0, _, _, _, _, _, _, _, _ => False
  | N + 1, x0b, x0n, x0c, x1b, x1n, x1c, x5, h => Spl (x5 < (x0n : Int)) ((0 ≤ x5 ∧ x5 < (x0n : Int)) ∧ (vSome x0b fun a25 => ∃ i26, cell h ((a25.add (Int.toNat x5 * 3)).add 0) = some (.int .i64 i26) ∧ ((0 ≤ x5 ∧ x5 < (x1n : Int)) ∧ (vSome x1b fun a27 => ∃ i28, cell h ((a27.add (Int.toNat x5 * 3)).add 0) = some (.int .i64 i28) ∧ (Spl (i26 = i28) ((0 ≤ x5 ∧ x5 < (x0n : Int)) ∧ (vSome x0b fun a29 => ∃ s30, cell h ((a29.add (Int.toNat x5 * 3)).add 1) = some (S s30) ∧ ((0 ≤ x5 ∧ x5 < (x1n : Int)) ∧ (vSome x1b fun a31 => ∃ s32, cell h ((a31.add (Int.toNat x5 * 3)).add 1) = some (S s32) ∧ (Spl (s30 = s32) ((0 ≤ x5 ∧ x5 < (x0n : Int)) ∧ (vSome x0b fun a33 => ∃ s34b s34n s34c, cell h ((a33.add (Int.toNat x5 * 3)).add 2) = some (.slice s34b s34n s34c) ∧ ((0 ≤ x5 ∧ x5 < (x1n : Int)) ∧ (vSome x1b fun a35 => ∃ s36b s36n s36c, cell h ((a35.add (Int.toNat x5 * 3)).add 2) = some (.slice s36b s36n s36c) ∧ (HCalls Try.prog 25 ⟨[(.slice s34b s34n s34c), (.slice s36b s36n s36c)]⟩ h fun v37 h38 => vBool v37 fun b39 => cond b39 (Rng .i64 (x5 + (1 : Int)) ∧ (n7_L Kn Ke0 Kr N x0b x0n x0c x1b x1n x1c (x5 + (1 : Int)) h38)) (Kr false h38)))))) (Kr false h)))))) (Kr false h)))))) (Ke0 h)
abbrev n7 (x0b : Option Addr) (x0n : Nat) (x0c : Nat) (x1b : Option Addr) (x1n : Nat) (x1c : Nat) (x5 : Int) (Kn : T2) (Ke0 : T2) (Kr : T0) (h : H) : Prop := ∃ N, n7_L Kn Ke0 Kr N x0b x0n x0c x1b x1n x1c x5 h
theorem n7_ok (x0b : Option Addr) (x0n : Nat) (x0c : Nat) (x1b : Option Addr) (x1n : Nat) (x1c : Nat) (x5 : Int) (Kn : T2) (Ke0 : T2) (Kr : T0) (g : Env) (hg : E3 g x0b x0n x0c x1b x1n x1c x5) (h : H) (hS : n7 x0b x0n x0c x1b x1n x1c x5 Kn Ke0 Kr h) : wpC none Try.prog 55 n6_c1 (Q2 Kn Ke0 Kr) g h := by
  obtain ⟨N0, hS⟩ := hS
  refine wpC_loop' (x := n7_c1) (by kernel_rfl) (fun k g h => ∃ (x0b : Option Addr) (x0n : Nat) (x0c : Nat) (x1b : Option Addr) (x1n : Nat) (x1c : Nat) (x5 : Int), E3 g x0b x0n x0c x1b x1n x1c x5 ∧ n7_L Kn Ke0 Kr k x0b x0n x0c x1b x1n x1c x5 h) (fun g h hr => ?_) (fun N g h hr => ?_) N0 ⟨x0b, x0n, x0c, x1b, x1n, x1c, x5, hg, hS⟩
  · obtain ⟨x0b, x0n, x0c, x1b, x1n, x1c, x5, hg, hS⟩ := hr
    exact hS.elim
  · obtain ⟨x0b, x0n, x0c, x1b, x1n, x1c, x5, hg, hS⟩ := hr
    have hw : wpC none Try.prog 55 n7_c1 (Q3 (fun z0b z0n z0c z1b z1n z1c z5 h => n7_L Kn Ke0 Kr N z0b z0n z0c z1b z1n z1c z5 h) Ke0 Kr) g h := by
      obtain ⟨hg0, hg1, hg5, hds⟩ := hg
      refine wpC_of_wpx (by kernel_rfl) (by kernel_rfl) (g' := (((⟨g.v, []⟩ : Env).upd (some 0) (.slice x0b x0n x0c)).upd (some 1) (.slice x1b x1n x1c)).upd (some 5) (.int .i64 x5)) (by rw [env_ds hds, upd_self hg0, upd_self hg1, upd_self hg5]) ?_
      have e : (n7_L Kn Ke0 Kr (N + 1) x0b x0n x0c x1b x1n x1c x5 h) = wpx none Try.prog 55 n7_c1 (Q3 (fun z0b z0n z0c z1b z1n z1c z5 h => n7_L Kn Ke0 Kr N z0b z0n z0c z1b z1n z1c z5 h) Ke0 Kr) ((((⟨g.v, []⟩ : Env).upd (some 0) (.slice x0b x0n x0c)).upd (some 1) (.slice x1b x1n x1c)).upd (some 5) (.int .i64 x5)) h := by kernel_rfl
      exact e ▸ hS
    refine hw.mono ?_
    intro e g' h' hq
    cases e with
    | normal => exact D3_ok (K := (fun z0b z0n z0c z1b z1n z1c z5 h => n7_L Kn Ke0 Kr N z0b z0n z0c z1b z1n z1c z5 h)) hq
    | _ => exact hq
abbrev n6 (x0b : Option Addr) (x0n : Nat) (x0c : Nat) (x1b : Option Addr) (x1n : Nat) (x1c : Nat) (x5 : Int) (Kn : T2) (Kr : T0) (h : H) : Prop := n7 x0b x0n x0c x1b x1n x1c x5 Kn Kn Kr h
theorem n6_ok (x0b : Option Addr) (x0n : Nat) (x0c : Nat) (x1b : Option Addr) (x1n : Nat) (x1c : Nat) (x5 : Int) (Kn : T2) (Kr : T0) (g : Env) (hg : E3 g x0b x0n x0c x1b x1n x1c x5) (h : H) (hS : n6 x0b x0n x0c x1b x1n x1c x5 Kn Kr h) : wpC none Try.prog 55 n5_c2 (Q1 Kn Kr) g h := by
  refine wpC_block' (id := 0) (x := n6_c1) (by kernel_rfl) (n7_ok x0b x0n x0c x1b x1n x1c x5 Kn Kn Kr g hg h hS) ?_
  intro e g' h' hq
  cases e <;> exact hq
def Q4 (Kn : T3) (Kr : T0) : XPost
  | .normal, g, h => D3 Kn g h
  | .ret, g, h => D0 Kr g h
  | _, _, _ => False
abbrev n5 (x0b : Option Addr) (x0n : Nat) (x0c : Nat) (x1b : Option Addr) (x1n : Nat) (x1c : Nat) (Kn : T2) (Kr : T0) (h : H) : Prop :=
  n6 x0b x0n x0c x1b x1n x1c (0 : Int) Kn Kr h
theorem n5_ok (x0b : Option Addr) (x0n : Nat) (x0c : Nat) (x1b : Option Addr) (x1n : Nat) (x1c : Nat) (Kn : T2) (Kr : T0) (g : Env) (hg : E1 g x0b x0n x0c x1b x1n x1c) (h : H) (hS : n5 x0b x0n x0c x1b x1n x1c Kn Kr h) : wpC none Try.prog 55 n3_c1 (Q1 Kn Kr) g h := by
  obtain ⟨hg0, hg1, hds⟩ := hg
  refine wpC_seq' (x := n5_c1) (y := n5_c2) (Q' := (Q4 (fun z0b z0n z0c z1b z1n z1c z5 h => n6 z0b z0n z0c z1b z1n z1c z5 Kn Kr h) Kr)) (by kernel_rfl) ?_ ?_
  · refine wpC_of_wpx (by kernel_rfl) (by kernel_rfl) (g' := ((⟨g.v, []⟩ : Env).upd (some 0) (.slice x0b x0n x0c)).upd (some 1) (.slice x1b x1n x1c)) (by rw [env_ds hds, upd_self hg0, upd_self hg1]) ?_
    have e : (n5 x0b x0n x0c x1b x1n x1c Kn Kr h) = wpx none Try.prog 55 n5_c1 (Q4 (fun z0b z0n z0c z1b z1n z1c z5 h => n6 z0b z0n z0c z1b z1n z1c z5 Kn Kr h) Kr) (((⟨g.v, []⟩ : Env).upd (some 0) (.slice x0b x0n x0c)).upd (some 1) (.slice x1b x1n x1c)) h := by kernel_rfl
    exact e ▸ hS
  · intro e g' h' hq
    cases e with
    | normal =>
      have hq : D3 (fun z0b z0n z0c z1b z1n z1c z5 h => n6 z0b z0n z0c z1b z1n z1c z5 Kn Kr h) g' h' := hq
      obtain ⟨y0b, y0n, y0c, y1b, y1n, y1c, y5, hg', hq⟩ := D3_ok hq
      exact n6_ok y0b y0n y0c y1b y1n y1c y5 Kn Kr g' hg' h' hq
    | _ => exact hq
abbrev n3 (x0b : Option Addr) (x0n : Nat) (x0c : Nat) (x1b : Option Addr) (x1n : Nat) (x1c : Nat) (Kn : T0) (Kr : T0) (h : H) : Prop := n5 x0b x0n x0c x1b x1n x1c (fun  h => n4 Kn Kr h) Kr h
theorem n3_ok (x0b : Option Addr) (x0n : Nat) (x0c : Nat) (x1b : Option Addr) (x1n : Nat) (x1c : Nat) (Kn : T0) (Kr : T0) (g : Env) (hg : E1 g x0b x0n x0c x1b x1n x1c) (h : H) (hS : n3 x0b x0n x0c x1b x1n x1c Kn Kr h) : wpC none Try.prog 55 n2_c2 (Q0 Kn Kr) g h := by
  refine wpC_seq' (x := n3_c1) (y := n3_c2) (by kernel_rfl) (n5_ok x0b x0n x0c x1b x1n x1c (fun  h => n4 Kn Kr h) Kr g hg h hS) ?_
  intro e g' h' hq
  cases e with
  | normal =>
    have hq : D2 (fun  h => n4 Kn Kr h) g' h' := hq
    obtain ⟨hg', hq⟩ := D2_ok hq
    exact n4_ok  Kn Kr g' hg' h' hq
  | _ => exact hq
def Q5 (Kn : T1) (Kr : T0) : XPost
  | .normal, g, h => D1 Kn g h
  | .ret, g, h => D0 Kr g h
  | _, _, _ => False
abbrev n2 (x0b : Option Addr) (x0n : Nat) (x0c : Nat) (x1b : Option Addr) (x1n : Nat) (x1c : Nat) (Kn : T0) (Kr : T0) (h : H) : Prop :=
  Spl ((x0n : Int) = (x1n : Int)) (n3 x0b x0n x0c x1b x1n x1c Kn Kr h) (Kr false h)
theorem n2_ok (x0b : Option Addr) (x0n : Nat) (x0c : Nat) (x1b : Option Addr) (x1n : Nat) (x1c : Nat) (Kn : T0) (Kr : T0) (g : Env) (hg : E1 g x0b x0n x0c x1b x1n x1c) (h : H) (hS : n2 x0b x0n x0c x1b x1n x1c Kn Kr h) : wpC none Try.prog 55 n1_c2 (Q0 Kn Kr) g h := by
  obtain ⟨hg0, hg1, hds⟩ := hg
  refine wpC_seq' (x := n2_c1) (y := n2_c2) (Q' := (Q5 (fun z0b z0n z0c z1b z1n z1c h => n3 z0b z0n z0c z1b z1n z1c Kn Kr h) Kr)) (by kernel_rfl) ?_ ?_
  · refine wpC_of_wpx (by kernel_rfl) (by kernel_rfl) (g' := ((⟨g.v, []⟩ : Env).upd (some 0) (.slice x0b x0n x0c)).upd (some 1) (.slice x1b x1n x1c)) (by rw [env_ds hds, upd_self hg0, upd_self hg1]) ?_
    have e : (n2 x0b x0n x0c x1b x1n x1c Kn Kr h) = wpx none Try.prog 55 n2_c1 (Q5 (fun z0b z0n z0c z1b z1n z1c h => n3 z0b z0n z0c z1b z1n z1c Kn Kr h) Kr) (((⟨g.v, []⟩ : Env).upd (some 0) (.slice x0b x0n x0c)).upd (some 1) (.slice x1b x1n x1c)) h := by kernel_rfl
    exact e ▸ hS
  · intro e g' h' hq
    cases e with
    | normal =>
      have hq : D1 (fun z0b z0n z0c z1b z1n z1c h => n3 z0b z0n z0c z1b z1n z1c Kn Kr h) g' h' := hq
      obtain ⟨y0b, y0n, y0c, y1b, y1n, y1c, hg', hq⟩ := D1_ok hq
      exact n3_ok y0b y0n y0c y1b y1n y1c Kn Kr g' hg' h' hq
    | _ => exact hq
abbrev n1 (x0b : Option Addr) (x0n : Nat) (x0c : Nat) (x1b : Option Addr) (x1n : Nat) (x1c : Nat) (Kn : T0) (Kr : T0) (h : H) : Prop :=
  n2 x0b x0n x0c x1b x1n x1c Kn Kr h
theorem n1_ok (x0b : Option Addr) (x0n : Nat) (x0c : Nat) (x1b : Option Addr) (x1n : Nat) (x1c : Nat) (Kn : T0) (Kr : T0) (g : Env) (hg : E1 g x0b x0n x0c x1b x1n x1c) (h : H) (hS : n1 x0b x0n x0c x1b x1n x1c Kn Kr h) : wpC none Try.prog 55 code (Q0 Kn Kr) g h := by
  obtain ⟨hg0, hg1, hds⟩ := hg
  refine wpC_seq' (x := n1_c1) (y := n1_c2) (Q' := (Q5 (fun z0b z0n z0c z1b z1n z1c h => n2 z0b z0n z0c z1b z1n z1c Kn Kr h) Kr)) (by kernel_rfl) ?_ ?_
  · refine wpC_of_wpx (by kernel_rfl) (by kernel_rfl) (g' := ((⟨g.v, []⟩ : Env).upd (some 0) (.slice x0b x0n x0c)).upd (some 1) (.slice x1b x1n x1c)) (by rw [env_ds hds, upd_self hg0, upd_self hg1]) ?_
    have e : (n1 x0b x0n x0c x1b x1n x1c Kn Kr h) = wpx none Try.prog 55 n1_c1 (Q5 (fun z0b z0n z0c z1b z1n z1c h => n2 z0b z0n z0c z1b z1n z1c Kn Kr h) Kr) (((⟨g.v, []⟩ : Env).upd (some 0) (.slice x0b x0n x0c)).upd (some 1) (.slice x1b x1n x1c)) h := by kernel_rfl
    exact e ▸ hS
  · intro e g' h' hq
    cases e with
    | normal =>
      have hq : D1 (fun z0b z0n z0c z1b z1n z1c h => n2 z0b z0n z0c z1b z1n z1c Kn Kr h) g' h' := hq
      obtain ⟨y0b, y0n, y0c, y1b, y1n, y1c, hg', hq⟩ := D1_ok hq
      exact n2_ok y0b y0n y0c y1b y1n y1c Kn Kr g' hg' h' hq
    | _ => exact hq
/-- WHAT tympan/tympanref00.SameMarks ASKS -/
abbrev asks (x0b : Option Addr) (x0n : Nat) (x0c : Nat) (x1b : Option Addr) (x1n : Nat) (x1c : Nat) (K : Value → H → Prop) (h : H) : Prop := n1 x0b x0n x0c x1b x1n x1c (fun y4 h => K (.bool y4) h) (fun y4 h => K (.bool y4) h) h
theorem ok (x0b : Option Addr) (x0n : Nat) (x0c : Nat) (x1b : Option Addr) (x1n : Nat) (x1c : Nat) (K : Value → H → Prop) (h : H) (hS : asks x0b x0n x0c x1b x1n x1c K h) : HCalls Try.prog 10 ⟨[(.slice x0b x0n x0c), (.slice x1b x1n x1c)]⟩ h K := by
  refine calls_of_wpC (c := code) Try.func10 (by kernel_rfl) (Nat.le_of_ble_eq_true (by kernel_rfl)) ?_
  refine (n1_ok x0b x0n x0c x1b x1n x1c (fun y4 h => K (.bool y4) h) (fun y4 h => K (.bool y4) h) (env0 [(.slice x0b x0n x0c), (.slice x1b x1n x1c)]) ⟨rfl, rfl, rfl⟩ h hS).mono ?_
  intro e g' h' hq
  cases e with
  | normal =>
    have hq : D0 (fun y4 h => K (.bool y4) h) g' h' := hq
    obtain ⟨y4, ⟨hg4, hd⟩, hq⟩ := D0_ok hq
    show leaveX g'.ds h' _
    rw [hd]
    show K (g'.v 4) h'
    rw [hg4]
    exact hq
  | ret =>
    have hq : D0 (fun y4 h => K (.bool y4) h) g' h' := hq
    obtain ⟨y4, ⟨hg4, hd⟩, hq⟩ := D0_ok hq
    show leaveX g'.ds h' _
    rw [hd]
    show K (g'.v 4) h'
    rw [hg4]
    exact hq
  | _ => exact hq
end Sx.r00_SameMarks

/-! ### tympan/tympanref12.Push -/
namespace Sx.r12_Push
noncomputable def code : Code := bodyOf Try.f11
abbrev T0 := (Option Addr) → Nat → Nat → H → Prop
def E0 (g : Env) (x4b : Option Addr) (x4n : Nat) (x4c : Nat) : Prop := g.v 4 = (.slice x4b x4n x4c) ∧ g.ds = []
def D0 (K : T0) (g : Env) (h : H) : Prop := nilDs g.ds (vSlice (g.v 4) fun s1b s1n s1c => K s1b s1n s1c h)
theorem D0_ok {K : T0} {g : Env} {h : H} (hq : D0 K g h) : ∃ (x4b : Option Addr) (x4n : Nat) (x4c : Nat), E0 g x4b x4n x4c ∧ K x4b x4n x4c h := by
  obtain ⟨hd, hq⟩ := nilDs_ok hq
  obtain ⟨y3b, y3n, y3c, e2, q4⟩ := vSlice_ok hq
  exact ⟨y3b, y3n, y3c, ⟨e2, hd⟩, q4⟩
def Q0 (Kn : T0) (Kr : T0) : XPost
  | .normal, g, h => D0 Kn g h
  | .ret, g, h => D0 Kr g h
  | _, _, _ => False
abbrev T1 := (Option Addr) → Nat → Nat → Int → (List UInt8) → (Option Addr) → Nat → Nat → H → Prop
def E1 (g : Env) (x0b : Option Addr) (x0n : Nat) (x0c : Nat) (x1_0 : Int) (x1_1 : List UInt8) (x1_2b : Option Addr) (x1_2n : Nat) (x1_2c : Nat) : Prop := g.v 0 = (.slice x0b x0n x0c) ∧ g.v 1 = (.agg ⟨[(.int .i64 x1_0), (S x1_1), (.slice x1_2b x1_2n x1_2c)]⟩) ∧ g.ds = []
def D1 (K : T1) (g : Env) (h : H) : Prop := nilDs g.ds (vSlice (g.v 0) fun s5b s5n s5c => vAgg (g.v 1) fun l6 => uncons l6 fun e7 l8 => vInt .i64 e7 fun i9 => uncons l8 fun e10 l11 => vStr e10 fun s12 => uncons l11 fun e13 l14 => vSlice e13 fun s15b s15n s15c => unnil l14 (K s5b s5n s5c i9 s12 s15b s15n s15c h))
theorem D1_ok {K : T1} {g : Env} {h : H} (hq : D1 K g h) : ∃ (x0b : Option Addr) (x0n : Nat) (x0c : Nat) (x1_0 : Int) (x1_1 : List UInt8) (x1_2b : Option Addr) (x1_2n : Nat) (x1_2c : Nat), E1 g x0b x0n x0c x1_0 x1_1 x1_2b x1_2n x1_2c ∧ K x0b x0n x0c x1_0 x1_1 x1_2b x1_2n x1_2c h := by
  obtain ⟨hd, hq⟩ := nilDs_ok hq
  obtain ⟨y17b, y17n, y17c, e16, q18⟩ := vSlice_ok hq
  obtain ⟨l20, e19, q21⟩ := vAgg_ok q18
  obtain ⟨u22, l23, rfl, q24⟩ := uncons_ok q21
  obtain ⟨y25, rfl, q26⟩ := vInt_ok q24
  obtain ⟨u27, l28, rfl, q29⟩ := uncons_ok q26
  obtain ⟨y30, rfl, q31⟩ := vStr_ok q29
  obtain ⟨u32, l33, rfl, q34⟩ := uncons_ok q31
  obtain ⟨y35b, y35n, y35c, rfl, q36⟩ := vSlice_ok q34
  obtain ⟨rfl, q37⟩ := unnil_ok q36
  exact ⟨y17b, y17n, y17c, y25, y30, y35b, y35n, y35c, ⟨e16, e19, hd⟩, q37⟩
noncomputable def n1_c1 : Code := cFst code
noncomputable def n1_c2 : Code := cSnd code
abbrev T2 := (Option Addr) → Nat → Nat → Addr → H → Prop
def E2 (g : Env) (x0b : Option Addr) (x0n : Nat) (x0c : Nat) (x3 : Addr) : Prop := g.v 0 = (.slice x0b x0n x0c) ∧ g.v 3 = (.pointer (some x3)) ∧ g.ds = []
def D2 (K : T2) (g : Env) (h : H) : Prop := nilDs g.ds (vSlice (g.v 0) fun s38b s38n s38c => vAddr (g.v 3) fun a39 => K s38b s38n s38c a39 h)
theorem D2_ok {K : T2} {g : Env} {h : H} (hq : D2 K g h) : ∃ (x0b : Option Addr) (x0n : Nat) (x0c : Nat) (x3 : Addr), E2 g x0b x0n x0c x3 ∧ K x0b x0n x0c x3 h := by
  obtain ⟨hd, hq⟩ := nilDs_ok hq
  obtain ⟨y41b, y41n, y41c, e40, q42⟩ := vSlice_ok hq
  obtain ⟨y44, e43, q45⟩ := vAddr_ok q42
  exact ⟨y41b, y41n, y41c, y44, ⟨e40, e43, hd⟩, q45⟩
noncomputable def n2_c1 : Code := cFst n1_c2
noncomputable def n2_c2 : Code := cSnd n1_c2
abbrev T3 := (Option Addr) → Nat → Nat → Addr → Int → H → Prop
def E3 (g : Env) (x0b : Option Addr) (x0n : Nat) (x0c : Nat) (x3 : Addr) (x5 : Int) : Prop := g.v 0 = (.slice x0b x0n x0c) ∧ g.v 3 = (.pointer (some x3)) ∧ g.v 5 = (.int .i64 x5) ∧ g.ds = []
def D3 (K : T3) (g : Env) (h : H) : Prop := nilDs g.ds (vSlice (g.v 0) fun s46b s46n s46c => vAddr (g.v 3) fun a47 => vInt .i64 (g.v 5) fun i48 => K s46b s46n s46c a47 i48 h)
theorem D3_ok {K : T3} {g : Env} {h : H} (hq : D3 K g h) : ∃ (x0b : Option Addr) (x0n : Nat) (x0c : Nat) (x3 : Addr) (x5 : Int), E3 g x0b x0n x0c x3 x5 ∧ K x0b x0n x0c x3 x5 h := by
  obtain ⟨hd, hq⟩ := nilDs_ok hq
  obtain ⟨y50b, y50n, y50c, e49, q51⟩ := vSlice_ok hq
  obtain ⟨y53, e52, q54⟩ := vAddr_ok q51
  obtain ⟨y56, e55, q57⟩ := vInt_ok q54
  exact ⟨y50b, y50n, y50c, y53, y56, ⟨e49, e52, e55, hd⟩, q57⟩
noncomputable def n3_c1 : Code := cFst n2_c2
noncomputable def n3_c2 : Code := cSnd n2_c2
abbrev T4 := (Option Addr) → Nat → Nat → Addr → Int → Int → H → Prop
def E4 (g : Env) (x0b : Option Addr) (x0n : Nat) (x0c : Nat) (x3 : Addr) (x5 : Int) (x6 : Int) : Prop := g.v 0 = (.slice x0b x0n x0c) ∧ g.v 3 = (.pointer (some x3)) ∧ g.v 5 = (.int .i64 x5) ∧ g.v 6 = (.int .i64 x6) ∧ g.ds = []
def D4 (K : T4) (g : Env) (h : H) : Prop := nilDs g.ds (vSlice (g.v 0) fun s58b s58n s58c => vAddr (g.v 3) fun a59 => vInt .i64 (g.v 5) fun i60 => vInt .i64 (g.v 6) fun i61 => K s58b s58n s58c a59 i60 i61 h)
theorem D4_ok {K : T4} {g : Env} {h : H} (hq : D4 K g h) : ∃ (x0b : Option Addr) (x0n : Nat) (x0c : Nat) (x3 : Addr) (x5 : Int) (x6 : Int), E4 g x0b x0n x0c x3 x5 x6 ∧ K x0b x0n x0c x3 x5 x6 h := by
  obtain ⟨hd, hq⟩ := nilDs_ok hq
  obtain ⟨y63b, y63n, y63c, e62, q64⟩ := vSlice_ok hq
  obtain ⟨y66, e65, q67⟩ := vAddr_ok q64
  obtain ⟨y69, e68, q70⟩ := vInt_ok q67
  obtain ⟨y72, e71, q73⟩ := vInt_ok q70
  exact ⟨y63b, y63n, y63c, y66, y69, y72, ⟨e62, e65, e68, e71, hd⟩, q73⟩
noncomputable def n4_c1 : Code := cFst n3_c2
noncomputable def n4_c2 : Code := cSnd n3_c2
noncomputable def n5_c1 : Code := cFst n4_c2
noncomputable def n5_c2 : Code := cSnd n4_c2
abbrev T5 := (Option Addr) → Nat → Nat → Addr → Int → Int → (Option Addr) → Nat → Nat → H → Prop
def E5 (g : Env) (x0b : Option Addr) (x0n : Nat) (x0c : Nat) (x3 : Addr) (x5 : Int) (x6 : Int) (x9b : Option Addr) (x9n : Nat) (x9c : Nat) : Prop := g.v 0 = (.slice x0b x0n x0c) ∧ g.v 3 = (.pointer (some x3)) ∧ g.v 5 = (.int .i64 x5) ∧ g.v 6 = (.int .i64 x6) ∧ g.v 9 = (.slice x9b x9n x9c) ∧ g.ds = []
def D5 (K : T5) (g : Env) (h : H) : Prop := nilDs g.ds (vSlice (g.v 0) fun s74b s74n s74c => vAddr (g.v 3) fun a75 => vInt .i64 (g.v 5) fun i76 => vInt .i64 (g.v 6) fun i77 => vSlice (g.v 9) fun s78b s78n s78c => K s74b s74n s74c a75 i76 i77 s78b s78n s78c h)
theorem D5_ok {K : T5} {g : Env} {h : H} (hq : D5 K g h) : ∃ (x0b : Option Addr) (x0n : Nat) (x0c : Nat) (x3 : Addr) (x5 : Int) (x6 : Int) (x9b : Option Addr) (x9n : Nat) (x9c : Nat), E5 g x0b x0n x0c x3 x5 x6 x9b x9n x9c ∧ K x0b x0n x0c x3 x5 x6 x9b x9n x9c h := by
  obtain ⟨hd, hq⟩ := nilDs_ok hq
  obtain ⟨y80b, y80n, y80c, e79, q81⟩ := vSlice_ok hq
  obtain ⟨y83, e82, q84⟩ := vAddr_ok q81
  obtain ⟨y86, e85, q87⟩ := vInt_ok q84
  obtain ⟨y89, e88, q90⟩ := vInt_ok q87
  obtain ⟨y92b, y92n, y92c, e91, q93⟩ := vSlice_ok q90
  exact ⟨y80b, y80n, y80c, y83, y86, y89, y92b, y92n, y92c, ⟨e79, e82, e85, e88, e91, hd⟩, q93⟩
noncomputable def n6_c1 : Code := cFst n5_c2
noncomputable def n6_c2 : Code := cSnd n5_c2
abbrev T6 := Addr → (Option Addr) → Nat → Nat → H → Prop
def E6 (g : Env) (x3 : Addr) (x9b : Option Addr) (x9n : Nat) (x9c : Nat) : Prop := g.v 3 = (.pointer (some x3)) ∧ g.v 9 = (.slice x9b x9n x9c) ∧ g.ds = []
def D6 (K : T6) (g : Env) (h : H) : Prop := nilDs g.ds (vAddr (g.v 3) fun a94 => vSlice (g.v 9) fun s95b s95n s95c => K a94 s95b s95n s95c h)
theorem D6_ok {K : T6} {g : Env} {h : H} (hq : D6 K g h) : ∃ (x3 : Addr) (x9b : Option Addr) (x9n : Nat) (x9c : Nat), E6 g x3 x9b x9n x9c ∧ K x3 x9b x9n x9c h := by
  obtain ⟨hd, hq⟩ := nilDs_ok hq
  obtain ⟨y97, e96, q98⟩ := vAddr_ok hq
  obtain ⟨y100b, y100n, y100c, e99, q101⟩ := vSlice_ok q98
  exact ⟨y97, y100b, y100n, y100c, ⟨e96, e99, hd⟩, q101⟩
abbrev n7 (x3 : Addr) (x9b : Option Addr) (x9n : Nat) (x9c : Nat) (Kn : T0) (Kr : T0) (h : H) : Prop :=
  ∃ i102, cell h ((x3).add 0) = some (.int .i64 i102) ∧ (∃ s103, cell h ((x3).add 1) = some (S s103) ∧ (∃ s104b s104n s104c, cell h ((x3).add 2) = some (.slice s104b s104n s104c) ∧ (newx h #[(.int .i64 i102), (S s103), (.slice s104b s104n s104c)] 25 fun a105 h106 => SemH Try.prog (Builtin.append_ #[22, 22] 22 ⟨[(.slice x9b x9n x9c), (.slice (some a105) 1 1)]⟩) h106 fun v107 h108 => vSlice v107 fun s109b s109n s109c => Kr s109b s109n s109c h108)))
theorem n7_ok (x3 : Addr) (x9b : Option Addr) (x9n : Nat) (x9c : Nat) (Kn : T0) (Kr : T0) (g : Env) (hg : E6 g x3 x9b x9n x9c) (h : H) (hS : n7 x3 x9b x9n x9c Kn Kr h) : wpC none Try.prog 60 n6_c2 (Q0 Kn Kr) g h := by
  obtain ⟨hg3, hg9, hds⟩ := hg
  refine wpC_of_wpx (by kernel_rfl) (by kernel_rfl) (g' := ((⟨g.v, []⟩ : Env).upd (some 3) (.pointer (some x3))).upd (some 9) (.slice x9b x9n x9c)) (by rw [env_ds hds, upd_self hg3, upd_self hg9]) ?_
  have e : (n7 x3 x9b x9n x9c Kn Kr h) = wpx none Try.prog 60 n6_c2 (Q0 Kn Kr) (((⟨g.v, []⟩ : Env).upd (some 3) (.pointer (some x3))).upd (some 9) (.slice x9b x9n x9c)) h := by kernel_rfl
  exact e ▸ hS
def Q1 (Kn : T6) (Kr : T0) : XPost
  | .normal, g, h => D6 Kn g h
  | .ret, g, h => D0 Kr g h
  | _, _, _ => False
noncomputable def n8_c1 : Code := cFst n6_c1
noncomputable def n8_c2 : Code := cSnd n6_c1
abbrev T7 := (Option Addr) → Nat → Nat → Addr → Int → Int → (Option Addr) → Nat → Nat → Int → H → Prop
def E7 (g : Env) (x0b : Option Addr) (x0n : Nat) (x0c : Nat) (x3 : Addr) (x5 : Int) (x6 : Int) (x9b : Option Addr) (x9n : Nat) (x9c : Nat) (x10 : Int) : Prop := g.v 0 = (.slice x0b x0n x0c) ∧ g.v 3 = (.pointer (some x3)) ∧ g.v 5 = (.int .i64 x5) ∧ g.v 6 = (.int .i64 x6) ∧ g.v 9 = (.slice x9b x9n x9c) ∧ g.v 10 = (.int .i64 x10) ∧ g.ds = []
def D7 (K : T7) (g : Env) (h : H) : Prop := nilDs g.ds (vSlice (g.v 0) fun s110b s110n s110c => vAddr (g.v 3) fun a111 => vInt .i64 (g.v 5) fun i112 => vInt .i64 (g.v 6) fun i113 => vSlice (g.v 9) fun s114b s114n s114c => vInt .i64 (g.v 10) fun i115 => K s110b s110n s110c a111 i112 i113 s114b s114n s114c i115 h)
theorem D7_ok {K : T7} {g : Env} {h : H} (hq : D7 K g h) : ∃ (x0b : Option Addr) (x0n : Nat) (x0c : Nat) (x3 : Addr) (x5 : Int) (x6 : Int) (x9b : Option Addr) (x9n : Nat) (x9c : Nat) (x10 : Int), E7 g x0b x0n x0c x3 x5 x6 x9b x9n x9c x10 ∧ K x0b x0n x0c x3 x5 x6 x9b x9n x9c x10 h := by
  obtain ⟨hd, hq⟩ := nilDs_ok hq
  obtain ⟨y117b, y117n, y117c, e116, q118⟩ := vSlice_ok hq
  obtain ⟨y120, e119, q121⟩ := vAddr_ok q118
  obtain ⟨y123, e122, q124⟩ := vInt_ok q121
  obtain ⟨y126, e125, q127⟩ := vInt_ok q124
  obtain ⟨y129b, y129n, y129c, e128, q130⟩ := vSlice_ok q127
  obtain ⟨y132, e131, q133⟩ := vInt_ok q130
  exact ⟨y117b, y117n, y117c, y120, y123, y126, y129b, y129n, y129c, y132, ⟨e116, e119, e122, e125, e128, e131, hd⟩, q133⟩
noncomputable def n9_c1 : Code := cFst n8_c2
def Q2 (Kn : T6) (Ke2 : T6) (Kr : T0) : XPost
  | .normal, g, h => D6 Kn g h
  | .ret, g, h => D0 Kr g h
  | .exit id, g, h => cond (Nat.beq id 2) (D6 Ke2 g h) (False)
  | _, _, _ => False
noncomputable def n10_c1 : Code := cFst n9_c1
def Q3 (Kn : T7) (Ke2 : T6) (Kr : T0) : XPost
  | .normal, g, h => D7 Kn g h
  | .ret, g, h => D0 Kr g h
  | .exit id, g, h => cond (Nat.beq id 2) (D6 Ke2 g h) (False)
  | _, _, _ => False
noncomputable def n11_c1 : Code := cFst n10_c1
noncomputable def n11_c2 : Code := cSnd n10_c1
noncomputable def n12_c1 : Code := cFst n11_c2
noncomputable def n12_c2 : Code := cSnd n11_c2
abbrev n13 (x0b : Option Addr) (x0n : Nat) (x0c : Nat) (x3 : Addr) (x5 : Int) (x6 : Int) (x9b : Option Addr) (x9n : Nat) (x9c : Nat) (x10 : Int) (Kn : T7) (Ke2 : T6) (Kr : T0) (h : H) : Prop :=
  Rng .i64 (x10 + (1 : Int)) ∧ (Kn x0b x0n x0c x3 x5 x6 x9b x9n x9c (x10 + (1 : Int)) h)
theorem n13_ok (x0b : Option Addr) (x0n : Nat) (x0c : Nat) (x3 : Addr) (x5 : Int) (x6 : Int) (x9b : Option Addr) (x9n : Nat) (x9c : Nat) (x10 : Int) (Kn : T7) (Ke2 : T6) (Kr : T0) (g : Env) (hg : E7 g x0b x0n x0c x3 x5 x6 x9b x9n x9c x10) (h : H) (hS : n13 x0b x0n x0c x3 x5 x6 x9b x9n x9c x10 Kn Ke2 Kr h) : wpC none Try.prog 60 n12_c2 (Q3 Kn Ke2 Kr) g h := by
  obtain ⟨hg0, hg3, hg5, hg6, hg9, hg10, hds⟩ := hg
  refine wpC_of_wpx (by kernel_rfl) (by kernel_rfl) (g' := ((((((⟨g.v, []⟩ : Env).upd (some 0) (.slice x0b x0n x0c)).upd (some 3) (.pointer (some x3))).upd (some 5) (.int .i64 x5)).upd (some 6) (.int .i64 x6)).upd (some 9) (.slice x9b x9n x9c)).upd (some 10) (.int .i64 x10)) (by rw [env_ds hds, upd_self hg0, upd_self hg3, upd_self hg5, upd_self hg6, upd_self hg9, upd_self hg10]) ?_
  have e : (n13 x0b x0n x0c x3 x5 x6 x9b x9n x9c x10 Kn Ke2 Kr h) = wpx none Try.prog 60 n12_c2 (Q3 Kn Ke2 Kr) (((((((⟨g.v, []⟩ : Env).upd (some 0) (.slice x0b x0n x0c)).upd (some 3) (.pointer (some x3))).upd (some 5) (.int .i64 x5)).upd (some 6) (.int .i64 x6)).upd (some 9) (.slice x9b x9n x9c)).upd (some 10) (.int .i64 x10)) h := by kernel_rfl
  exact e ▸ hS
noncomputable def n14_c1 : Code := cFst n12_c1
def Q4 (Kn : T7) (Ke3 : T7) (Ke2 : T6) (Kr : T0) : XPost
  | .normal, g, h => D7 Kn g h
  | .ret, g, h => D0 Kr g h
  | .exit id, g, h => cond (Nat.beq id 3) (D7 Ke3 g h) (cond (Nat.beq id 2) (D6 Ke2 g h) (False))
  | _, _, _ => False
noncomputable def n15_c1 : Code := cFst n14_c1
noncomputable def n15_c2 : Code := cSnd n14_c1
abbrev T8 := (Option Addr) → Nat → Nat → Addr → Int → Int → (Option Addr) → Nat → Nat → Int → Bool → H → Prop
def E8 (g : Env) (x0b : Option Addr) (x0n : Nat) (x0c : Nat) (x3 : Addr) (x5 : Int) (x6 : Int) (x9b : Option Addr) (x9n : Nat) (x9c : Nat) (x10 : Int) (x48 : Bool) : Prop := g.v 0 = (.slice x0b x0n x0c) ∧ g.v 3 = (.pointer (some x3)) ∧ g.v 5 = (.int .i64 x5) ∧ g.v 6 = (.int .i64 x6) ∧ g.v 9 = (.slice x9b x9n x9c) ∧ g.v 10 = (.int .i64 x10) ∧ g.v 48 = (.bool x48) ∧ g.ds = []
def D8 (K : T8) (g : Env) (h : H) : Prop := nilDs g.ds (vSlice (g.v 0) fun s134b s134n s134c => vAddr (g.v 3) fun a135 => vInt .i64 (g.v 5) fun i136 => vInt .i64 (g.v 6) fun i137 => vSlice (g.v 9) fun s138b s138n s138c => vInt .i64 (g.v 10) fun i139 => vBool (g.v 48) fun b140 => K s134b s134n s134c a135 i136 i137 s138b s138n s138c i139 b140 h)
theorem D8_ok {K : T8} {g : Env} {h : H} (hq : D8 K g h) : ∃ (x0b : Option Addr) (x0n : Nat) (x0c : Nat) (x3 : Addr) (x5 : Int) (x6 : Int) (x9b : Option Addr) (x9n : Nat) (x9c : Nat) (x10 : Int) (x48 : Bool), E8 g x0b x0n x0c x3 x5 x6 x9b x9n x9c x10 x48 ∧ K x0b x0n x0c x3 x5 x6 x9b x9n x9c x10 x48 h := by
  obtain ⟨hd, hq⟩ := nilDs_ok hq
  obtain ⟨y142b, y142n, y142c, e141, q143⟩ := vSlice_ok hq
  obtain ⟨y145, e144, q146⟩ := vAddr_ok q143
  obtain ⟨y148, e147, q149⟩ := vInt_ok q146
  obtain ⟨y151, e150, q152⟩ := vInt_ok q149
  obtain ⟨y154b, y154n, y154c, e153, q155⟩ := vSlice_ok q152
  obtain ⟨y157, e156, q158⟩ := vInt_ok q155
  obtain ⟨y160, e159, q161⟩ := vBool_ok q158
  exact ⟨y142b, y142n, y142c, y145, y148, y151, y154b, y154n, y154c, y157, y160, ⟨e141, e144, e147, e150, e153, e156, e159, hd⟩, q161⟩
abbrev n16 (x0b : Option Addr) (x0n : Nat) (x0c : Nat) (x3 : Addr) (x5 : Int) (x6 : Int) (x9b : Option Addr) (x9n : Nat) (x9c : Nat) (x10 : Int) (x48 : Bool) (Kn : T7) (Ke3 : T7) (Ke2 : T6) (Kr : T0) (h : H) : Prop :=
  cond x48 ((0 ≤ x10 ∧ x10 < (x0n : Int)) ∧ (vSome x0b fun a162 => ∃ i163, cell h (((a162.add (Int.toNat x10 * 3))).add 0) = some (.int .i64 i163) ∧ (∃ s164, cell h (((a162.add (Int.toNat x10 * 3))).add 1) = some (S s164) ∧ (∃ s165b s165n s165c, cell h (((a162.add (Int.toNat x10 * 3))).add 2) = some (.slice s165b s165n s165c) ∧ (newx h #[(.int .i64 i163), (S s164), (.slice s165b s165n s165c)] 25 fun a166 h167 => SemH Try.prog (Builtin.append_ #[22, 22] 22 ⟨[(.slice x9b x9n x9c), (.slice (some a166) 1 1)]⟩) h167 fun v168 h169 => vSlice v168 fun s170b s170n s170c => Kn x0b x0n x0c x3 x5 x6 s170b s170n s170c x10 h169))))) (Kn x0b x0n x0c x3 x5 x6 x9b x9n x9c x10 h)
theorem n16_ok (x0b : Option Addr) (x0n : Nat) (x0c : Nat) (x3 : Addr) (x5 : Int) (x6 : Int) (x9b : Option Addr) (x9n : Nat) (x9c : Nat) (x10 : Int) (x48 : Bool) (Kn : T7) (Ke3 : T7) (Ke2 : T6) (Kr : T0) (g : Env) (hg : E8 g x0b x0n x0c x3 x5 x6 x9b x9n x9c x10 x48) (h : H) (hS : n16 x0b x0n x0c x3 x5 x6 x9b x9n x9c x10 x48 Kn Ke3 Ke2 Kr h) : wpC none Try.prog 60 n15_c2 (Q4 Kn Ke3 Ke2 Kr) g h := by
  obtain ⟨hg0, hg3, hg5, hg6, hg9, hg10, hg48, hds⟩ := hg
  refine wpC_of_wpx (by kernel_rfl) (by kernel_rfl) (g' := (((((((⟨g.v, []⟩ : Env).upd (some 0) (.slice x0b x0n x0c)).upd (some 3) (.pointer (some x3))).upd (some 5) (.int .i64 x5)).upd (some 6) (.int .i64 x6)).upd (some 9) (.slice x9b x9n x9c)).upd (some 10) (.int .i64 x10)).upd (some 48) (.bool x48)) (by rw [env_ds hds, upd_self hg0, upd_self hg3, upd_self hg5, upd_self hg6, upd_self hg9, upd_self hg10, upd_self hg48]) ?_
  have e : (n16 x0b x0n x0c x3 x5 x6 x9b x9n x9c x10 x48 Kn Ke3 Ke2 Kr h) = wpx none Try.prog 60 n15_c2 (Q4 Kn Ke3 Ke2 Kr) ((((((((⟨g.v, []⟩ : Env).upd (some 0) (.slice x0b x0n x0c)).upd (some 3) (.pointer (some x3))).upd (some 5) (.int .i64 x5)).upd (some 6) (.int .i64 x6)).upd (some 9) (.slice x9b x9n x9c)).upd (some 10) (.int .i64 x10)).upd (some 48) (.bool x48)) h := by kernel_rfl
  exact e ▸ hS
def Q5 (Kn : T8) (Ke3 : T7) (Ke2 : T6) (Kr : T0) : XPost
  | .normal, g, h => D8 Kn g h
  | .ret, g, h => D0 Kr g h
  | .exit id, g, h => cond (Nat.beq id 3) (D7 Ke3 g h) (cond (Nat.beq id 2) (D6 Ke2 g h) (False))
  | _, _, _ => False
abbrev n15 (x0b : Option Addr) (x0n : Nat) (x0c : Nat) (x3 : Addr) (x5 : Int) (x6 : Int) (x9b : Option Addr) (x9n : Nat) (x9c : Nat) (x10 : Int) (Kn : T7) (Ke3 : T7) (Ke2 : T6) (Kr : T0) (h : H) : Prop :=
  Spl (x5 < (3 : Int)) (n16 x0b x0n x0c x3 x5 x6 x9b x9n x9c x10 true Kn Ke3 Ke2 Kr h) (Spl (x10 = x6) (n16 x0b x0n x0c x3 x5 x6 x9b x9n x9c x10 false Kn Ke3 Ke2 Kr h) (n16 x0b x0n x0c x3 x5 x6 x9b x9n x9c x10 true Kn Ke3 Ke2 Kr h))
theorem n15_ok (x0b : Option Addr) (x0n : Nat) (x0c : Nat) (x3 : Addr) (x5 : Int) (x6 : Int) (x9b : Option Addr) (x9n : Nat) (x9c : Nat) (x10 : Int) (Kn : T7) (Ke3 : T7) (Ke2 : T6) (Kr : T0) (g : Env) (hg : E7 g x0b x0n x0c x3 x5 x6 x9b x9n x9c x10) (h : H) (hS : n15 x0b x0n x0c x3 x5 x6 x9b x9n x9c x10 Kn Ke3 Ke2 Kr h) : wpC none Try.prog 60 n14_c1 (Q4 Kn Ke3 Ke2 Kr) g h := by
  obtain ⟨hg0, hg3, hg5, hg6, hg9, hg10, hds⟩ := hg
  refine wpC_seq' (x := n15_c1) (y := n15_c2) (Q' := (Q5 (fun z0b z0n z0c z3 z5 z6 z9b z9n z9c z10 z48 h => n16 z0b z0n z0c z3 z5 z6 z9b z9n z9c z10 z48 Kn Ke3 Ke2 Kr h) Ke3 Ke2 Kr)) (by kernel_rfl) ?_ ?_
  · refine wpC_of_wpx (by kernel_rfl) (by kernel_rfl) (g' := ((((((⟨g.v, []⟩ : Env).upd (some 0) (.slice x0b x0n x0c)).upd (some 3) (.pointer (some x3))).upd (some 5) (.int .i64 x5)).upd (some 6) (.int .i64 x6)).upd (some 9) (.slice x9b x9n x9c)).upd (some 10) (.int .i64 x10)) (by rw [env_ds hds, upd_self hg0, upd_self hg3, upd_self hg5, upd_self hg6, upd_self hg9, upd_self hg10]) ?_
    have e : (n15 x0b x0n x0c x3 x5 x6 x9b x9n x9c x10 Kn Ke3 Ke2 Kr h) = wpx none Try.prog 60 n15_c1 (Q5 (fun z0b z0n z0c z3 z5 z6 z9b z9n z9c z10 z48 h => n16 z0b z0n z0c z3 z5 z6 z9b z9n z9c z10 z48 Kn Ke3 Ke2 Kr h) Ke3 Ke2 Kr) (((((((⟨g.v, []⟩ : Env).upd (some 0) (.slice x0b x0n x0c)).upd (some 3) (.pointer (some x3))).upd (some 5) (.int .i64 x5)).upd (some 6) (.int .i64 x6)).upd (some 9) (.slice x9b x9n x9c)).upd (some 10) (.int .i64 x10)) h := by kernel_rfl
    exact e ▸ hS
  · intro e g' h' hq
    cases e with
    | normal =>
      have hq : D8 (fun z0b z0n z0c z3 z5 z6 z9b z9n z9c z10 z48 h => n16 z0b z0n z0c z3 z5 z6 z9b z9n z9c z10 z48 Kn Ke3 Ke2 Kr h) g' h' := hq
      obtain ⟨y0b, y0n, y0c, y3, y5, y6, y9b, y9n, y9c, y10, y48, hg', hq⟩ := D8_ok hq
      exact n16_ok y0b y0n y0c y3 y5 y6 y9b y9n y9c y10 y48 Kn Ke3 Ke2 Kr g' hg' h' hq
    | _ => exact hq
abbrev n14 (x0b : Option Addr) (x0n : Nat) (x0c : Nat) (x3 : Addr) (x5 : Int) (x6 : Int) (x9b : Option Addr) (x9n : Nat) (x9c : Nat) (x10 : Int) (Kn : T7) (Ke2 : T6) (Kr : T0) (h : H) : Prop := n15 x0b x0n x0c x3 x5 x6 x9b x9n x9c x10 Kn Kn Ke2 Kr h
theorem n14_ok (x0b : Option Addr) (x0n : Nat) (x0c : Nat) (x3 : Addr) (x5 : Int) (x6 : Int) (x9b : Option Addr) (x9n : Nat) (x9c : Nat) (x10 : Int) (Kn : T7) (Ke2 : T6) (Kr : T0) (g : Env) (hg : E7 g x0b x0n x0c x3 x5 x6 x9b x9n x9c x10) (h : H) (hS : n14 x0b x0n x0c x3 x5 x6 x9b x9n x9c x10 Kn Ke2 Kr h) : wpC none Try.prog 60 n12_c1 (Q3 Kn Ke2 Kr) g h := by
  refine wpC_block' (id := 3) (x := n14_c1) (by kernel_rfl) (n15_ok x0b x0n x0c x3 x5 x6 x9b x9n x9c x10 Kn Kn Ke2 Kr g hg h hS) ?_
  intro e g' h' hq
  cases e <;> exact hq
abbrev n12 (x0b : Option Addr) (x0n : Nat) (x0c : Nat) (x3 : Addr) (x5 : Int) (x6 : Int) (x9b : Option Addr) (x9n : Nat) (x9c : Nat) (x10 : Int) (Kn : T7) (Ke2 : T6) (Kr : T0) (h : H) : Prop := n14 x0b x0n x0c x3 x5 x6 x9b x9n x9c x10 (fun z0b z0n z0c z3 z5 z6 z9b z9n z9c z10 h => n13 z0b z0n z0c z3 z5 z6 z9b z9n z9c z10 Kn Ke2 Kr h) Ke2 Kr h
theorem n12_ok (x0b : Option Addr) (x0n : Nat) (x0c : Nat) (x3 : Addr) (x5 : Int) (x6 : Int) (x9b : Option Addr) (x9n : Nat) (x9c : Nat) (x10 : Int) (Kn : T7) (Ke2 : T6) (Kr : T0) (g : Env) (hg : E7 g x0b x0n x0c x3 x5 x6 x9b x9n x9c x10) (h : H) (hS : n12 x0b x0n x0c x3 x5 x6 x9b x9n x9c x10 Kn Ke2 Kr h) : wpC none Try.prog 60 n11_c2 (Q3 Kn Ke2 Kr) g h := by
  refine wpC_seq' (x := n12_c1) (y := n12_c2) (by kernel_rfl) (n14_ok x0b x0n x0c x3 x5 x6 x9b x9n x9c x10 (fun z0b z0n z0c z3 z5 z6 z9b z9n z9c z10 h => n13 z0b z0n z0c z3 z5 z6 z9b z9n z9c z10 Kn Ke2 Kr h) Ke2 Kr g hg h hS) ?_
  intro e g' h' hq
  cases e with
  | normal =>
    have hq : D7 (fun z0b z0n z0c z3 z5 z6 z9b z9n z9c z10 h => n13 z0b z0n z0c z3 z5 z6 z9b z9n z9c z10 Kn Ke2 Kr h) g' h' := hq
    obtain ⟨y0b, y0n, y0c, y3, y5, y6, y9b, y9n, y9c, y10, hg', hq⟩ := D7_ok hq
    exact n13_ok y0b y0n y0c y3 y5 y6 y9b y9n y9c y10 Kn Ke2 Kr g' hg' h' hq
  | _ => exact hq
abbrev n11 (x0b : Option Addr) (x0n : Nat) (x0c : Nat) (x3 : Addr) (x5 : Int) (x6 : Int) (x9b : Option Addr) (x9n : Nat) (x9c : Nat) (x10 : Int) (Kn : T7) (Ke2 : T6) (Kr : T0) (h : H) : Prop :=
  Spl (x10 < (x0n : Int)) (n12 x0b x0n x0c x3 x5 x6 x9b x9n x9c x10 Kn Ke2 Kr h) (Ke2 x3 x9b x9n x9c h)
theorem n11_ok (x0b : Option Addr) (x0n : Nat) (x0c : Nat) (x3 : Addr) (x5 : Int) (x6 : Int) (x9b : Option Addr) (x9n : Nat) (x9c : Nat) (x10 : Int) (Kn : T7) (Ke2 : T6) (Kr : T0) (g : Env) (hg : E7 g x0b x0n x0c x3 x5 x6 x9b x9n x9c x10) (h : H) (hS : n11 x0b x0n x0c x3 x5 x6 x9b x9n x9c x10 Kn Ke2 Kr h) : wpC none Try.prog 60 n10_c1 (Q3 Kn Ke2 Kr) g h := by
  obtain ⟨hg0, hg3, hg5, hg6, hg9, hg10, hds⟩ := hg
  refine wpC_seq' (x := n11_c1) (y := n11_c2) (Q' := (Q3 (fun z0b z0n z0c z3 z5 z6 z9b z9n z9c z10 h => n12 z0b z0n z0c z3 z5 z6 z9b z9n z9c z10 Kn Ke2 Kr h) Ke2 Kr)) (by kernel_rfl) ?_ ?_
  · refine wpC_of_wpx (by kernel_rfl) (by kernel_rfl) (g' := ((((((⟨g.v, []⟩ : Env).upd (some 0) (.slice x0b x0n x0c)).upd (some 3) (.pointer (some x3))).upd (some 5) (.int .i64 x5)).upd (some 6) (.int .i64 x6)).upd (some 9) (.slice x9b x9n x9c)).upd (some 10) (.int .i64 x10)) (by rw [env_ds hds, upd_self hg0, upd_self hg3, upd_self hg5, upd_self hg6, upd_self hg9, upd_self hg10]) ?_
    have e : (n11 x0b x0n x0c x3 x5 x6 x9b x9n x9c x10 Kn Ke2 Kr h) = wpx none Try.prog 60 n11_c1 (Q3 (fun z0b z0n z0c z3 z5 z6 z9b z9n z9c z10 h => n12 z0b z0n z0c z3 z5 z6 z9b z9n z9c z10 Kn Ke2 Kr h) Ke2 Kr) (((((((⟨g.v, []⟩ : Env).upd (some 0) (.slice x0b x0n x0c)).upd (some 3) (.pointer (some x3))).upd (some 5) (.int .i64 x5)).upd (some 6) (.int .i64 x6)).upd (some 9) (.slice x9b x9n x9c)).upd (some 10) (.int .i64 x10)) h := by kernel_rfl
    exact e ▸ hS
  · intro e g' h' hq
    cases e with
    | normal =>
      have hq : D7 (fun z0b z0n z0c z3 z5 z6 z9b z9n z9c z10 h => n12 z0b z0n z0c z3 z5 z6 z9b z9n z9c z10 Kn Ke2 Kr h) g' h' := hq
      obtain ⟨y0b, y0n, y0c, y3, y5, y6, y9b, y9n, y9c, y10, hg', hq⟩ := D7_ok hq
      exact n12_ok y0b y0n y0c y3 y5 y6 y9b y9n y9c y10 Kn Ke2 Kr g' hg' h' hq
    | _ => exact hq
def n10_L (Kn : T6) (Ke2 : T6) (Kr : T0) : Nat → (Option Addr) → Nat → Nat → Addr → Int → Int → (Option Addr) → Nat → Nat → Int → H → Prop
  | 0, _, _, _, _, _, _, _, _, _, _, _ => False
  | N + 1, x0b, x0n, x0c, x3, x5, x6, x9b, x9n, x9c, x10, h => n11 x0b x0n x0c x3 x5 x6 x9b x9n x9c x10 (fun z0b z0n z0c z3 z5 z6 z9b z9n z9c z10 h => n10_L Kn Ke2 Kr N z0b z0n z0c z3 z5 z6 z9b z9n z9c z10 h) Ke2 Kr h
abbrev n10 (x0b : Option Addr) (x0n : Nat) (x0c : Nat) (x3 : Addr) (x5 : Int) (x6 : Int) (x9b : Option Addr) (x9n : Nat) (x9c : Nat) (x10 : Int) (Kn : T6) (Ke2 : T6) (Kr : T0) (h : H) : Prop := ∃ N, n10_L Kn Ke2 Kr N x0b x0n x0c x3 x5 x6 x9b x9n x9c x10 h
theorem n10_ok (x0b : Option Addr) (x0n : Nat) (x0c : Nat) (x3 : Addr) (x5 : Int) (x6 : Int) (x9b : Option Addr) (x9n : Nat) (x9c : Nat) (x10 : Int) (Kn : T6) (Ke2 : T6) (Kr : T0) (g : Env) (hg : E7 g x0b x0n x0c x3 x5 x6 x9b x9n x9c x10) (h : H) (hS : n10 x0b x0n x0c x3 x5 x6 x9b x9n x9c x10 Kn Ke2 Kr h) : wpC none Try.prog 60 n9_c1 (Q2 Kn Ke2 Kr) g h := by
  obtain ⟨N0, hS⟩ := hS
  refine wpC_loop' (x := n10_c1) (by kernel_rfl) (fun k g h => ∃ (x0b : Option Addr) (x0n : Nat) (x0c : Nat) (x3 : Addr) (x5 : Int) (x6 : Int) (x9b : Option Addr) (x9n : Nat) (x9c : Nat) (x10 : Int), E7 g x0b x0n x0c x3 x5 x6 x9b x9n x9c x10 ∧ n10_L Kn Ke2 Kr k x0b x0n x0c x3 x5 x6 x9b x9n x9c x10 h) (fun g h hr => ?_) (fun N g h hr => ?_) N0 ⟨x0b, x0n, x0c, x3, x5, x6, x9b, x9n, x9c, x10, hg, hS⟩
  · obtain ⟨x0b, x0n, x0c, x3, x5, x6, x9b, x9n, x9c, x10, hg, hS⟩ := hr
    exact hS.elim
  · obtain ⟨x0b, x0n, x0c, x3, x5, x6, x9b, x9n, x9c, x10, hg, hS⟩ := hr
    refine (n11_ok x0b x0n x0c x3 x5 x6 x9b x9n x9c x10 (fun z0b z0n z0c z3 z5 z6 z9b z9n z9c z10 h => n10_L Kn Ke2 Kr N z0b z0n z0c z3 z5 z6 z9b z9n z9c z10 h) Ke2 Kr g hg h hS).mono ?_
    intro e g' h' hq
    cases e with
    | normal => exact D7_ok (K := (fun z0b z0n z0c z3 z5 z6 z9b z9n z9c z10 h => n10_L Kn Ke2 Kr N z0b z0n z0c z3 z5 z6 z9b z9n z9c z10 h)) hq
    | _ => exact hq
abbrev n9 (x0b : Option Addr) (x0n : Nat) (x0c : Nat) (x3 : Addr) (x5 : Int) (x6 : Int) (x9b : Option Addr) (x9n : Nat) (x9c : Nat) (x10 : Int) (Kn : T6) (Kr : T0) (h : H) : Prop := n10 x0b x0n x0c x3 x5 x6 x9b x9n x9c x10 Kn Kn Kr h
theorem n9_ok (x0b : Option Addr) (x0n : Nat) (x0c : Nat) (x3 : Addr) (x5 : Int) (x6 : Int) (x9b : Option Addr) (x9n : Nat) (x9c : Nat) (x10 : Int) (Kn : T6) (Kr : T0) (g : Env) (hg : E7 g x0b x0n x0c x3 x5 x6 x9b x9n x9c x10) (h : H) (hS : n9 x0b x0n x0c x3 x5 x6 x9b x9n x9c x10 Kn Kr h) : wpC none Try.prog 60 n8_c2 (Q1 Kn Kr) g h := by
  refine wpC_block' (id := 2) (x := n9_c1) (by kernel_rfl) (n10_ok x0b x0n x0c x3 x5 x6 x9b x9n x9c x10 Kn Kn Kr g hg h hS) ?_
  intro e g' h' hq
  cases e <;> exact hq
def Q6 (Kn : T7) (Kr : T0) : XPost
  | .normal, g, h => D7 Kn g h
  | .ret, g, h => D0 Kr g h
  | _, _, _ => False
abbrev n8 (x0b : Option Addr) (x0n : Nat) (x0c : Nat) (x3 : Addr) (x5 : Int) (x6 : Int) (x9b : Option Addr) (x9n : Nat) (x9c : Nat) (Kn : T6) (Kr : T0) (h : H) : Prop :=
  n9 x0b x0n x0c x3 x5 x6 x9b x9n x9c (0 : Int) Kn Kr h
theorem n8_ok (x0b : Option Addr) (x0n : Nat) (x0c : Nat) (x3 : Addr) (x5 : Int) (x6 : Int) (x9b : Option Addr) (x9n : Nat) (x9c : Nat) (Kn : T6) (Kr : T0) (g : Env) (hg : E5 g x0b x0n x0c x3 x5 x6 x9b x9n x9c) (h : H) (hS : n8 x0b x0n x0c x3 x5 x6 x9b x9n x9c Kn Kr h) : wpC none Try.prog 60 n6_c1 (Q1 Kn Kr) g h := by
  obtain ⟨hg0, hg3, hg5, hg6, hg9, hds⟩ := hg
  refine wpC_seq' (x := n8_c1) (y := n8_c2) (Q' := (Q6 (fun z0b z0n z0c z3 z5 z6 z9b z9n z9c z10 h => n9 z0b z0n z0c z3 z5 z6 z9b z9n z9c z10 Kn Kr h) Kr)) (by kernel_rfl) ?_ ?_
  · refine wpC_of_wpx (by kernel_rfl) (by kernel_rfl) (g' := (((((⟨g.v, []⟩ : Env).upd (some 0) (.slice x0b x0n x0c)).upd (some 3) (.pointer (some x3))).upd (some 5) (.int .i64 x5)).upd (some 6) (.int .i64 x6)).upd (some 9) (.slice x9b x9n x9c)) (by rw [env_ds hds, upd_self hg0, upd_self hg3, upd_self hg5, upd_self hg6, upd_self hg9]) ?_
    have e : (n8 x0b x0n x0c x3 x5 x6 x9b x9n x9c Kn Kr h) = wpx none Try.prog 60 n8_c1 (Q6 (fun z0b z0n z0c z3 z5 z6 z9b z9n z9c z10 h => n9 z0b z0n z0c z3 z5 z6 z9b z9n z9c z10 Kn Kr h) Kr) ((((((⟨g.v, []⟩ : Env).upd (some 0) (.slice x0b x0n x0c)).upd (some 3) (.pointer (some x3))).upd (some 5) (.int .i64 x5)).upd (some 6) (.int .i64 x6)).upd (some 9) (.slice x9b x9n x9c)) h := by kernel_rfl
    exact e ▸ hS
  · intro e g' h' hq
    cases e with
    | normal =>
      have hq : D7 (fun z0b z0n z0c z3 z5 z6 z9b z9n z9c z10 h => n9 z0b z0n z0c z3 z5 z6 z9b z9n z9c z10 Kn Kr h) g' h' := hq
      obtain ⟨y0b, y0n, y0c, y3, y5, y6, y9b, y9n, y9c, y10, hg', hq⟩ := D7_ok hq
      exact n9_ok y0b y0n y0c y3 y5 y6 y9b y9n y9c y10 Kn Kr g' hg' h' hq
    | _ => exact hq
abbrev n6 (x0b : Option Addr) (x0n : Nat) (x0c : Nat) (x3 : Addr) (x5 : Int) (x6 : Int) (x9b : Option Addr) (x9n : Nat) (x9c : Nat) (Kn : T0) (Kr : T0) (h : H) : Prop := n8 x0b x0n x0c x3 x5 x6 x9b x9n x9c (fun z3 z9b z9n z9c h => n7 z3 z9b z9n z9c Kn Kr h) Kr h
theorem n6_ok (x0b : Option Addr) (x0n : Nat) (x0c : Nat) (x3 : Addr) (x5 : Int) (x6 : Int) (x9b : Option Addr) (x9n : Nat) (x9c : Nat) (Kn : T0) (Kr : T0) (g : Env) (hg : E5 g x0b x0n x0c x3 x5 x6 x9b x9n x9c) (h : H) (hS : n6 x0b x0n x0c x3 x5 x6 x9b x9n x9c Kn Kr h) : wpC none Try.prog 60 n5_c2 (Q0 Kn Kr) g h := by
  refine wpC_seq' (x := n6_c1) (y := n6_c2) (by kernel_rfl) (n8_ok x0b x0n x0c x3 x5 x6 x9b x9n x9c (fun z3 z9b z9n z9c h => n7 z3 z9b z9n z9c Kn Kr h) Kr g hg h hS) ?_
  intro e g' h' hq
  cases e with
  | normal =>
    have hq : D6 (fun z3 z9b z9n z9c h => n7 z3 z9b z9n z9c Kn Kr h) g' h' := hq
    obtain ⟨y3, y9b, y9n, y9c, hg', hq⟩ := D6_ok hq
    exact n7_ok y3 y9b y9n y9c Kn Kr g' hg' h' hq
  | _ => exact hq
def Q7 (Kn : T5) (Kr : T0) : XPost
  | .normal, g, h => D5 Kn g h
  | .ret, g, h => D0 Kr g h
  | _, _, _ => False
abbrev n5 (x0b : Option Addr) (x0n : Nat) (x0c : Nat) (x3 : Addr) (x5 : Int) (x6 : Int) (Kn : T0) (Kr : T0) (h : H) : Prop :=
  n6 x0b x0n x0c x3 x5 x6 none 0 0 Kn Kr h
theorem n5_ok (x0b : Option Addr) (x0n : Nat) (x0c : Nat) (x3 : Addr) (x5 : Int) (x6 : Int) (Kn : T0) (Kr : T0) (g : Env) (hg : E4 g x0b x0n x0c x3 x5 x6) (h : H) (hS : n5 x0b x0n x0c x3 x5 x6 Kn Kr h) : wpC none Try.prog 60 n4_c2 (Q0 Kn Kr) g h := by
  obtain ⟨hg0, hg3, hg5, hg6, hds⟩ := hg
  refine wpC_seq' (x := n5_c1) (y := n5_c2) (Q' := (Q7 (fun z0b z0n z0c z3 z5 z6 z9b z9n z9c h => n6 z0b z0n z0c z3 z5 z6 z9b z9n z9c Kn Kr h) Kr)) (by kernel_rfl) ?_ ?_
  · refine wpC_of_wpx (by kernel_rfl) (by kernel_rfl) (g' := ((((⟨g.v, []⟩ : Env).upd (some 0) (.slice x0b x0n x0c)).upd (some 3) (.pointer (some x3))).upd (some 5) (.int .i64 x5)).upd (some 6) (.int .i64 x6)) (by rw [env_ds hds, upd_self hg0, upd_self hg3, upd_self hg5, upd_self hg6]) ?_
    have e : (n5 x0b x0n x0c x3 x5 x6 Kn Kr h) = wpx none Try.prog 60 n5_c1 (Q7 (fun z0b z0n z0c z3 z5 z6 z9b z9n z9c h => n6 z0b z0n z0c z3 z5 z6 z9b z9n z9c Kn Kr h) Kr) (((((⟨g.v, []⟩ : Env).upd (some 0) (.slice x0b x0n x0c)).upd (some 3) (.pointer (some x3))).upd (some 5) (.int .i64 x5)).upd (some 6) (.int .i64 x6)) h := by kernel_rfl
    exact e ▸ hS
  · intro e g' h' hq
    cases e with
    | normal =>
      have hq : D5 (fun z0b z0n z0c z3 z5 z6 z9b z9n z9c h => n6 z0b z0n z0c z3 z5 z6 z9b z9n z9c Kn Kr h) g' h' := hq
      obtain ⟨y0b, y0n, y0c, y3, y5, y6, y9b, y9n, y9c, hg', hq⟩ := D5_ok hq
      exact n6_ok y0b y0n y0c y3 y5 y6 y9b y9n y9c Kn Kr g' hg' h' hq
    | _ => exact hq
def Q8 (Kn : T4) (Kr : T0) : XPost
  | .normal, g, h => D4 Kn g h
  | .ret, g, h => D0 Kr g h
  | _, _, _ => False
noncomputable def n17_c1 : Code := cFst n4_c1
noncomputable def n17_c2 : Code := cSnd n4_c1
abbrev T9 := (Option Addr) → Nat → Nat → Addr → Int → Int → Int → H → Prop
def E9 (g : Env) (x0b : Option Addr) (x0n : Nat) (x0c : Nat) (x3 : Addr) (x5 : Int) (x6 : Int) (x7 : Int) : Prop := g.v 0 = (.slice x0b x0n x0c) ∧ g.v 3 = (.pointer (some x3)) ∧ g.v 5 = (.int .i64 x5) ∧ g.v 6 = (.int .i64 x6) ∧ g.v 7 = (.int .i64 x7) ∧ g.ds = []
def D9 (K : T9) (g : Env) (h : H) : Prop := nilDs g.ds (vSlice (g.v 0) fun s171b s171n s171c => vAddr (g.v 3) fun a172 => vInt .i64 (g.v 5) fun i173 => vInt .i64 (g.v 6) fun i174 => vInt .i64 (g.v 7) fun i175 => K s171b s171n s171c a172 i173 i174 i175 h)
theorem D9_ok {K : T9} {g : Env} {h : H} (hq : D9 K g h) : ∃ (x0b : Option Addr) (x0n : Nat) (x0c : Nat) (x3 : Addr) (x5 : Int) (x6 : Int) (x7 : Int), E9 g x0b x0n x0c x3 x5 x6 x7 ∧ K x0b x0n x0c x3 x5 x6 x7 h := by
  obtain ⟨hd, hq⟩ := nilDs_ok hq
  obtain ⟨y177b, y177n, y177c, e176, q178⟩ := vSlice_ok hq
  obtain ⟨y180, e179, q181⟩ := vAddr_ok q178
  obtain ⟨y183, e182, q184⟩ := vInt_ok q181
  obtain ⟨y186, e185, q187⟩ := vInt_ok q184
  obtain ⟨y189, e188, q190⟩ := vInt_ok q187
  exact ⟨y177b, y177n, y177c, y180, y183, y186, y189, ⟨e176, e179, e182, e185, e188, hd⟩, q190⟩
noncomputable def n18_c1 : Code := cFst n17_c2
def Q9 (Kn : T4) (Ke0 : T4) (Kr : T0) : XPost
  | .normal, g, h => D4 Kn g h
  | .ret, g, h => D0 Kr g h
  | .exit id, g, h => cond (Nat.beq id 0) (D4 Ke0 g h) (False)
  | _, _, _ => False
noncomputable def n19_c1 : Code := cFst n18_c1
def Q10 (Kn : T9) (Ke0 : T4) (Kr : T0) : XPost
  | .normal, g, h => D9 Kn g h
  | .ret, g, h => D0 Kr g h
  | .exit id, g, h => cond (Nat.beq id 0) (D4 Ke0 g h) (False)
  | _, _, _ => False
noncomputable def n20_c1 : Code := cFst n19_c1
noncomputable def n20_c2 : Code := cSnd n19_c1
noncomputable def n21_c1 : Code := cFst n20_c2
noncomputable def n21_c2 : Code := cSnd n20_c2
abbrev n22 (x0b : Option Addr) (x0n : Nat) (x0c : Nat) (x3 : Addr) (x5 : Int) (x6 : Int) (x7 : Int) (Kn : T9) (Ke0 : T4) (Kr : T0) (h : H) : Prop :=
  Rng .i64 (x7 + (1 : Int)) ∧ (Kn x0b x0n x0c x3 x5 x6 (x7 + (1 : Int)) h)
theorem n22_ok (x0b : Option Addr) (x0n : Nat) (x0c : Nat) (x3 : Addr) (x5 : Int) (x6 : Int) (x7 : Int) (Kn : T9) (Ke0 : T4) (Kr : T0) (g : Env) (hg : E9 g x0b x0n x0c x3 x5 x6 x7) (h : H) (hS : n22 x0b x0n x0c x3 x5 x6 x7 Kn Ke0 Kr h) : wpC none Try.prog 60 n21_c2 (Q10 Kn Ke0 Kr) g h := by
  obtain ⟨hg0, hg3, hg5, hg6, hg7, hds⟩ := hg
  refine wpC_of_wpx (by kernel_rfl) (by kernel_rfl) (g' := (((((⟨g.v, []⟩ : Env).upd (some 0) (.slice x0b x0n x0c)).upd (some 3) (.pointer (some x3))).upd (some 5) (.int .i64 x5)).upd (some 6) (.int .i64 x6)).upd (some 7) (.int .i64 x7)) (by rw [env_ds hds, upd_self hg0, upd_self hg3, upd_self hg5, upd_self hg6, upd_self hg7]) ?_
  have e : (n22 x0b x0n x0c x3 x5 x6 x7 Kn Ke0 Kr h) = wpx none Try.prog 60 n21_c2 (Q10 Kn Ke0 Kr) ((((((⟨g.v, []⟩ : Env).upd (some 0) (.slice x0b x0n x0c)).upd (some 3) (.pointer (some x3))).upd (some 5) (.int .i64 x5)).upd (some 6) (.int .i64 x6)).upd (some 7) (.int .i64 x7)) h := by kernel_rfl
  exact e ▸ hS
abbrev n21 (x0b : Option Addr) (x0n : Nat) (x0c : Nat) (x3 : Addr) (x5 : Int) (x6 : Int) (x7 : Int) (Kn : T9) (Ke0 : T4) (Kr : T0) (h : H) : Prop :=
  ∃ i191, cell h ((x3).add 0) = some (.int .i64 i191) ∧ (∃ s192, cell h ((x3).add 1) = some (S s192) ∧ (∃ s193b s193n s193c, cell h ((x3).add 2) = some (.slice s193b s193n s193c) ∧ ((0 ≤ x7 ∧ x7 < (x0n : Int)) ∧ (vSome x0b fun a194 => ∃ i195, cell h (((a194.add (Int.toNat x7 * 3))).add 0) = some (.int .i64 i195) ∧ (∃ s196, cell h (((a194.add (Int.toNat x7 * 3))).add 1) = some (S s196) ∧ (∃ s197b s197n s197c, cell h (((a194.add (Int.toNat x7 * 3))).add 2) = some (.slice s197b s197n s197c) ∧ (HCalls Try.prog 27 ⟨[(.agg ⟨[(.int .i64 i191), (S s192), (.slice s193b s193n s193c)]⟩), (.agg ⟨[(.int .i64 i195), (S s196), (.slice s197b s197n s197c)]⟩)]⟩ h fun v198 h199 => vBool v198 fun b200 => cond b200 (Rng .i64 (x5 + (1 : Int)) ∧ (Spl (x6 < (0 : Int)) (n22 x0b x0n x0c x3 (x5 + (1 : Int)) x7 x7 Kn Ke0 Kr h199) (n22 x0b x0n x0c x3 (x5 + (1 : Int)) x6 x7 Kn Ke0 Kr h199))) (n22 x0b x0n x0c x3 x5 x6 x7 Kn Ke0 Kr h199))))))))
theorem n21_ok (x0b : Option Addr) (x0n : Nat) (x0c : Nat) (x3 : Addr) (x5 : Int) (x6 : Int) (x7 : Int) (Kn : T9) (Ke0 : T4) (Kr : T0) (g : Env) (hg : E9 g x0b x0n x0c x3 x5 x6 x7) (h : H) (hS : n21 x0b x0n x0c x3 x5 x6 x7 Kn Ke0 Kr h) : wpC none Try.prog 60 n20_c2 (Q10 Kn Ke0 Kr) g h := by
  obtain ⟨hg0, hg3, hg5, hg6, hg7, hds⟩ := hg
  refine wpC_seq' (x := n21_c1) (y := n21_c2) (Q' := (Q10 (fun z0b z0n z0c z3 z5 z6 z7 h => n22 z0b z0n z0c z3 z5 z6 z7 Kn Ke0 Kr h) Ke0 Kr)) (by kernel_rfl) ?_ ?_
  · refine wpC_of_wpx (by kernel_rfl) (by kernel_rfl) (g' := (((((⟨g.v, []⟩ : Env).upd (some 0) (.slice x0b x0n x0c)).upd (some 3) (.pointer (some x3))).upd (some 5) (.int .i64 x5)).upd (some 6) (.int .i64 x6)).upd (some 7) (.int .i64 x7)) (by rw [env_ds hds, upd_self hg0, upd_self hg3, upd_self hg5, upd_self hg6, upd_self hg7]) ?_
    have e : (n21 x0b x0n x0c x3 x5 x6 x7 Kn Ke0 Kr h) = wpx none Try.prog 60 n21_c1 (Q10 (fun z0b z0n z0c z3 z5 z6 z7 h => n22 z0b z0n z0c z3 z5 z6 z7 Kn Ke0 Kr h) Ke0 Kr) ((((((⟨g.v, []⟩ : Env).upd (some 0) (.slice x0b x0n x0c)).upd (some 3) (.pointer (some x3))).upd (some 5) (.int .i64 x5)).upd (some 6) (.int .i64 x6)).upd (some 7) (.int .i64 x7)) h := by kernel_rfl
    exact e ▸ hS
  · intro e g' h' hq
    cases e with
    | normal =>
      have hq : D9 (fun z0b z0n z0c z3 z5 z6 z7 h => n22 z0b z0n z0c z3 z5 z6 z7 Kn Ke0 Kr h) g' h' := hq
      obtain ⟨y0b, y0n, y0c, y3, y5, y6, y7, hg', hq⟩ := D9_ok hq
      exact n22_ok y0b y0n y0c y3 y5 y6 y7 Kn Ke0 Kr g' hg' h' hq
    | _ => exact hq
abbrev n20 (x0b : Option Addr) (x0n : Nat) (x0c : Nat) (x3 : Addr) (x5 : Int) (x6 : Int) (x7 : Int) (Kn : T9) (Ke0 : T4) (Kr : T0) (h : H) : Prop :=
  Spl (x7 < (x0n : Int)) (∃ i201, cell h (x3.add 0) = some (.int .i64 i201) ∧ (Spl (i201 ≥ (0 : Int)) (n21 x0b x0n x0c x3 x5 x6 x7 Kn Ke0 Kr h) (Ke0 x0b x0n x0c x3 x5 x6 h))) (Ke0 x0b x0n x0c x3 x5 x6 h)
theorem n20_ok (x0b : Option Addr) (x0n : Nat) (x0c : Nat) (x3 : Addr) (x5 : Int) (x6 : Int) (x7 : Int) (Kn : T9) (Ke0 : T4) (Kr : T0) (g : Env) (hg : E9 g x0b x0n x0c x3 x5 x6 x7) (h : H) (hS : n20 x0b x0n x0c x3 x5 x6 x7 Kn Ke0 Kr h) : wpC none Try.prog 60 n19_c1 (Q10 Kn Ke0 Kr) g h := by
  obtain ⟨hg0, hg3, hg5, hg6, hg7, hds⟩ := hg
  refine wpC_seq' (x := n20_c1) (y := n20_c2) (Q' := (Q10 (fun z0b z0n z0c z3 z5 z6 z7 h => n21 z0b z0n z0c z3 z5 z6 z7 Kn Ke0 Kr h) Ke0 Kr)) (by kernel_rfl) ?_ ?_
  · refine wpC_of_wpx (by kernel_rfl) (by kernel_rfl) (g' := (((((⟨g.v, []⟩ : Env).upd (some 0) (.slice x0b x0n x0c)).upd (some 3) (.pointer (some x3))).upd (some 5) (.int .i64 x5)).upd (some 6) (.int .i64 x6)).upd (some 7) (.int .i64 x7)) (by rw [env_ds hds, upd_self hg0, upd_self hg3, upd_self hg5, upd_self hg6, upd_self hg7]) ?_
    have e : (n20 x0b x0n x0c x3 x5 x6 x7 Kn Ke0 Kr h) = wpx none Try.prog 60 n20_c1 (Q10 (fun z0b z0n z0c z3 z5 z6 z7 h => n21 z0b z0n z0c z3 z5 z6 z7 Kn Ke0 Kr h) Ke0 Kr) ((((((⟨g.v, []⟩ : Env).upd (some 0) (.slice x0b x0n x0c)).upd (some 3) (.pointer (some x3))).upd (some 5) (.int .i64 x5)).upd (some 6) (.int .i64 x6)).upd (some 7) (.int .i64 x7)) h := by kernel_rfl
    exact e ▸ hS
  · intro e g' h' hq
    cases e with
    | normal =>
      have hq : D9 (fun z0b z0n z0c z3 z5 z6 z7 h => n21 z0b z0n z0c z3 z5 z6 z7 Kn Ke0 Kr h) g' h' := hq
      obtain ⟨y0b, y0n, y0c, y3, y5, y6, y7, hg', hq⟩ := D9_ok hq
      exact n21_ok y0b y0n y0c y3 y5 y6 y7 Kn Ke0 Kr g' hg' h' hq
    | _ => exact hq
def n19_L (Kn : T4) (Ke0 : T4) (Kr : T0) : Nat → (Option Addr) → Nat → Nat → Addr → Int → Int → Int → H → Prop
  | 0, _, _, _, _, _, _, _, _ => False
  | N + 1, x0b, x0n, x0c, x3, x5, x6, x7, h => n20 x0b x0n x0c x3 x5 x6 x7 (fun z0b z0n z0c z3 z5 z6 z7 h => n19_L Kn Ke0 Kr N z0b z0n z0c z3 z5 z6 z7 h) Ke0 Kr h
abbrev n19 (x0b : Option Addr) (x0n : Nat) (x0c : Nat) (x3 : Addr) (x5 : Int) (x6 : Int) (x7 : Int) (Kn : T4) (Ke0 : T4) (Kr : T0) (h : H) : Prop := ∃ N, n19_L Kn Ke0 Kr N x0b x0n x0c x3 x5 x6 x7 h
theorem n19_ok (x0b : Option Addr) (x0n : Nat) (x0c : Nat) (x3 : Addr) (x5 : Int) (x6 : Int) (x7 : Int) (Kn : T4) (Ke0 : T4) (Kr : T0) (g : Env) (hg : E9 g x0b x0n x0c x3 x5 x6 x7) (h : H) (hS : n19 x0b x0n x0c x3 x5 x6 x7 Kn Ke0 Kr h) : wpC none Try.prog 60 n18_c1 (Q9 Kn Ke0 Kr) g h := by
  obtain ⟨N0, hS⟩ := hS
  refine wpC_loop' (x := n19_c1) (by kernel_rfl) (fun k g h => ∃ (x0b : Option Addr) (x0n : Nat) (x0c : Nat) (x3 : Addr) (x5 : Int) (x6 : Int) (x7 : Int), E9 g x0b x0n x0c x3 x5 x6 x7 ∧ n19_L Kn Ke0 Kr k x0b x0n x0c x3 x5 x6 x7 h) (fun g h hr => ?_) (fun N g h hr => ?_) N0 ⟨x0b, x0n, x0c, x3, x5, x6, x7, hg, hS⟩
  · obtain ⟨x0b, x0n, x0c, x3, x5, x6, x7, hg, hS⟩ := hr
    exact hS.elim
  · obtain ⟨x0b, x0n, x0c, x3, x5, x6, x7, hg, hS⟩ := hr
    refine (n20_ok x0b x0n x0c x3 x5 x6 x7 (fun z0b z0n z0c z3 z5 z6 z7 h => n19_L Kn Ke0 Kr N z0b z0n z0c z3 z5 z6 z7 h) Ke0 Kr g hg h hS).mono ?_
    intro e g' h' hq
    cases e with
    | normal => exact D9_ok (K := (fun z0b z0n z0c z3 z5 z6 z7 h => n19_L Kn Ke0 Kr N z0b z0n z0c z3 z5 z6 z7 h)) hq
    | _ => exact hq
abbrev n18 (x0b : Option Addr) (x0n : Nat) (x0c : Nat) (x3 : Addr) (x5 : Int) (x6 : Int) (x7 : Int) (Kn : T4) (Kr : T0) (h : H) : Prop := n19 x0b x0n x0c x3 x5 x6 x7 Kn Kn Kr h
theorem n18_ok (x0b : Option Addr) (x0n : Nat) (x0c : Nat) (x3 : Addr) (x5 : Int) (x6 : Int) (x7 : Int) (Kn : T4) (Kr : T0) (g : Env) (hg : E9 g x0b x0n x0c x3 x5 x6 x7) (h : H) (hS : n18 x0b x0n x0c x3 x5 x6 x7 Kn Kr h) : wpC none Try.prog 60 n17_c2 (Q8 Kn Kr) g h := by
  refine wpC_block' (id := 0) (x := n18_c1) (by kernel_rfl) (n19_ok x0b x0n x0c x3 x5 x6 x7 Kn Kn Kr g hg h hS) ?_
  intro e g' h' hq
  cases e <;> exact hq
def Q11 (Kn : T9) (Kr : T0) : XPost
  | .normal, g, h => D9 Kn g h
  | .ret, g, h => D0 Kr g h
  | _, _, _ => False
abbrev n17 (x0b : Option Addr) (x0n : Nat) (x0c : Nat) (x3 : Addr) (x5 : Int) (x6 : Int) (Kn : T4) (Kr : T0) (h : H) : Prop :=
  HCalls Try.prog 26 ⟨[(.slice x0b x0n x0c)]⟩ h fun v202 h203 => vInt .i64 v202 fun i204 => n18 x0b x0n x0c x3 x5 x6 i204 Kn Kr h203
theorem n17_ok (x0b : Option Addr) (x0n : Nat) (x0c : Nat) (x3 : Addr) (x5 : Int) (x6 : Int) (Kn : T4) (Kr : T0) (g : Env) (hg : E4 g x0b x0n x0c x3 x5 x6) (h : H) (hS : n17 x0b x0n x0c x3 x5 x6 Kn Kr h) : wpC none Try.prog 60 n4_c1 (Q8 Kn Kr) g h := by
  obtain ⟨hg0, hg3, hg5, hg6, hds⟩ := hg
  refine wpC_seq' (x := n17_c1) (y := n17_c2) (Q' := (Q11 (fun z0b z0n z0c z3 z5 z6 z7 h => n18 z0b z0n z0c z3 z5 z6 z7 Kn Kr h) Kr)) (by kernel_rfl) ?_ ?_
  · refine wpC_of_wpx (by kernel_rfl) (by kernel_rfl) (g' := ((((⟨g.v, []⟩ : Env).upd (some 0) (.slice x0b x0n x0c)).upd (some 3) (.pointer (some x3))).upd (some 5) (.int .i64 x5)).upd (some 6) (.int .i64 x6)) (by rw [env_ds hds, upd_self hg0, upd_self hg3, upd_self hg5, upd_self hg6]) ?_
    have e : (n17 x0b x0n x0c x3 x5 x6 Kn Kr h) = wpx none Try.prog 60 n17_c1 (Q11 (fun z0b z0n z0c z3 z5 z6 z7 h => n18 z0b z0n z0c z3 z5 z6 z7 Kn Kr h) Kr) (((((⟨g.v, []⟩ : Env).upd (some 0) (.slice x0b x0n x0c)).upd (some 3) (.pointer (some x3))).upd (some 5) (.int .i64 x5)).upd (some 6) (.int .i64 x6)) h := by kernel_rfl
    exact e ▸ hS
  · intro e g' h' hq
    cases e with
    | normal =>
      have hq : D9 (fun z0b z0n z0c z3 z5 z6 z7 h => n18 z0b z0n z0c z3 z5 z6 z7 Kn Kr h) g' h' := hq
      obtain ⟨y0b, y0n, y0c, y3, y5, y6, y7, hg', hq⟩ := D9_ok hq
      exact n18_ok y0b y0n y0c y3 y5 y6 y7 Kn Kr g' hg' h' hq
    | _ => exact hq
abbrev n4 (x0b : Option Addr) (x0n : Nat) (x0c : Nat) (x3 : Addr) (x5 : Int) (x6 : Int) (Kn : T0) (Kr : T0) (h : H) : Prop := n17 x0b x0n x0c x3 x5 x6 (fun z0b z0n z0c z3 z5 z6 h => n5 z0b z0n z0c z3 z5 z6 Kn Kr h) Kr h
theorem n4_ok (x0b : Option Addr) (x0n : Nat) (x0c : Nat) (x3 : Addr) (x5 : Int) (x6 : Int) (Kn : T0) (Kr : T0) (g : Env) (hg : E4 g x0b x0n x0c x3 x5 x6) (h : H) (hS : n4 x0b x0n x0c x3 x5 x6 Kn Kr h) : wpC none Try.prog 60 n3_c2 (Q0 Kn Kr) g h := by
  refine wpC_seq' (x := n4_c1) (y := n4_c2) (by kernel_rfl) (n17_ok x0b x0n x0c x3 x5 x6 (fun z0b z0n z0c z3 z5 z6 h => n5 z0b z0n z0c z3 z5 z6 Kn Kr h) Kr g hg h hS) ?_
  intro e g' h' hq
  cases e with
  | normal =>
    have hq : D4 (fun z0b z0n z0c z3 z5 z6 h => n5 z0b z0n z0c z3 z5 z6 Kn Kr h) g' h' := hq
    obtain ⟨y0b, y0n, y0c, y3, y5, y6, hg', hq⟩ := D4_ok hq
    exact n5_ok y0b y0n y0c y3 y5 y6 Kn Kr g' hg' h' hq
  | _ => exact hq
abbrev n3 (x0b : Option Addr) (x0n : Nat) (x0c : Nat) (x3 : Addr) (x5 : Int) (Kn : T0) (Kr : T0) (h : H) : Prop :=
  n4 x0b x0n x0c x3 x5 (-1 : Int) Kn Kr h
theorem n3_ok (x0b : Option Addr) (x0n : Nat) (x0c : Nat) (x3 : Addr) (x5 : Int) (Kn : T0) (Kr : T0) (g : Env) (hg : E3 g x0b x0n x0c x3 x5) (h : H) (hS : n3 x0b x0n x0c x3 x5 Kn Kr h) : wpC none Try.prog 60 n2_c2 (Q0 Kn Kr) g h := by
  obtain ⟨hg0, hg3, hg5, hds⟩ := hg
  refine wpC_seq' (x := n3_c1) (y := n3_c2) (Q' := (Q8 (fun z0b z0n z0c z3 z5 z6 h => n4 z0b z0n z0c z3 z5 z6 Kn Kr h) Kr)) (by kernel_rfl) ?_ ?_
  · refine wpC_of_wpx (by kernel_rfl) (by kernel_rfl) (g' := (((⟨g.v, []⟩ : Env).upd (some 0) (.slice x0b x0n x0c)).upd (some 3) (.pointer (some x3))).upd (some 5) (.int .i64 x5)) (by rw [env_ds hds, upd_self hg0, upd_self hg3, upd_self hg5]) ?_
    have e : (n3 x0b x0n x0c x3 x5 Kn Kr h) = wpx none Try.prog 60 n3_c1 (Q8 (fun z0b z0n z0c z3 z5 z6 h => n4 z0b z0n z0c z3 z5 z6 Kn Kr h) Kr) ((((⟨g.v, []⟩ : Env).upd (some 0) (.slice x0b x0n x0c)).upd (some 3) (.pointer (some x3))).upd (some 5) (.int .i64 x5)) h := by kernel_rfl
    exact e ▸ hS
  · intro e g' h' hq
    cases e with
    | normal =>
      have hq : D4 (fun z0b z0n z0c z3 z5 z6 h => n4 z0b z0n z0c z3 z5 z6 Kn Kr h) g' h' := hq
      obtain ⟨y0b, y0n, y0c, y3, y5, y6, hg', hq⟩ := D4_ok hq
      exact n4_ok y0b y0n y0c y3 y5 y6 Kn Kr g' hg' h' hq
    | _ => exact hq
def Q12 (Kn : T3) (Kr : T0) : XPost
  | .normal, g, h => D3 Kn g h
  | .ret, g, h => D0 Kr g h
  | _, _, _ => False
abbrev n2 (x0b : Option Addr) (x0n : Nat) (x0c : Nat) (x3 : Addr) (Kn : T0) (Kr : T0) (h : H) : Prop :=
  n3 x0b x0n x0c x3 (0 : Int) Kn Kr h
theorem n2_ok (x0b : Option Addr) (x0n : Nat) (x0c : Nat) (x3 : Addr) (Kn : T0) (Kr : T0) (g : Env) (hg : E2 g x0b x0n x0c x3) (h : H) (hS : n2 x0b x0n x0c x3 Kn Kr h) : wpC none Try.prog 60 n1_c2 (Q0 Kn Kr) g h := by
  obtain ⟨hg0, hg3, hds⟩ := hg
  refine wpC_seq' (x := n2_c1) (y := n2_c2) (Q' := (Q12 (fun z0b z0n z0c z3 z5 h => n3 z0b z0n z0c z3 z5 Kn Kr h) Kr)) (by kernel_rfl) ?_ ?_
  · refine wpC_of_wpx (by kernel_rfl) (by kernel_rfl) (g' := ((⟨g.v, []⟩ : Env).upd (some 0) (.slice x0b x0n x0c)).upd (some 3) (.pointer (some x3))) (by rw [env_ds hds, upd_self hg0, upd_self hg3]) ?_
    have e : (n2 x0b x0n x0c x3 Kn Kr h) = wpx none Try.prog 60 n2_c1 (Q12 (fun z0b z0n z0c z3 z5 h => n3 z0b z0n z0c z3 z5 Kn Kr h) Kr) (((⟨g.v, []⟩ : Env).upd (some 0) (.slice x0b x0n x0c)).upd (some 3) (.pointer (some x3))) h := by kernel_rfl
    exact e ▸ hS
  · intro e g' h' hq
    cases e with
    | normal =>
      have hq : D3 (fun z0b z0n z0c z3 z5 h => n3 z0b z0n z0c z3 z5 Kn Kr h) g' h' := hq
      obtain ⟨y0b, y0n, y0c, y3, y5, hg', hq⟩ := D3_ok hq
      exact n3_ok y0b y0n y0c y3 y5 Kn Kr g' hg' h' hq
    | _ => exact hq
def Q13 (Kn : T2) (Kr : T0) : XPost
  | .normal, g, h => D2 Kn g h
  | .ret, g, h => D0 Kr g h
  | _, _, _ => False
abbrev n1 (x0b : Option Addr) (x0n : Nat) (x0c : Nat) (x1_0 : Int) (x1_1 : List UInt8) (x1_2b : Option Addr) (x1_2n : Nat) (x1_2c : Nat) (Kn : T0) (Kr : T0) (h : H) : Prop :=
  newx h ⟨[(.int .i64 x1_0), (S x1_1), (.slice x1_2b x1_2n x1_2c)]⟩ 25 fun a205 h206 => n2 x0b x0n x0c a205 Kn Kr h206
theorem n1_ok (x0b : Option Addr) (x0n : Nat) (x0c : Nat) (x1_0 : Int) (x1_1 : List UInt8) (x1_2b : Option Addr) (x1_2n : Nat) (x1_2c : Nat) (Kn : T0) (Kr : T0) (g : Env) (hg : E1 g x0b x0n x0c x1_0 x1_1 x1_2b x1_2n x1_2c) (h : H) (hS : n1 x0b x0n x0c x1_0 x1_1 x1_2b x1_2n x1_2c Kn Kr h) : wpC none Try.prog 60 code (Q0 Kn Kr) g h := by
  obtain ⟨hg0, hg1, hds⟩ := hg
  refine wpC_seq' (x := n1_c1) (y := n1_c2) (Q' := (Q13 (fun z0b z0n z0c z3 h => n2 z0b z0n z0c z3 Kn Kr h) Kr)) (by kernel_rfl) ?_ ?_
  · refine wpC_of_wpx (by kernel_rfl) (by kernel_rfl) (g' := ((⟨g.v, []⟩ : Env).upd (some 0) (.slice x0b x0n x0c)).upd (some 1) (.agg ⟨[(.int .i64 x1_0), (S x1_1), (.slice x1_2b x1_2n x1_2c)]⟩)) (by rw [env_ds hds, upd_self hg0, upd_self hg1]) ?_
    have e : (n1 x0b x0n x0c x1_0 x1_1 x1_2b x1_2n x1_2c Kn Kr h) = wpx none Try.prog 60 n1_c1 (Q13 (fun z0b z0n z0c z3 h => n2 z0b z0n z0c z3 Kn Kr h) Kr) (((⟨g.v, []⟩ : Env).upd (some 0) (.slice x0b x0n x0c)).upd (some 1) (.agg ⟨[(.int .i64 x1_0), (S x1_1), (.slice x1_2b x1_2n x1_2c)]⟩)) h := by kernel_rfl
    exact e ▸ hS
  · intro e g' h' hq
    cases e with
    | normal =>
      have hq : D2 (fun z0b z0n z0c z3 h => n2 z0b z0n z0c z3 Kn Kr h) g' h' := hq
      obtain ⟨y0b, y0n, y0c, y3, hg', hq⟩ := D2_ok hq
      exact n2_ok y0b y0n y0c y3 Kn Kr g' hg' h' hq
    | _ => exact hq
/-- WHAT tympan/tympanref12.Push ASKS -/
abbrev asks (x0b : Option Addr) (x0n : Nat) (x0c : Nat) (x1_0 : Int) (x1_1 : List UInt8) (x1_2b : Option Addr) (x1_2n : Nat) (x1_2c : Nat) (K : Value → H → Prop) (h : H) : Prop := n1 x0b x0n x0c x1_0 x1_1 x1_2b x1_2n x1_2c (fun y4b y4n y4c h => K (.slice y4b y4n y4c) h) (fun y4b y4n y4c h => K (.slice y4b y4n y4c) h) h
theorem ok (x0b : Option Addr) (x0n : Nat) (x0c : Nat) (x1_0 : Int) (x1_1 : List UInt8) (x1_2b : Option Addr) (x1_2n : Nat) (x1_2c : Nat) (K : Value → H → Prop) (h : H) (hS : asks x0b x0n x0c x1_0 x1_1 x1_2b x1_2n x1_2c K h) : HCalls Try.prog 11 ⟨[(.slice x0b x0n x0c), (.agg ⟨[(.int .i64 x1_0), (S x1_1), (.slice x1_2b x1_2n x1_2c)]⟩)]⟩ h K := by
  refine calls_of_wpC (c := code) Try.func11 (by kernel_rfl) (Nat.le_of_ble_eq_true (by kernel_rfl)) ?_
  refine (n1_ok x0b x0n x0c x1_0 x1_1 x1_2b x1_2n x1_2c (fun y4b y4n y4c h => K (.slice y4b y4n y4c) h) (fun y4b y4n y4c h => K (.slice y4b y4n y4c) h) (env0 [(.slice x0b x0n x0c), (.agg ⟨[(.int .i64 x1_0), (S x1_1), (.slice x1_2b x1_2n x1_2c)]⟩)]) ⟨rfl, rfl, rfl⟩ h hS).mono ?_
  intro e g' h' hq
  cases e with
  | normal =>
    have hq : D0 (fun y4b y4n y4c h => K (.slice y4b y4n y4c) h) g' h' := hq
    obtain ⟨y4b, y4n, y4c, ⟨hg4, hd⟩, hq⟩ := D0_ok hq
    show leaveX g'.ds h' _
    rw [hd]
    show K (g'.v 4) h'
    rw [hg4]
    exact hq
  | ret =>
    have hq : D0 (fun y4b y4n y4c h => K (.slice y4b y4n y4c) h) g' h' := hq
    obtain ⟨y4b, y4n, y4c, ⟨hg4, hd⟩, hq⟩ := D0_ok hq
    show leaveX g'.ds h' _
    rw [hd]
    show K (g'.v 4) h'
    rw [hg4]
    exact hq
  | _ => exact hq
end Sx.r12_Push

/-! ### tympan/tympanlaw12.known -/
namespace Sx.l12_known
noncomputable def code : Code := bodyOf Try.f12
abbrev T0 := Bool → H → Prop
def E0 (g : Env) (x0 : Bool) : Prop := g.v 0 = (.bool x0) ∧ g.ds = []
def D0 (K : T0) (g : Env) (h : H) : Prop := nilDs g.ds (vBool (g.v 0) fun b1 => K b1 h)
theorem D0_ok {K : T0} {g : Env} {h : H} (hq : D0 K g h) : ∃ (x0 : Bool), E0 g x0 ∧ K x0 h := by
  obtain ⟨hd, hq⟩ := nilDs_ok hq
  obtain ⟨y3, e2, q4⟩ := vBool_ok hq
  exact ⟨y3, ⟨e2, hd⟩, q4⟩
def Q0 (Kn : T0) (Kr : T0) : XPost
  | .normal, g, h => D0 Kn g h
  | .ret, g, h => D0 Kr g h
  | _, _, _ => False
abbrev T1 := H → Prop
def E1 (g : Env)  : Prop := g.ds = []
def D1 (K : T1) (g : Env) (h : H) : Prop := nilDs g.ds (K h)
theorem D1_ok {K : T1} {g : Env} {h : H} (hq : D1 K g h) : E1 g  ∧ K  h := by
  obtain ⟨hd, hq⟩ := nilDs_ok hq
  skip
  exact ⟨hd, hq⟩
abbrev n1  (Kn : T0) (Kr : T0) (h : H) : Prop :=
  HCalls Try.prog 28 ⟨[(.int .i64 (1 : Int))]⟩ h fun v5 h6 => vAgg v5 fun l7 => uncons l7 fun e8 l9 => vInt .i64 e8 fun i10 => uncons l9 fun e11 l12 => vStr e11 fun s13 => uncons l12 fun e14 l15 => vSlice e14 fun s16b s16n s16c => unnil l15 (HCalls Try.prog 28 ⟨[(.int .i64 (2 : Int))]⟩ h6 fun v17 h18 => vAgg v17 fun l19 => uncons l19 fun e20 l21 => vInt .i64 e20 fun i22 => uncons l21 fun e23 l24 => vStr e23 fun s25 => uncons l24 fun e26 l27 => vSlice e26 fun s28b s28n s28c => unnil l27 (HCalls Try.prog 28 ⟨[(.int .i64 (3 : Int))]⟩ h18 fun v29 h30 => vAgg v29 fun l31 => uncons l31 fun e32 l33 => vInt .i64 e32 fun i34 => uncons l33 fun e35 l36 => vStr e35 fun s37 => uncons l36 fun e38 l39 => vSlice e38 fun s40b s40n s40c => unnil l39 (newx h30 #[(.int .i64 i10), (S s13), (.slice s16b s16n s16c), (.int .i64 i22), (S s25), (.slice s28b s28n s28c), (.int .i64 i34), (S s37), (.slice s40b s40n s40c)] 25 fun a41 h42 => HCalls Try.prog 28 ⟨[(.int .i64 (4 : Int))]⟩ h42 fun v43 h44 => vAgg v43 fun l45 => uncons l45 fun e46 l47 => vInt .i64 e46 fun i48 => uncons l47 fun e49 l50 => vStr e49 fun s51 => uncons l50 fun e52 l53 => vSlice e52 fun s54b s54n s54c => unnil l53 (HCalls Try.prog 9 ⟨[(.slice (some a41) 3 3), (.agg ⟨[(.int .i64 i48), (S s51), (.slice s54b s54n s54c)]⟩)]⟩ h44 fun v55 h56 => vSlice v55 fun s57b s57n s57c => HCalls Try.prog 28 ⟨[(.int .i64 (1 : Int))]⟩ h56 fun v58 h59 => vAgg v58 fun l60 => uncons l60 fun e61 l62 => vInt .i64 e61 fun i63 => uncons l62 fun e64 l65 => vStr e64 fun s66 => uncons l65 fun e67 l68 => vSlice e67 fun s69b s69n s69c => unnil l68 (HCalls Try.prog 28 ⟨[(.int .i64 (2 : Int))]⟩ h59 fun v70 h71 => vAgg v70 fun l72 => uncons l72 fun e73 l74 => vInt .i64 e73 fun i75 => uncons l74 fun e76 l77 => vStr e76 fun s78 => uncons l77 fun e79 l80 => vSlice e79 fun s81b s81n s81c => unnil l80 (HCalls Try.prog 28 ⟨[(.int .i64 (3 : Int))]⟩ h71 fun v82 h83 => vAgg v82 fun l84 => uncons l84 fun e85 l86 => vInt .i64 e85 fun i87 => uncons l86 fun e88 l89 => vStr e88 fun s90 => uncons l89 fun e91 l92 => vSlice e91 fun s93b s93n s93c => unnil l92 (newx h83 #[(.int .i64 i63), (S s66), (.slice s69b s69n s69c), (.int .i64 i75), (S s78), (.slice s81b s81n s81c), (.int .i64 (-1 : Int)), (S ([] : List UInt8)), (.slice none 0 0), (.int .i64 i87), (S s90), (.slice s93b s93n s93c)] 25 fun a94 h95 => HCalls Try.prog 28 ⟨[(.int .i64 (4 : Int))]⟩ h95 fun v96 h97 => vAgg v96 fun l98 => uncons l98 fun e99 l100 => vInt .i64 e99 fun i101 => uncons l100 fun e102 l103 => vStr e102 fun s104 => uncons l103 fun e105 l106 => vSlice e105 fun s107b s107n s107c => unnil l106 (HCalls Try.prog 9 ⟨[(.slice (some a94) 4 4), (.agg ⟨[(.int .i64 i101), (S s104), (.slice s107b s107n s107c)]⟩)]⟩ h97 fun v108 h109 => vSlice v108 fun s110b s110n s110c => HCalls Try.prog 28 ⟨[(.int .i64 (1 : Int))]⟩ h109 fun v111 h112 => vAgg v111 fun l113 => uncons l113 fun e114 l115 => vInt .i64 e114 fun i116 => uncons l115 fun e117 l118 => vStr e117 fun s119 => uncons l118 fun e120 l121 => vSlice e120 fun s122b s122n s122c => unnil l121 (HCalls Try.prog 28 ⟨[(.int .i64 (2 : Int))]⟩ h112 fun v123 h124 => vAgg v123 fun l125 => uncons l125 fun e126 l127 => vInt .i64 e126 fun i128 => uncons l127 fun e129 l130 => vStr e129 fun s131 => uncons l130 fun e132 l133 => vSlice e132 fun s134b s134n s134c => unnil l133 (HCalls Try.prog 28 ⟨[(.int .i64 (3 : Int))]⟩ h124 fun v135 h136 => vAgg v135 fun l137 => uncons l137 fun e138 l139 => vInt .i64 e138 fun i140 => uncons l139 fun e141 l142 => vStr e141 fun s143 => uncons l142 fun e144 l145 => vSlice e144 fun s146b s146n s146c => unnil l145 (newx h136 #[(.int .i64 i116), (S s119), (.slice s122b s122n s122c), (.int .i64 i128), (S s131), (.slice s134b s134n s134c), (.int .i64 i140), (S s143), (.slice s146b s146n s146c)] 25 fun a147 h148 => newx h148 #[(.int .i64 (1 : Int)), (.int .u8 (0 : Int)), (S ([] : List UInt8)), (.int .u8 (0 : Int))] 46 fun a149 h150 => HCalls Try.prog 19 ⟨[(.slice (some a147) 3 3), (.slice (some a149) 1 1)]⟩ h150 fun v151 h152 => vInt .i64 v151 fun i153 => Spl ((s57n : Int) = (3 : Int)) ((0 ≤ (0 : Int) ∧ (0 : Int) < (s57n : Int)) ∧ (vSome s57b fun a154 => ∃ i155, cell h152 ((a154.add (Int.toNat (0 : Int) * 3)).add 0) = some (.int .i64 i155) ∧ (Spl (i155 = (2 : Int)) ((0 ≤ (2 : Int) ∧ (2 : Int) < (s57n : Int)) ∧ (vSome s57b fun a156 => ∃ i157, cell h152 ((a156.add (Int.toNat (2 : Int) * 3)).add 0) = some (.int .i64 i157) ∧ (Spl (i157 = (4 : Int)) (Spl ((s110n : Int) = (5 : Int)) (Spl (i153 = (1 : Int)) (HCalls Try.prog 15 ⟨[(.slice s110b s110n s110c), (S ([98] : List UInt8))]⟩ h152 fun v158 h159 => vInt .i64 v158 fun i160 => Spl (i160 = (4 : Int)) (HCalls Try.prog 13 ⟨[(.slice s110b s110n s110c)]⟩ h159 fun v161 h162 => vSlice v161 fun s163b s163n s163c => Spl ((s163n : Int) = (2 : Int)) (HCalls Try.prog 17 ⟨[(.slice s110b s110n s110c), (.int .i64 (2 : Int))]⟩ h162 fun v164 h165 => vInt .i64 v164 fun i166 => Spl (i166 = (1 : Int)) (Kr true h165) (Kr false h165)) (Kr false h162)) (Kr false h159)) (Kr false h152)) (Kr false h152)) (Kr false h152)))) (Kr false h152)))) (Kr false h152))))))))))))
theorem n1_ok  (Kn : T0) (Kr : T0) (g : Env) (hg : E1 g ) (h : H) (hS : n1  Kn Kr h) : wpC none Try.prog 66 code (Q0 Kn Kr) g h := by
  have hds : g.ds = [] := hg
  refine wpC_of_wpx (by kernel_rfl) (by kernel_rfl) (g' := ⟨g.v, []⟩) (by rw [env_ds hds]) ?_
  have e : (n1  Kn Kr h) = wpx none Try.prog 66 code (Q0 Kn Kr) (⟨g.v, []⟩) h := by kernel_rfl
  exact e ▸ hS
/-- WHAT tympan/tympanlaw12.known ASKS -/
abbrev asks  (K : Value → H → Prop) (h : H) : Prop := n1  (fun y0 h => K (.bool y0) h) (fun y0 h => K (.bool y0) h) h
theorem ok  (K : Value → H → Prop) (h : H) (hS : asks  K h) : HCalls Try.prog 12 ⟨[]⟩ h K := by
  refine calls_of_wpC (c := code) Try.func12 (by kernel_rfl) (Nat.le_of_ble_eq_true (by kernel_rfl)) ?_
  refine (n1_ok  (fun y0 h => K (.bool y0) h) (fun y0 h => K (.bool y0) h) (env0 []) rfl h hS).mono ?_
  intro e g' h' hq
  cases e with
  | normal =>
    have hq : D0 (fun y0 h => K (.bool y0) h) g' h' := hq
    obtain ⟨y0, ⟨hg0, hd⟩, hq⟩ := D0_ok hq
    show leaveX g'.ds h' _
    rw [hd]
    show K (g'.v 0) h'
    rw [hg0]
    exact hq
  | ret =>
    have hq : D0 (fun y0 h => K (.bool y0) h) g' h' := hq
    obtain ⟨y0, ⟨hg0, hd⟩, hq⟩ := D0_ok hq
    show leaveX g'.ds h' _
    rw [hd]
    show K (g'.v 0) h'
    rw [hg0]
    exact hq
  | _ => exact hq
end Sx.l12_known
end Go.Proofs
