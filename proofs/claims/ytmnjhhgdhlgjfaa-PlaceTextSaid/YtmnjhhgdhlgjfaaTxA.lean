/- The shallow forms of functions, printed by sh.py out of the translation; each with its proof. No condition. -/
import Derived.Test.YtmnjhhgdhlgjfaaShJ
import Derived.Test.YtmnjhhgdhlgjfaaProg
namespace Go.Proofs
open Go Go.Sh
set_option linter.unusedVariables false
set_option maxRecDepth 100000

/-! ### (*tympan/dom.Tree).Parent -/
namespace Sx.dom_Tree_Parent
noncomputable def code : Code := bodyOf Try.f15
abbrev T0 := Int → H → Prop
def E0 (g : Env) (x4 : Int) : Prop := g.v 4 = (.int .i64 x4) ∧ g.ds = []
def D0 (K : T0) (g : Env) (h : H) : Prop := nilDs g.ds (vInt .i64 (g.v 4) fun i1 => K i1 h)
theorem D0_ok {K : T0} {g : Env} {h : H} (hq : D0 K g h) : ∃ (x4 : Int), E0 g x4 ∧ K x4 h := by
  obtain ⟨hd, hq⟩ := nilDs_ok hq
  obtain ⟨y3, e2, q4⟩ := vInt_ok hq
  exact ⟨y3, ⟨e2, hd⟩, q4⟩
def Q0 (Kn : T0) (Kr : T0) : XPost
  | .normal, g, h => D0 Kn g h
  | .ret, g, h => D0 Kr g h
  | _, _, _ => False
abbrev T1 := (Option Addr) → Int → H → Prop
def E1 (g : Env) (x0 : Option Addr) (x1 : Int) : Prop := g.v 0 = (.pointer x0) ∧ g.v 1 = (.int .i64 x1) ∧ g.ds = []
def D1 (K : T1) (g : Env) (h : H) : Prop := nilDs g.ds (vPtr (g.v 0) fun p5 => vInt .i64 (g.v 1) fun i6 => K p5 i6 h)
theorem D1_ok {K : T1} {g : Env} {h : H} (hq : D1 K g h) : ∃ (x0 : Option Addr) (x1 : Int), E1 g x0 x1 ∧ K x0 x1 h := by
  obtain ⟨hd, hq⟩ := nilDs_ok hq
  obtain ⟨y8, e7, q9⟩ := vPtr_ok hq
  obtain ⟨y11, e10, q12⟩ := vInt_ok q9
  exact ⟨y8, y11, ⟨e7, e10, hd⟩, q12⟩
abbrev n1 (x0 : Option Addr) (x1 : Int) (Kn : T0) (Kr : T0) (h : H) : Prop :=
  HCalls Try.prog 22 ⟨[(.pointer x0), (.int .i64 x1)]⟩ h fun v13 h14 => vPtr v13 fun p15 => SemH Try.prog (binS .eql 58 (.tmp 9) (.const (.pointer none)) (.pointer p15) (.pointer none)) h14 fun v16 h17 => vBool v16 fun b18 => cond b18 (Kr (-1 : Int) h17) (vSome p15 fun a19 => ∃ i20, cell h17 (a19.add 6) = some (.int .i64 i20) ∧ (Kr i20 h17))
theorem n1_ok (x0 : Option Addr) (x1 : Int) (Kn : T0) (Kr : T0) (g : Env) (hg : E1 g x0 x1) (h : H) (hS : n1 x0 x1 Kn Kr h) : wpC none Try.prog 15 code (Q0 Kn Kr) g h := by
  obtain ⟨hg0, hg1, hds⟩ := hg
  refine wpC_of_wpx (by kernel_rfl) (by kernel_rfl) (g' := ((⟨g.v, []⟩ : Env).upd (some 0) (.pointer x0)).upd (some 1) (.int .i64 x1)) (by rw [env_ds hds, upd_self hg0, upd_self hg1]) ?_
  have e : (n1 x0 x1 Kn Kr h) = wpx none Try.prog 15 code (Q0 Kn Kr) (((⟨g.v, []⟩ : Env).upd (some 0) (.pointer x0)).upd (some 1) (.int .i64 x1)) h := by kernel_rfl
  exact e ▸ hS
/-- WHAT (*tympan/dom.Tree).Parent ASKS -/
abbrev asks (x0 : Option Addr) (x1 : Int) (K : Value → H → Prop) (h : H) : Prop := n1 x0 x1 (fun y4 h => K (.int .i64 y4) h) (fun y4 h => K (.int .i64 y4) h) h
theorem ok (x0 : Option Addr) (x1 : Int) (K : Value → H → Prop) (h : H) (hS : asks x0 x1 K h) : HCalls Try.prog 15 ⟨[(.pointer x0), (.int .i64 x1)]⟩ h K := by
  refine calls_of_wpC (c := code) Try.func15 (by kernel_rfl) (Nat.le_of_ble_eq_true (by kernel_rfl)) ?_
  refine (n1_ok x0 x1 (fun y4 h => K (.int .i64 y4) h) (fun y4 h => K (.int .i64 y4) h) (env0 [(.pointer x0), (.int .i64 x1)]) ⟨rfl, rfl, rfl⟩ h hS).mono ?_
  intro e g' h' hq
  cases e with
  | normal =>
    have hq : D0 (fun y4 h => K (.int .i64 y4) h) g' h' := hq
    obtain ⟨y4, ⟨hg4, hd⟩, hq⟩ := D0_ok hq
    show leaveX g'.ds h' _
    rw [hd]
    show K (g'.v 4) h'
    rw [hg4]
    exact hq
  | ret =>
    have hq : D0 (fun y4 h => K (.int .i64 y4) h) g' h' := hq
    obtain ⟨y4, ⟨hg4, hd⟩, hq⟩ := D0_ok hq
    show leaveX g'.ds h' _
    rw [hd]
    show K (g'.v 4) h'
    rw [hg4]
    exact hq
  | _ => exact hq
end Sx.dom_Tree_Parent

/-! ### tympan/dom.New -/
namespace Sx.dom_New
noncomputable def code : Code := bodyOf Try.f17
abbrev T0 := (Option Addr) → H → Prop
def E0 (g : Env) (x0 : Option Addr) : Prop := g.v 0 = (.pointer x0) ∧ g.ds = []
def D0 (K : T0) (g : Env) (h : H) : Prop := nilDs g.ds (vPtr (g.v 0) fun p1 => K p1 h)
theorem D0_ok {K : T0} {g : Env} {h : H} (hq : D0 K g h) : ∃ (x0 : Option Addr), E0 g x0 ∧ K x0 h := by
  obtain ⟨hd, hq⟩ := nilDs_ok hq
  obtain ⟨y3, e2, q4⟩ := vPtr_ok hq
  exact ⟨y3, ⟨e2, hd⟩, q4⟩
def Q0 (Kn : T0) (Kr : T0) : XPost
  | .normal, g, h => D0 Kn g h
  | .ret, g, h => D0 Kr g h
  | _, _, _ => False
abbrev T1 := H → Prop
def E1 (g : Env)  : Prop := g.ds = []
def D1 (K : T1) (g : Env) (h : H) : Prop := nilDs g.ds (K h)
theorem D1_ok {K : T1} {g : Env} {h : H} (hq : D1 K g h) : E1 g  ∧ K  h := by
  obtain ⟨hd, hq⟩ := nilDs_ok hq
  skip
  exact ⟨hd, hq⟩
abbrev n1  (Kn : T0) (Kr : T0) (h : H) : Prop :=
  newx h ⟨[(.int .u8 (0 : Int)), (.int .u8 (0 : Int)), (S ([] : List UInt8)), (.slice none 0 0), (S ([] : List UInt8)), (.slice none 0 0), (.int .i64 (-1 : Int)), (.slice none 0 0)]⟩ 62 fun a5 h6 => newx h6 #[(.pointer (some a5))] 58 fun a7 h8 => newx h8 ⟨[(.slice (some a7) 1 1)]⟩ 65 fun a9 h10 => Kr (some a9) h10
theorem n1_ok  (Kn : T0) (Kr : T0) (g : Env) (hg : E1 g ) (h : H) (hS : n1  Kn Kr h) : wpC none Try.prog 6 code (Q0 Kn Kr) g h := by
  have hds : g.ds = [] := hg
  refine wpC_of_wpx (by kernel_rfl) (by kernel_rfl) (g' := ⟨g.v, []⟩) (by rw [env_ds hds]) ?_
  have e : (n1  Kn Kr h) = wpx none Try.prog 6 code (Q0 Kn Kr) (⟨g.v, []⟩) h := by kernel_rfl
  exact e ▸ hS
/-- WHAT tympan/dom.New ASKS -/
abbrev asks  (K : Value → H → Prop) (h : H) : Prop := n1  (fun y0 h => K (.pointer y0) h) (fun y0 h => K (.pointer y0) h) h
theorem ok  (K : Value → H → Prop) (h : H) (hS : asks  K h) : HCalls Try.prog 17 ⟨[]⟩ h K := by
  refine calls_of_wpC (c := code) Try.func17 (by kernel_rfl) (Nat.le_of_ble_eq_true (by kernel_rfl)) ?_
  refine (n1_ok  (fun y0 h => K (.pointer y0) h) (fun y0 h => K (.pointer y0) h) (env0 []) rfl h hS).mono ?_
  intro e g' h' hq
  cases e with
  | normal =>
    have hq : D0 (fun y0 h => K (.pointer y0) h) g' h' := hq
    obtain ⟨y0, ⟨hg0, hd⟩, hq⟩ := D0_ok hq
    show leaveX g'.ds h' _
    rw [hd]
    show K (g'.v 0) h'
    rw [hg0]
    exact hq
  | ret =>
    have hq : D0 (fun y0 h => K (.pointer y0) h) g' h' := hq
    obtain ⟨y0, ⟨hg0, hd⟩, hq⟩ := D0_ok hq
    show leaveX g'.ds h' _
    rw [hd]
    show K (g'.v 0) h'
    rw [hg0]
    exact hq
  | _ => exact hq
end Sx.dom_New

/-! ### (*tympan/dom.Tree).Make -/
namespace Sx.dom_Tree_Make
noncomputable def code : Code := bodyOf Try.f18
abbrev T0 := Int → H → Prop
def E0 (g : Env) (x4 : Int) : Prop := g.v 4 = (.int .i64 x4) ∧ g.ds = []
def D0 (K : T0) (g : Env) (h : H) : Prop := nilDs g.ds (vInt .i64 (g.v 4) fun i1 => K i1 h)
theorem D0_ok {K : T0} {g : Env} {h : H} (hq : D0 K g h) : ∃ (x4 : Int), E0 g x4 ∧ K x4 h := by
  obtain ⟨hd, hq⟩ := nilDs_ok hq
  obtain ⟨y3, e2, q4⟩ := vInt_ok hq
  exact ⟨y3, ⟨e2, hd⟩, q4⟩
def Q0 (Kn : T0) (Kr : T0) : XPost
  | .normal, g, h => D0 Kn g h
  | .ret, g, h => D0 Kr g h
  | _, _, _ => False
abbrev T1 := (Option Addr) → Int → Int → (List UInt8) → (Option Addr) → Nat → Nat → (List UInt8) → (Option Addr) → Nat → Nat → H → Prop
def E1 (g : Env) (x0 : Option Addr) (x1_0 : Int) (x1_1 : Int) (x1_2 : List UInt8) (x1_3b : Option Addr) (x1_3n : Nat) (x1_3c : Nat) (x1_4 : List UInt8) (x1_5b : Option Addr) (x1_5n : Nat) (x1_5c : Nat) : Prop := g.v 0 = (.pointer x0) ∧ g.v 1 = (.agg ⟨[(.int .u8 x1_0), (.int .u8 x1_1), (S x1_2), (.slice x1_3b x1_3n x1_3c), (S x1_4), (.slice x1_5b x1_5n x1_5c)]⟩) ∧ g.ds = []
def D1 (K : T1) (g : Env) (h : H) : Prop := nilDs g.ds (vPtr (g.v 0) fun p5 => vAgg (g.v 1) fun l6 => uncons l6 fun e7 l8 => vInt .u8 e7 fun i9 => uncons l8 fun e10 l11 => vInt .u8 e10 fun i12 => uncons l11 fun e13 l14 => vStr e13 fun s15 => uncons l14 fun e16 l17 => vSlice e16 fun s18b s18n s18c => uncons l17 fun e19 l20 => vStr e19 fun s21 => uncons l20 fun e22 l23 => vSlice e22 fun s24b s24n s24c => unnil l23 (K p5 i9 i12 s15 s18b s18n s18c s21 s24b s24n s24c h))
theorem D1_ok {K : T1} {g : Env} {h : H} (hq : D1 K g h) : ∃ (x0 : Option Addr) (x1_0 : Int) (x1_1 : Int) (x1_2 : List UInt8) (x1_3b : Option Addr) (x1_3n : Nat) (x1_3c : Nat) (x1_4 : List UInt8) (x1_5b : Option Addr) (x1_5n : Nat) (x1_5c : Nat), E1 g x0 x1_0 x1_1 x1_2 x1_3b x1_3n x1_3c x1_4 x1_5b x1_5n x1_5c ∧ K x0 x1_0 x1_1 x1_2 x1_3b x1_3n x1_3c x1_4 x1_5b x1_5n x1_5c h := by
  obtain ⟨hd, hq⟩ := nilDs_ok hq
  obtain ⟨y26, e25, q27⟩ := vPtr_ok hq
  obtain ⟨l29, e28, q30⟩ := vAgg_ok q27
  obtain ⟨u31, l32, rfl, q33⟩ := uncons_ok q30
  obtain ⟨y34, rfl, q35⟩ := vInt_ok q33
  obtain ⟨u36, l37, rfl, q38⟩ := uncons_ok q35
  obtain ⟨y39, rfl, q40⟩ := vInt_ok q38
  obtain ⟨u41, l42, rfl, q43⟩ := uncons_ok q40
  obtain ⟨y44, rfl, q45⟩ := vStr_ok q43
  obtain ⟨u46, l47, rfl, q48⟩ := uncons_ok q45
  obtain ⟨y49b, y49n, y49c, rfl, q50⟩ := vSlice_ok q48
  obtain ⟨u51, l52, rfl, q53⟩ := uncons_ok q50
  obtain ⟨y54, rfl, q55⟩ := vStr_ok q53
  obtain ⟨u56, l57, rfl, q58⟩ := uncons_ok q55
  obtain ⟨y59b, y59n, y59c, rfl, q60⟩ := vSlice_ok q58
  obtain ⟨rfl, q61⟩ := unnil_ok q60
  exact ⟨y26, y34, y39, y44, y49b, y49n, y49c, y54, y59b, y59n, y59c, ⟨e25, e28, hd⟩, q61⟩
noncomputable def n1_c1 : Code := cFst code
noncomputable def n1_c2 : Code := cSnd code
abbrev T2 := (Option Addr) → Addr → H → Prop
def E2 (g : Env) (x0 : Option Addr) (x3 : Addr) : Prop := g.v 0 = (.pointer x0) ∧ g.v 3 = (.pointer (some x3)) ∧ g.ds = []
def D2 (K : T2) (g : Env) (h : H) : Prop := nilDs g.ds (vPtr (g.v 0) fun p62 => vAddr (g.v 3) fun a63 => K p62 a63 h)
theorem D2_ok {K : T2} {g : Env} {h : H} (hq : D2 K g h) : ∃ (x0 : Option Addr) (x3 : Addr), E2 g x0 x3 ∧ K x0 x3 h := by
  obtain ⟨hd, hq⟩ := nilDs_ok hq
  obtain ⟨y65, e64, q66⟩ := vPtr_ok hq
  obtain ⟨y68, e67, q69⟩ := vAddr_ok q66
  exact ⟨y65, y68, ⟨e64, e67, hd⟩, q69⟩
noncomputable def n2_c1 : Code := cFst n1_c2
noncomputable def n2_c2 : Code := cSnd n1_c2
abbrev n3 (x0 : Option Addr) (x3 : Addr) (Kn : T0) (Kr : T0) (h : H) : Prop :=
  vSome x0 fun a70 => ∃ s71b s71n s71c, cell h (a70.add 0) = some (.slice s71b s71n s71c) ∧ (∃ i72, cell h ((x3).add 0) = some (.int .u8 i72) ∧ (∃ i73, cell h ((x3).add 1) = some (.int .u8 i73) ∧ (∃ s74, cell h ((x3).add 2) = some (S s74) ∧ (∃ s75b s75n s75c, cell h ((x3).add 3) = some (.slice s75b s75n s75c) ∧ (∃ s76, cell h ((x3).add 4) = some (S s76) ∧ (∃ s77b s77n s77c, cell h ((x3).add 5) = some (.slice s77b s77n s77c) ∧ (newx h ⟨[(.int .u8 i72), (.int .u8 i73), (S s74), (.slice s75b s75n s75c), (S s76), (.slice s77b s77n s77c), (.int .i64 (-1 : Int)), (.slice none 0 0)]⟩ 62 fun a78 h79 => ExtH h h79 ∧ (newx h79 #[(.pointer (some a78))] 58 fun a80 h81 => ExtH h79 h81 ∧ (SemH Try.prog (Builtin.append_ #[63, 63] 63 ⟨[(.slice s71b s71n s71c), (.slice (some a80) 1 1)]⟩) h81 fun v82 h83 => vSlice v82 fun s84b s84n s84c => vSome x0 fun a85 => stL (a85.add 0) [(.slice s84b s84n s84c)] 0 h83 fun h86 => vSome x0 fun a87 => ∃ s88b s88n s88c, cell h86 (a87.add 0) = some (.slice s88b s88n s88c) ∧ (Rng .i64 ((s88n : Int) - (1 : Int)) ∧ (Kr ((s88n : Int) - (1 : Int)) h86)))))))))))
theorem n3_ok (x0 : Option Addr) (x3 : Addr) (Kn : T0) (Kr : T0) (g : Env) (hg : E2 g x0 x3) (h : H) (hS : n3 x0 x3 Kn Kr h) : wpC none Try.prog 45 n2_c2 (Q0 Kn Kr) g h := by
  obtain ⟨hg0, hg3, hds⟩ := hg
  refine wpC_of_wpx (by kernel_rfl) (by kernel_rfl) (g' := ((⟨g.v, []⟩ : Env).upd (some 0) (.pointer x0)).upd (some 3) (.pointer (some x3))) (by rw [env_ds hds, upd_self hg0, upd_self hg3]) ?_
  have e : (n3 x0 x3 Kn Kr h) = wpx none Try.prog 45 n2_c2 (Q0 Kn Kr) (((⟨g.v, []⟩ : Env).upd (some 0) (.pointer x0)).upd (some 3) (.pointer (some x3))) h := by kernel_rfl
  exact e ▸ hS
def Q1 (Kn : T2) (Kr : T0) : XPost
  | .normal, g, h => D2 Kn g h
  | .ret, g, h => D0 Kr g h
  | _, _, _ => False
noncomputable def n4_c1 : Code := cFst n2_c1
noncomputable def n4_c2 : Code := cSnd n2_c1
abbrev T3 := (Option Addr) → Addr → Int → H → Prop
def E3 (g : Env) (x0 : Option Addr) (x3 : Addr) (x6 : Int) : Prop := g.v 0 = (.pointer x0) ∧ g.v 3 = (.pointer (some x3)) ∧ g.v 6 = (.int .u8 x6) ∧ g.ds = []
def D3 (K : T3) (g : Env) (h : H) : Prop := nilDs g.ds (vPtr (g.v 0) fun p89 => vAddr (g.v 3) fun a90 => vInt .u8 (g.v 6) fun i91 => K p89 a90 i91 h)
theorem D3_ok {K : T3} {g : Env} {h : H} (hq : D3 K g h) : ∃ (x0 : Option Addr) (x3 : Addr) (x6 : Int), E3 g x0 x3 x6 ∧ K x0 x3 x6 h := by
  obtain ⟨hd, hq⟩ := nilDs_ok hq
  obtain ⟨y93, e92, q94⟩ := vPtr_ok hq
  obtain ⟨y96, e95, q97⟩ := vAddr_ok q94
  obtain ⟨y99, e98, q100⟩ := vInt_ok q97
  exact ⟨y93, y96, y99, ⟨e92, e95, e98, hd⟩, q100⟩
noncomputable def n5_c1 : Code := cFst n4_c2
def Q2 (Kn : T2) (Ke0 : T2) (Kr : T0) : XPost
  | .normal, g, h => D2 Kn g h
  | .ret, g, h => D0 Kr g h
  | .exit id, g, h => cond (Nat.beq id 0) (D2 Ke0 g h) (False)
  | _, _, _ => False
noncomputable def n6_c1 : Code := cFst n5_c1
noncomputable def n6_c2 : Code := cSnd n5_c1
abbrev T4 := (Option Addr) → Addr → Int → Bool → H → Prop
def E4 (g : Env) (x0 : Option Addr) (x3 : Addr) (x6 : Int) (x7 : Bool) : Prop := g.v 0 = (.pointer x0) ∧ g.v 3 = (.pointer (some x3)) ∧ g.v 6 = (.int .u8 x6) ∧ g.v 7 = (.bool x7) ∧ g.ds = []
def D4 (K : T4) (g : Env) (h : H) : Prop := nilDs g.ds (vPtr (g.v 0) fun p101 => vAddr (g.v 3) fun a102 => vInt .u8 (g.v 6) fun i103 => vBool (g.v 7) fun b104 => K p101 a102 i103 b104 h)
theorem D4_ok {K : T4} {g : Env} {h : H} (hq : D4 K g h) : ∃ (x0 : Option Addr) (x3 : Addr) (x6 : Int) (x7 : Bool), E4 g x0 x3 x6 x7 ∧ K x0 x3 x6 x7 h := by
  obtain ⟨hd, hq⟩ := nilDs_ok hq
  obtain ⟨y106, e105, q107⟩ := vPtr_ok hq
  obtain ⟨y109, e108, q110⟩ := vAddr_ok q107
  obtain ⟨y112, e111, q113⟩ := vInt_ok q110
  obtain ⟨y115, e114, q116⟩ := vBool_ok q113
  exact ⟨y106, y109, y112, y115, ⟨e105, e108, e111, e114, hd⟩, q116⟩
noncomputable def n7_c1 : Code := cFst n6_c2
noncomputable def n7_c2 : Code := cSnd n6_c2
abbrev n8 (x0 : Option Addr) (x3 : Addr) (Kn : T2) (Ke0 : T2) (Kr : T0) (h : H) : Prop :=
  ∃ i117, cell h (x3.add 0) = some (.int .u8 i117) ∧ (∃ i118, cell h (x3.add 1) = some (.int .u8 i118) ∧ (∃ s119, cell h (x3.add 2) = some (S s119) ∧ (∃ s120b s120n s120c, cell h (x3.add 3) = some (.slice s120b s120n s120c) ∧ (HCalls Try.prog 23 ⟨[(.slice s120b s120n s120c)]⟩ h fun v121 h122 => vSlice v121 fun s123b s123n s123c => ExtH h h122 ∧ (stL x3 [(.int .u8 i117), (.int .u8 i118), (S s119), (.slice s123b s123n s123c), (S ([] : List UInt8)), (.slice none 0 0)] 0 h122 fun h124 => Kn x0 x3 h124)))))
theorem n8_ok (x0 : Option Addr) (x3 : Addr) (Kn : T2) (Ke0 : T2) (Kr : T0) (g : Env) (hg : E2 g x0 x3) (h : H) (hS : n8 x0 x3 Kn Ke0 Kr h) : wpC none Try.prog 45 n7_c1 (Q2 Kn Ke0 Kr) g h := by
  obtain ⟨hg0, hg3, hds⟩ := hg
  refine wpC_of_wpx (by kernel_rfl) (by kernel_rfl) (g' := ((⟨g.v, []⟩ : Env).upd (some 0) (.pointer x0)).upd (some 3) (.pointer (some x3))) (by rw [env_ds hds, upd_self hg0, upd_self hg3]) ?_
  have e : (n8 x0 x3 Kn Ke0 Kr h) = wpx none Try.prog 45 n7_c1 (Q2 Kn Ke0 Kr) (((⟨g.v, []⟩ : Env).upd (some 0) (.pointer x0)).upd (some 3) (.pointer (some x3))) h := by kernel_rfl
  exact e ▸ hS
noncomputable def n9_c1 : Code := cFst n7_c2
noncomputable def n9_c2 : Code := cSnd n7_c2
abbrev T5 := (Option Addr) → Addr → Bool → H → Prop
def E5 (g : Env) (x0 : Option Addr) (x3 : Addr) (x19 : Bool) : Prop := g.v 0 = (.pointer x0) ∧ g.v 3 = (.pointer (some x3)) ∧ g.v 19 = (.bool x19) ∧ g.ds = []
def D5 (K : T5) (g : Env) (h : H) : Prop := nilDs g.ds (vPtr (g.v 0) fun p125 => vAddr (g.v 3) fun a126 => vBool (g.v 19) fun b127 => K p125 a126 b127 h)
theorem D5_ok {K : T5} {g : Env} {h : H} (hq : D5 K g h) : ∃ (x0 : Option Addr) (x3 : Addr) (x19 : Bool), E5 g x0 x3 x19 ∧ K x0 x3 x19 h := by
  obtain ⟨hd, hq⟩ := nilDs_ok hq
  obtain ⟨y129, e128, q130⟩ := vPtr_ok hq
  obtain ⟨y132, e131, q133⟩ := vAddr_ok q130
  obtain ⟨y135, e134, q136⟩ := vBool_ok q133
  exact ⟨y129, y132, y135, ⟨e128, e131, e134, hd⟩, q136⟩
abbrev n10 (x0 : Option Addr) (x3 : Addr) (x19 : Bool) (Kn : T2) (Ke0 : T2) (Kr : T0) (h : H) : Prop :=
  cond x19 (∃ i137, cell h (x3.add 0) = some (.int .u8 i137) ∧ (∃ s138, cell h (x3.add 4) = some (S s138) ∧ (stL x3 [(.int .u8 i137), (.int .u8 (0 : Int)), (S ([] : List UInt8)), (.slice none 0 0), (S s138), (.slice none 0 0)] 0 h fun h139 => Kn x0 x3 h139))) (Kr (-1 : Int) h)
theorem n10_ok (x0 : Option Addr) (x3 : Addr) (x19 : Bool) (Kn : T2) (Ke0 : T2) (Kr : T0) (g : Env) (hg : E5 g x0 x3 x19) (h : H) (hS : n10 x0 x3 x19 Kn Ke0 Kr h) : wpC none Try.prog 45 n9_c2 (Q2 Kn Ke0 Kr) g h := by
  obtain ⟨hg0, hg3, hg19, hds⟩ := hg
  refine wpC_of_wpx (by kernel_rfl) (by kernel_rfl) (g' := (((⟨g.v, []⟩ : Env).upd (some 0) (.pointer x0)).upd (some 3) (.pointer (some x3))).upd (some 19) (.bool x19)) (by rw [env_ds hds, upd_self hg0, upd_self hg3, upd_self hg19]) ?_
  have e : (n10 x0 x3 x19 Kn Ke0 Kr h) = wpx none Try.prog 45 n9_c2 (Q2 Kn Ke0 Kr) ((((⟨g.v, []⟩ : Env).upd (some 0) (.pointer x0)).upd (some 3) (.pointer (some x3))).upd (some 19) (.bool x19)) h := by kernel_rfl
  exact e ▸ hS
def Q3 (Kn : T5) (Ke0 : T2) (Kr : T0) : XPost
  | .normal, g, h => D5 Kn g h
  | .ret, g, h => D0 Kr g h
  | .exit id, g, h => cond (Nat.beq id 0) (D2 Ke0 g h) (False)
  | _, _, _ => False
abbrev n9 (x0 : Option Addr) (x3 : Addr) (x6 : Int) (Kn : T2) (Ke0 : T2) (Kr : T0) (h : H) : Prop :=
  Spl (x6 = (2 : Int)) (n10 x0 x3 true Kn Ke0 Kr h) (Spl (x6 = (3 : Int)) (n10 x0 x3 true Kn Ke0 Kr h) (n10 x0 x3 false Kn Ke0 Kr h))
theorem n9_ok (x0 : Option Addr) (x3 : Addr) (x6 : Int) (Kn : T2) (Ke0 : T2) (Kr : T0) (g : Env) (hg : E3 g x0 x3 x6) (h : H) (hS : n9 x0 x3 x6 Kn Ke0 Kr h) : wpC none Try.prog 45 n7_c2 (Q2 Kn Ke0 Kr) g h := by
  obtain ⟨hg0, hg3, hg6, hds⟩ := hg
  refine wpC_seq' (x := n9_c1) (y := n9_c2) (Q' := (Q3 (fun z0 z3 z19 h => n10 z0 z3 z19 Kn Ke0 Kr h) Ke0 Kr)) (by kernel_rfl) ?_ ?_
  · refine wpC_of_wpx (by kernel_rfl) (by kernel_rfl) (g' := (((⟨g.v, []⟩ : Env).upd (some 0) (.pointer x0)).upd (some 3) (.pointer (some x3))).upd (some 6) (.int .u8 x6)) (by rw [env_ds hds, upd_self hg0, upd_self hg3, upd_self hg6]) ?_
    have e : (n9 x0 x3 x6 Kn Ke0 Kr h) = wpx none Try.prog 45 n9_c1 (Q3 (fun z0 z3 z19 h => n10 z0 z3 z19 Kn Ke0 Kr h) Ke0 Kr) ((((⟨g.v, []⟩ : Env).upd (some 0) (.pointer x0)).upd (some 3) (.pointer (some x3))).upd (some 6) (.int .u8 x6)) h := by kernel_rfl
    exact e ▸ hS
  · intro e g' h' hq
    cases e with
    | normal =>
      have hq : D5 (fun z0 z3 z19 h => n10 z0 z3 z19 Kn Ke0 Kr h) g' h' := hq
      obtain ⟨y0, y3, y19, hg', hq⟩ := D5_ok hq
      exact n10_ok y0 y3 y19 Kn Ke0 Kr g' hg' h' hq
    | _ => exact hq
abbrev n7 (x0 : Option Addr) (x3 : Addr) (x6 : Int) (x7 : Bool) (Kn : T2) (Ke0 : T2) (Kr : T0) (h : H) : Prop := cond x7 (n8 x0 x3 Kn Ke0 Kr h) (n9 x0 x3 x6 Kn Ke0 Kr h)
theorem n7_ok (x0 : Option Addr) (x3 : Addr) (x6 : Int) (x7 : Bool) (Kn : T2) (Ke0 : T2) (Kr : T0) (g : Env) (hg : E4 g x0 x3 x6 x7) (h : H) (hS : n7 x0 x3 x6 x7 Kn Ke0 Kr h) : wpC none Try.prog 45 n6_c2 (Q2 Kn Ke0 Kr) g h := by
  obtain ⟨hg0, hg3, hg6, hg7, hds⟩ := hg
  have hx : evalE 45 g (.tmp 7) = .bool x7 := by
    show cond (Nat.blt 7 45) (g.v 7) undef = _
    rw [hg7]; rfl
  unfold n7 at hS
  refine wpC_cond' (o := .tmp 7) (x := n7_c1) (y := n7_c2) (by kernel_rfl) hx (fun hb => ?_) (fun hb => ?_)
  · subst hb
    exact n8_ok x0 x3 Kn Ke0 Kr g ⟨hg0, hg3, hds⟩ h hS
  · subst hb
    exact n9_ok x0 x3 x6 Kn Ke0 Kr g ⟨hg0, hg3, hg6, hds⟩ h hS
def Q4 (Kn : T4) (Ke0 : T2) (Kr : T0) : XPost
  | .normal, g, h => D4 Kn g h
  | .ret, g, h => D0 Kr g h
  | .exit id, g, h => cond (Nat.beq id 0) (D2 Ke0 g h) (False)
  | _, _, _ => False
abbrev n6 (x0 : Option Addr) (x3 : Addr) (x6 : Int) (Kn : T2) (Ke0 : T2) (Kr : T0) (h : H) : Prop :=
  Spl (x6 = (1 : Int)) (n7 x0 x3 x6 true Kn Ke0 Kr h) (n7 x0 x3 x6 false Kn Ke0 Kr h)
theorem n6_ok (x0 : Option Addr) (x3 : Addr) (x6 : Int) (Kn : T2) (Ke0 : T2) (Kr : T0) (g : Env) (hg : E3 g x0 x3 x6) (h : H) (hS : n6 x0 x3 x6 Kn Ke0 Kr h) : wpC none Try.prog 45 n5_c1 (Q2 Kn Ke0 Kr) g h := by
  obtain ⟨hg0, hg3, hg6, hds⟩ := hg
  refine wpC_seq' (x := n6_c1) (y := n6_c2) (Q' := (Q4 (fun z0 z3 z6 z7 h => n7 z0 z3 z6 z7 Kn Ke0 Kr h) Ke0 Kr)) (by kernel_rfl) ?_ ?_
  · refine wpC_of_wpx (by kernel_rfl) (by kernel_rfl) (g' := (((⟨g.v, []⟩ : Env).upd (some 0) (.pointer x0)).upd (some 3) (.pointer (some x3))).upd (some 6) (.int .u8 x6)) (by rw [env_ds hds, upd_self hg0, upd_self hg3, upd_self hg6]) ?_
    have e : (n6 x0 x3 x6 Kn Ke0 Kr h) = wpx none Try.prog 45 n6_c1 (Q4 (fun z0 z3 z6 z7 h => n7 z0 z3 z6 z7 Kn Ke0 Kr h) Ke0 Kr) ((((⟨g.v, []⟩ : Env).upd (some 0) (.pointer x0)).upd (some 3) (.pointer (some x3))).upd (some 6) (.int .u8 x6)) h := by kernel_rfl
    exact e ▸ hS
  · intro e g' h' hq
    cases e with
    | normal =>
      have hq : D4 (fun z0 z3 z6 z7 h => n7 z0 z3 z6 z7 Kn Ke0 Kr h) g' h' := hq
      obtain ⟨y0, y3, y6, y7, hg', hq⟩ := D4_ok hq
      exact n7_ok y0 y3 y6 y7 Kn Ke0 Kr g' hg' h' hq
    | _ => exact hq
abbrev n5 (x0 : Option Addr) (x3 : Addr) (x6 : Int) (Kn : T2) (Kr : T0) (h : H) : Prop := n6 x0 x3 x6 Kn Kn Kr h
theorem n5_ok (x0 : Option Addr) (x3 : Addr) (x6 : Int) (Kn : T2) (Kr : T0) (g : Env) (hg : E3 g x0 x3 x6) (h : H) (hS : n5 x0 x3 x6 Kn Kr h) : wpC none Try.prog 45 n4_c2 (Q1 Kn Kr) g h := by
  refine wpC_block' (id := 0) (x := n5_c1) (by kernel_rfl) (n6_ok x0 x3 x6 Kn Kn Kr g hg h hS) ?_
  intro e g' h' hq
  cases e <;> exact hq
def Q5 (Kn : T3) (Kr : T0) : XPost
  | .normal, g, h => D3 Kn g h
  | .ret, g, h => D0 Kr g h
  | _, _, _ => False
abbrev n4 (x0 : Option Addr) (x3 : Addr) (Kn : T2) (Kr : T0) (h : H) : Prop :=
  ∃ i140, cell h (x3.add 0) = some (.int .u8 i140) ∧ (n5 x0 x3 i140 Kn Kr h)
theorem n4_ok (x0 : Option Addr) (x3 : Addr) (Kn : T2) (Kr : T0) (g : Env) (hg : E2 g x0 x3) (h : H) (hS : n4 x0 x3 Kn Kr h) : wpC none Try.prog 45 n2_c1 (Q1 Kn Kr) g h := by
  obtain ⟨hg0, hg3, hds⟩ := hg
  refine wpC_seq' (x := n4_c1) (y := n4_c2) (Q' := (Q5 (fun z0 z3 z6 h => n5 z0 z3 z6 Kn Kr h) Kr)) (by kernel_rfl) ?_ ?_
  · refine wpC_of_wpx (by kernel_rfl) (by kernel_rfl) (g' := ((⟨g.v, []⟩ : Env).upd (some 0) (.pointer x0)).upd (some 3) (.pointer (some x3))) (by rw [env_ds hds, upd_self hg0, upd_self hg3]) ?_
    have e : (n4 x0 x3 Kn Kr h) = wpx none Try.prog 45 n4_c1 (Q5 (fun z0 z3 z6 h => n5 z0 z3 z6 Kn Kr h) Kr) (((⟨g.v, []⟩ : Env).upd (some 0) (.pointer x0)).upd (some 3) (.pointer (some x3))) h := by kernel_rfl
    exact e ▸ hS
  · intro e g' h' hq
    cases e with
    | normal =>
      have hq : D3 (fun z0 z3 z6 h => n5 z0 z3 z6 Kn Kr h) g' h' := hq
      obtain ⟨y0, y3, y6, hg', hq⟩ := D3_ok hq
      exact n5_ok y0 y3 y6 Kn Kr g' hg' h' hq
    | _ => exact hq
abbrev n2 (x0 : Option Addr) (x3 : Addr) (Kn : T0) (Kr : T0) (h : H) : Prop := n4 x0 x3 (fun z0 z3 h => n3 z0 z3 Kn Kr h) Kr h
theorem n2_ok (x0 : Option Addr) (x3 : Addr) (Kn : T0) (Kr : T0) (g : Env) (hg : E2 g x0 x3) (h : H) (hS : n2 x0 x3 Kn Kr h) : wpC none Try.prog 45 n1_c2 (Q0 Kn Kr) g h := by
  refine wpC_seq' (x := n2_c1) (y := n2_c2) (by kernel_rfl) (n4_ok x0 x3 (fun z0 z3 h => n3 z0 z3 Kn Kr h) Kr g hg h hS) ?_
  intro e g' h' hq
  cases e with
  | normal =>
    have hq : D2 (fun z0 z3 h => n3 z0 z3 Kn Kr h) g' h' := hq
    obtain ⟨y0, y3, hg', hq⟩ := D2_ok hq
    exact n3_ok y0 y3 Kn Kr g' hg' h' hq
  | _ => exact hq
abbrev n1 (x0 : Option Addr) (x1_0 : Int) (x1_1 : Int) (x1_2 : List UInt8) (x1_3b : Option Addr) (x1_3n : Nat) (x1_3c : Nat) (x1_4 : List UInt8) (x1_5b : Option Addr) (x1_5n : Nat) (x1_5c : Nat) (Kn : T0) (Kr : T0) (h : H) : Prop :=
  newx h ⟨[(.int .u8 x1_0), (.int .u8 x1_1), (S x1_2), (.slice x1_3b x1_3n x1_3c), (S x1_4), (.slice x1_5b x1_5n x1_5c)]⟩ 52 fun a141 h142 => n2 x0 a141 Kn Kr h142
theorem n1_ok (x0 : Option Addr) (x1_0 : Int) (x1_1 : Int) (x1_2 : List UInt8) (x1_3b : Option Addr) (x1_3n : Nat) (x1_3c : Nat) (x1_4 : List UInt8) (x1_5b : Option Addr) (x1_5n : Nat) (x1_5c : Nat) (Kn : T0) (Kr : T0) (g : Env) (hg : E1 g x0 x1_0 x1_1 x1_2 x1_3b x1_3n x1_3c x1_4 x1_5b x1_5n x1_5c) (h : H) (hS : n1 x0 x1_0 x1_1 x1_2 x1_3b x1_3n x1_3c x1_4 x1_5b x1_5n x1_5c Kn Kr h) : wpC none Try.prog 45 code (Q0 Kn Kr) g h := by
  obtain ⟨hg0, hg1, hds⟩ := hg
  refine wpC_seq' (x := n1_c1) (y := n1_c2) (Q' := (Q1 (fun z0 z3 h => n2 z0 z3 Kn Kr h) Kr)) (by kernel_rfl) ?_ ?_
  · refine wpC_of_wpx (by kernel_rfl) (by kernel_rfl) (g' := ((⟨g.v, []⟩ : Env).upd (some 0) (.pointer x0)).upd (some 1) (.agg ⟨[(.int .u8 x1_0), (.int .u8 x1_1), (S x1_2), (.slice x1_3b x1_3n x1_3c), (S x1_4), (.slice x1_5b x1_5n x1_5c)]⟩)) (by rw [env_ds hds, upd_self hg0, upd_self hg1]) ?_
    have e : (n1 x0 x1_0 x1_1 x1_2 x1_3b x1_3n x1_3c x1_4 x1_5b x1_5n x1_5c Kn Kr h) = wpx none Try.prog 45 n1_c1 (Q1 (fun z0 z3 h => n2 z0 z3 Kn Kr h) Kr) (((⟨g.v, []⟩ : Env).upd (some 0) (.pointer x0)).upd (some 1) (.agg ⟨[(.int .u8 x1_0), (.int .u8 x1_1), (S x1_2), (.slice x1_3b x1_3n x1_3c), (S x1_4), (.slice x1_5b x1_5n x1_5c)]⟩)) h := by kernel_rfl
    exact e ▸ hS
  · intro e g' h' hq
    cases e with
    | normal =>
      have hq : D2 (fun z0 z3 h => n2 z0 z3 Kn Kr h) g' h' := hq
      obtain ⟨y0, y3, hg', hq⟩ := D2_ok hq
      exact n2_ok y0 y3 Kn Kr g' hg' h' hq
    | _ => exact hq
/-- WHAT (*tympan/dom.Tree).Make ASKS -/
abbrev asks (x0 : Option Addr) (x1_0 : Int) (x1_1 : Int) (x1_2 : List UInt8) (x1_3b : Option Addr) (x1_3n : Nat) (x1_3c : Nat) (x1_4 : List UInt8) (x1_5b : Option Addr) (x1_5n : Nat) (x1_5c : Nat) (K : Value → H → Prop) (h : H) : Prop := n1 x0 x1_0 x1_1 x1_2 x1_3b x1_3n x1_3c x1_4 x1_5b x1_5n x1_5c (fun y4 h => K (.int .i64 y4) h) (fun y4 h => K (.int .i64 y4) h) h
theorem ok (x0 : Option Addr) (x1_0 : Int) (x1_1 : Int) (x1_2 : List UInt8) (x1_3b : Option Addr) (x1_3n : Nat) (x1_3c : Nat) (x1_4 : List UInt8) (x1_5b : Option Addr) (x1_5n : Nat) (x1_5c : Nat) (K : Value → H → Prop) (h : H) (hS : asks x0 x1_0 x1_1 x1_2 x1_3b x1_3n x1_3c x1_4 x1_5b x1_5n x1_5c K h) : HCalls Try.prog 18 ⟨[(.pointer x0), (.agg ⟨[(.int .u8 x1_0), (.int .u8 x1_1), (S x1_2), (.slice x1_3b x1_3n x1_3c), (S x1_4), (.slice x1_5b x1_5n x1_5c)]⟩)]⟩ h K := by
  refine calls_of_wpC (c := code) Try.func18 (by kernel_rfl) (Nat.le_of_ble_eq_true (by kernel_rfl)) ?_
  refine (n1_ok x0 x1_0 x1_1 x1_2 x1_3b x1_3n x1_3c x1_4 x1_5b x1_5n x1_5c (fun y4 h => K (.int .i64 y4) h) (fun y4 h => K (.int .i64 y4) h) (env0 [(.pointer x0), (.agg ⟨[(.int .u8 x1_0), (.int .u8 x1_1), (S x1_2), (.slice x1_3b x1_3n x1_3c), (S x1_4), (.slice x1_5b x1_5n x1_5c)]⟩)]) ⟨rfl, rfl, rfl⟩ h hS).mono ?_
  intro e g' h' hq
  cases e with
  | normal =>
    have hq : D0 (fun y4 h => K (.int .i64 y4) h) g' h' := hq
    obtain ⟨y4, ⟨hg4, hd⟩, hq⟩ := D0_ok hq
    show leaveX g'.ds h' _
    rw [hd]
    show K (g'.v 4) h'
    rw [hg4]
    exact hq
  | ret =>
    have hq : D0 (fun y4 h => K (.int .i64 y4) h) g' h' := hq
    obtain ⟨y4, ⟨hg4, hd⟩, hq⟩ := D0_ok hq
    show leaveX g'.ds h' _
    rw [hd]
    show K (g'.v 4) h'
    rw [hg4]
    exact hq
  | _ => exact hq
end Sx.dom_Tree_Make

/-! ### (*tympan/dom.Tree).Put -/
namespace Sx.dom_Tree_Put
noncomputable def code : Code := bodyOf Try.f19
abbrev T0 := Bool → H → Prop
def E0 (g : Env) (x8 : Bool) : Prop := g.v 8 = (.bool x8) ∧ g.ds = []
def D0 (K : T0) (g : Env) (h : H) : Prop := nilDs g.ds (vBool (g.v 8) fun b1 => K b1 h)
theorem D0_ok {K : T0} {g : Env} {h : H} (hq : D0 K g h) : ∃ (x8 : Bool), E0 g x8 ∧ K x8 h := by
  obtain ⟨hd, hq⟩ := nilDs_ok hq
  obtain ⟨y3, e2, q4⟩ := vBool_ok hq
  exact ⟨y3, ⟨e2, hd⟩, q4⟩
def Q0 (Kn : T0) (Kr : T0) : XPost
  | .normal, g, h => D0 Kn g h
  | .ret, g, h => D0 Kr g h
  | _, _, _ => False
abbrev T1 := (Option Addr) → Int → Int → Int → H → Prop
def E1 (g : Env) (x0 : Option Addr) (x1 : Int) (x2 : Int) (x3 : Int) : Prop := g.v 0 = (.pointer x0) ∧ g.v 1 = (.int .i64 x1) ∧ g.v 2 = (.int .i64 x2) ∧ g.v 3 = (.int .i64 x3) ∧ g.ds = []
def D1 (K : T1) (g : Env) (h : H) : Prop := nilDs g.ds (vPtr (g.v 0) fun p5 => vInt .i64 (g.v 1) fun i6 => vInt .i64 (g.v 2) fun i7 => vInt .i64 (g.v 3) fun i8 => K p5 i6 i7 i8 h)
theorem D1_ok {K : T1} {g : Env} {h : H} (hq : D1 K g h) : ∃ (x0 : Option Addr) (x1 : Int) (x2 : Int) (x3 : Int), E1 g x0 x1 x2 x3 ∧ K x0 x1 x2 x3 h := by
  obtain ⟨hd, hq⟩ := nilDs_ok hq
  obtain ⟨y10, e9, q11⟩ := vPtr_ok hq
  obtain ⟨y13, e12, q14⟩ := vInt_ok q11
  obtain ⟨y16, e15, q17⟩ := vInt_ok q14
  obtain ⟨y19, e18, q20⟩ := vInt_ok q17
  exact ⟨y10, y13, y16, y19, ⟨e9, e12, e15, e18, hd⟩, q20⟩
noncomputable def n1_c1 : Code := cFst code
noncomputable def n1_c2 : Code := cSnd code
noncomputable def n2_c1 : Code := cFst n1_c2
noncomputable def n2_c2 : Code := cSnd n1_c2
abbrev T2 := (Option Addr) → Int → Int → Int → (Option Addr) → (Option Addr) → H → Prop
def E2 (g : Env) (x0 : Option Addr) (x1 : Int) (x2 : Int) (x3 : Int) (x9 : Option Addr) (x10 : Option Addr) : Prop := g.v 0 = (.pointer x0) ∧ g.v 1 = (.int .i64 x1) ∧ g.v 2 = (.int .i64 x2) ∧ g.v 3 = (.int .i64 x3) ∧ g.v 9 = (.pointer x9) ∧ g.v 10 = (.pointer x10) ∧ g.ds = []
def D2 (K : T2) (g : Env) (h : H) : Prop := nilDs g.ds (vPtr (g.v 0) fun p21 => vInt .i64 (g.v 1) fun i22 => vInt .i64 (g.v 2) fun i23 => vInt .i64 (g.v 3) fun i24 => vPtr (g.v 9) fun p25 => vPtr (g.v 10) fun p26 => K p21 i22 i23 i24 p25 p26 h)
theorem D2_ok {K : T2} {g : Env} {h : H} (hq : D2 K g h) : ∃ (x0 : Option Addr) (x1 : Int) (x2 : Int) (x3 : Int) (x9 : Option Addr) (x10 : Option Addr), E2 g x0 x1 x2 x3 x9 x10 ∧ K x0 x1 x2 x3 x9 x10 h := by
  obtain ⟨hd, hq⟩ := nilDs_ok hq
  obtain ⟨y28, e27, q29⟩ := vPtr_ok hq
  obtain ⟨y31, e30, q32⟩ := vInt_ok q29
  obtain ⟨y34, e33, q35⟩ := vInt_ok q32
  obtain ⟨y37, e36, q38⟩ := vInt_ok q35
  obtain ⟨y40, e39, q41⟩ := vPtr_ok q38
  obtain ⟨y43, e42, q44⟩ := vPtr_ok q41
  exact ⟨y28, y31, y34, y37, y40, y43, ⟨e27, e30, e33, e36, e39, e42, hd⟩, q44⟩
noncomputable def n3_c1 : Code := cFst n2_c2
noncomputable def n3_c2 : Code := cSnd n2_c2
noncomputable def n4_c1 : Code := cFst n3_c2
noncomputable def n4_c2 : Code := cSnd n3_c2
abbrev T3 := Int → Int → Int → (Option Addr) → (Option Addr) → H → Prop
def E3 (g : Env) (x1 : Int) (x2 : Int) (x3 : Int) (x9 : Option Addr) (x10 : Option Addr) : Prop := g.v 1 = (.int .i64 x1) ∧ g.v 2 = (.int .i64 x2) ∧ g.v 3 = (.int .i64 x3) ∧ g.v 9 = (.pointer x9) ∧ g.v 10 = (.pointer x10) ∧ g.ds = []
def D3 (K : T3) (g : Env) (h : H) : Prop := nilDs g.ds (vInt .i64 (g.v 1) fun i45 => vInt .i64 (g.v 2) fun i46 => vInt .i64 (g.v 3) fun i47 => vPtr (g.v 9) fun p48 => vPtr (g.v 10) fun p49 => K i45 i46 i47 p48 p49 h)
theorem D3_ok {K : T3} {g : Env} {h : H} (hq : D3 K g h) : ∃ (x1 : Int) (x2 : Int) (x3 : Int) (x9 : Option Addr) (x10 : Option Addr), E3 g x1 x2 x3 x9 x10 ∧ K x1 x2 x3 x9 x10 h := by
  obtain ⟨hd, hq⟩ := nilDs_ok hq
  obtain ⟨y51, e50, q52⟩ := vInt_ok hq
  obtain ⟨y54, e53, q55⟩ := vInt_ok q52
  obtain ⟨y57, e56, q58⟩ := vInt_ok q55
  obtain ⟨y60, e59, q61⟩ := vPtr_ok q58
  obtain ⟨y63, e62, q64⟩ := vPtr_ok q61
  exact ⟨y51, y54, y57, y60, y63, ⟨e50, e53, e56, e59, e62, hd⟩, q64⟩
abbrev n5 (x1 : Int) (x2 : Int) (x3 : Int) (x9 : Option Addr) (x10 : Option Addr) (Kn : T0) (Kr : T0) (h : H) : Prop :=
  (vSome x9 fun a65 => ∃ s66b s66n s66c, cell h (a65.add 7) = some (.slice s66b s66n s66c) ∧ (HCalls Try.prog 27 ⟨[(.pointer x9), (.int .i64 x2)]⟩ h fun v67 h68 => vInt .i64 v67 fun i69 => ExtH h h68 ∧ (newx h68 #[(.int .i64 x3)] 3 fun a70 h71 => ExtH h68 h71 ∧ (HCalls Try.prog 30 ⟨[(.slice s66b s66n s66c), (.int .i64 i69), (.slice (some a70) 1 1)]⟩ h71 fun v72 h73 => vSlice v72 fun s74b s74n s74c => vSome x9 fun a75 => stL (a75.add 7) [(.slice s74b s74n s74c)] 0 h73 fun h76 => vSome x10 fun a77 => stL (a77.add 6) [(.int .i64 x1)] 0 h76 fun h78 => Kr true h78)))) ∧ (vSome x9 fun a79 => ∃ s80b s80n s80c, cell h (a79.add 7) = some (.slice s80b s80n s80c) ∧ (newx h #[(.int .i64 x3)] 3 fun a81 h82 => ExtH h h82 ∧ (HCalls Try.prog 27 ⟨[(.pointer x9), (.int .i64 x2)]⟩ h82 fun v83 h84 => vInt .i64 v83 fun i85 => ExtH h82 h84 ∧ (HCalls Try.prog 30 ⟨[(.slice s80b s80n s80c), (.int .i64 i85), (.slice (some a81) 1 1)]⟩ h84 fun v86 h87 => vSlice v86 fun s88b s88n s88c => vSome x9 fun a89 => stL (a89.add 7) [(.slice s88b s88n s88c)] 0 h87 fun h90 => vSome x10 fun a91 => stL (a91.add 6) [(.int .i64 x1)] 0 h90 fun h92 => Kr true h92))))
theorem n5_ok (x1 : Int) (x2 : Int) (x3 : Int) (x9 : Option Addr) (x10 : Option Addr) (Kn : T0) (Kr : T0) (g : Env) (hg : E3 g x1 x2 x3 x9 x10) (h : H) (hS : n5 x1 x2 x3 x9 x10 Kn Kr h) : wpC none Try.prog 64 n4_c2 (Q0 Kn Kr) g h := by
  obtain ⟨hg1, hg2, hg3, hg9, hg10, hds⟩ := hg
  refine wpC_of_wpx (by kernel_rfl) (by kernel_rfl) (g' := (((((⟨g.v, []⟩ : Env).upd (some 1) (.int .i64 x1)).upd (some 2) (.int .i64 x2)).upd (some 3) (.int .i64 x3)).upd (some 9) (.pointer x9)).upd (some 10) (.pointer x10)) (by rw [env_ds hds, upd_self hg1, upd_self hg2, upd_self hg3, upd_self hg9, upd_self hg10]) ?_
  have e : (n5 x1 x2 x3 x9 x10 Kn Kr h) = wpx none Try.prog 64 n4_c2 (Q0 Kn Kr) ((((((⟨g.v, []⟩ : Env).upd (some 1) (.int .i64 x1)).upd (some 2) (.int .i64 x2)).upd (some 3) (.int .i64 x3)).upd (some 9) (.pointer x9)).upd (some 10) (.pointer x10)) h := by kernel_rfl
  exact e ▸ hS
def Q1 (Kn : T3) (Kr : T0) : XPost
  | .normal, g, h => D3 Kn g h
  | .ret, g, h => D0 Kr g h
  | _, _, _ => False
abbrev n4 (x0 : Option Addr) (x1 : Int) (x2 : Int) (x3 : Int) (x9 : Option Addr) (x10 : Option Addr) (Kn : T0) (Kr : T0) (h : H) : Prop :=
  HCalls Try.prog 29 ⟨[(.pointer x0), (.int .i64 x3)]⟩ h fun v93 h94 => vBool v93 fun b95 => cond b95 (n5 x1 x2 x3 x9 x10 Kn Kr h94) (n5 x1 x2 x3 x9 x10 Kn Kr h94)
theorem n4_ok (x0 : Option Addr) (x1 : Int) (x2 : Int) (x3 : Int) (x9 : Option Addr) (x10 : Option Addr) (Kn : T0) (Kr : T0) (g : Env) (hg : E2 g x0 x1 x2 x3 x9 x10) (h : H) (hS : n4 x0 x1 x2 x3 x9 x10 Kn Kr h) : wpC none Try.prog 64 n3_c2 (Q0 Kn Kr) g h := by
  obtain ⟨hg0, hg1, hg2, hg3, hg9, hg10, hds⟩ := hg
  refine wpC_seq' (x := n4_c1) (y := n4_c2) (Q' := (Q1 (fun z1 z2 z3 z9 z10 h => n5 z1 z2 z3 z9 z10 Kn Kr h) Kr)) (by kernel_rfl) ?_ ?_
  · refine wpC_of_wpx (by kernel_rfl) (by kernel_rfl) (g' := ((((((⟨g.v, []⟩ : Env).upd (some 0) (.pointer x0)).upd (some 1) (.int .i64 x1)).upd (some 2) (.int .i64 x2)).upd (some 3) (.int .i64 x3)).upd (some 9) (.pointer x9)).upd (some 10) (.pointer x10)) (by rw [env_ds hds, upd_self hg0, upd_self hg1, upd_self hg2, upd_self hg3, upd_self hg9, upd_self hg10]) ?_
    have e : (n4 x0 x1 x2 x3 x9 x10 Kn Kr h) = wpx none Try.prog 64 n4_c1 (Q1 (fun z1 z2 z3 z9 z10 h => n5 z1 z2 z3 z9 z10 Kn Kr h) Kr) (((((((⟨g.v, []⟩ : Env).upd (some 0) (.pointer x0)).upd (some 1) (.int .i64 x1)).upd (some 2) (.int .i64 x2)).upd (some 3) (.int .i64 x3)).upd (some 9) (.pointer x9)).upd (some 10) (.pointer x10)) h := by kernel_rfl
    exact e ▸ hS
  · intro e g' h' hq
    cases e with
    | normal =>
      have hq : D3 (fun z1 z2 z3 z9 z10 h => n5 z1 z2 z3 z9 z10 Kn Kr h) g' h' := hq
      obtain ⟨y1, y2, y3, y9, y10, hg', hq⟩ := D3_ok hq
      exact n5_ok y1 y2 y3 y9 y10 Kn Kr g' hg' h' hq
    | _ => exact hq
def Q2 (Kn : T2) (Kr : T0) : XPost
  | .normal, g, h => D2 Kn g h
  | .ret, g, h => D0 Kr g h
  | _, _, _ => False
abbrev n3 (x0 : Option Addr) (x1 : Int) (x2 : Int) (x3 : Int) (x9 : Option Addr) (x10 : Option Addr) (Kn : T0) (Kr : T0) (h : H) : Prop :=
  SemH Try.prog (binS .eql 58 (.tmp 17) (.const (.pointer none)) (.pointer x9) (.pointer none)) h fun v96 h97 => vBool v96 fun b98 => cond b98 (Kr false h97) (SemH Try.prog (binS .eql 58 (.tmp 20) (.const (.pointer none)) (.pointer x10) (.pointer none)) h97 fun v99 h100 => vBool v99 fun b101 => cond b101 (Kr false h100) (Spl (x3 = (0 : Int)) (Kr false h100) (Spl (x2 = x3) (Kr false h100) (HCalls Try.prog 27 ⟨[(.pointer x9), (.int .i64 x2)]⟩ h100 fun v102 h103 => vInt .i64 v102 fun i104 => Spl (i104 < (0 : Int)) (Kr false h103) (HCalls Try.prog 28 ⟨[(.pointer x0), (.int .i64 x1), (.int .i64 x3)]⟩ h103 fun v105 h106 => vBool v105 fun b107 => cond b107 (Kr false h106) (n4 x0 x1 x2 x3 x9 x10 Kn Kr h106))))))
theorem n3_ok (x0 : Option Addr) (x1 : Int) (x2 : Int) (x3 : Int) (x9 : Option Addr) (x10 : Option Addr) (Kn : T0) (Kr : T0) (g : Env) (hg : E2 g x0 x1 x2 x3 x9 x10) (h : H) (hS : n3 x0 x1 x2 x3 x9 x10 Kn Kr h) : wpC none Try.prog 64 n2_c2 (Q0 Kn Kr) g h := by
  obtain ⟨hg0, hg1, hg2, hg3, hg9, hg10, hds⟩ := hg
  refine wpC_seq' (x := n3_c1) (y := n3_c2) (Q' := (Q2 (fun z0 z1 z2 z3 z9 z10 h => n4 z0 z1 z2 z3 z9 z10 Kn Kr h) Kr)) (by kernel_rfl) ?_ ?_
  · refine wpC_of_wpx (by kernel_rfl) (by kernel_rfl) (g' := ((((((⟨g.v, []⟩ : Env).upd (some 0) (.pointer x0)).upd (some 1) (.int .i64 x1)).upd (some 2) (.int .i64 x2)).upd (some 3) (.int .i64 x3)).upd (some 9) (.pointer x9)).upd (some 10) (.pointer x10)) (by rw [env_ds hds, upd_self hg0, upd_self hg1, upd_self hg2, upd_self hg3, upd_self hg9, upd_self hg10]) ?_
    have e : (n3 x0 x1 x2 x3 x9 x10 Kn Kr h) = wpx none Try.prog 64 n3_c1 (Q2 (fun z0 z1 z2 z3 z9 z10 h => n4 z0 z1 z2 z3 z9 z10 Kn Kr h) Kr) (((((((⟨g.v, []⟩ : Env).upd (some 0) (.pointer x0)).upd (some 1) (.int .i64 x1)).upd (some 2) (.int .i64 x2)).upd (some 3) (.int .i64 x3)).upd (some 9) (.pointer x9)).upd (some 10) (.pointer x10)) h := by kernel_rfl
    exact e ▸ hS
  · intro e g' h' hq
    cases e with
    | normal =>
      have hq : D2 (fun z0 z1 z2 z3 z9 z10 h => n4 z0 z1 z2 z3 z9 z10 Kn Kr h) g' h' := hq
      obtain ⟨y0, y1, y2, y3, y9, y10, hg', hq⟩ := D2_ok hq
      exact n4_ok y0 y1 y2 y3 y9 y10 Kn Kr g' hg' h' hq
    | _ => exact hq
abbrev n2 (x0 : Option Addr) (x1 : Int) (x2 : Int) (x3 : Int) (Kn : T0) (Kr : T0) (h : H) : Prop :=
  HCalls Try.prog 26 ⟨[(.pointer x0), (.int .i64 x1)]⟩ h fun v108 h109 => vPtr v108 fun p110 => HCalls Try.prog 22 ⟨[(.pointer x0), (.int .i64 x3)]⟩ h109 fun v111 h112 => vPtr v111 fun p113 => n3 x0 x1 x2 x3 p110 p113 Kn Kr h112
theorem n2_ok (x0 : Option Addr) (x1 : Int) (x2 : Int) (x3 : Int) (Kn : T0) (Kr : T0) (g : Env) (hg : E1 g x0 x1 x2 x3) (h : H) (hS : n2 x0 x1 x2 x3 Kn Kr h) : wpC none Try.prog 64 n1_c2 (Q0 Kn Kr) g h := by
  obtain ⟨hg0, hg1, hg2, hg3, hds⟩ := hg
  refine wpC_seq' (x := n2_c1) (y := n2_c2) (Q' := (Q2 (fun z0 z1 z2 z3 z9 z10 h => n3 z0 z1 z2 z3 z9 z10 Kn Kr h) Kr)) (by kernel_rfl) ?_ ?_
  · refine wpC_of_wpx (by kernel_rfl) (by kernel_rfl) (g' := ((((⟨g.v, []⟩ : Env).upd (some 0) (.pointer x0)).upd (some 1) (.int .i64 x1)).upd (some 2) (.int .i64 x2)).upd (some 3) (.int .i64 x3)) (by rw [env_ds hds, upd_self hg0, upd_self hg1, upd_self hg2, upd_self hg3]) ?_
    have e : (n2 x0 x1 x2 x3 Kn Kr h) = wpx none Try.prog 64 n2_c1 (Q2 (fun z0 z1 z2 z3 z9 z10 h => n3 z0 z1 z2 z3 z9 z10 Kn Kr h) Kr) (((((⟨g.v, []⟩ : Env).upd (some 0) (.pointer x0)).upd (some 1) (.int .i64 x1)).upd (some 2) (.int .i64 x2)).upd (some 3) (.int .i64 x3)) h := by kernel_rfl
    exact e ▸ hS
  · intro e g' h' hq
    cases e with
    | normal =>
      have hq : D2 (fun z0 z1 z2 z3 z9 z10 h => n3 z0 z1 z2 z3 z9 z10 Kn Kr h) g' h' := hq
      obtain ⟨y0, y1, y2, y3, y9, y10, hg', hq⟩ := D2_ok hq
      exact n3_ok y0 y1 y2 y3 y9 y10 Kn Kr g' hg' h' hq
    | _ => exact hq
def Q3 (Kn : T1) (Kr : T0) : XPost
  | .normal, g, h => D1 Kn g h
  | .ret, g, h => D0 Kr g h
  | _, _, _ => False
abbrev n1 (x0 : Option Addr) (x1 : Int) (x2 : Int) (x3 : Int) (Kn : T0) (Kr : T0) (h : H) : Prop :=
  n2 x0 x1 x2 x3 Kn Kr h
theorem n1_ok (x0 : Option Addr) (x1 : Int) (x2 : Int) (x3 : Int) (Kn : T0) (Kr : T0) (g : Env) (hg : E1 g x0 x1 x2 x3) (h : H) (hS : n1 x0 x1 x2 x3 Kn Kr h) : wpC none Try.prog 64 code (Q0 Kn Kr) g h := by
  obtain ⟨hg0, hg1, hg2, hg3, hds⟩ := hg
  refine wpC_seq' (x := n1_c1) (y := n1_c2) (Q' := (Q3 (fun z0 z1 z2 z3 h => n2 z0 z1 z2 z3 Kn Kr h) Kr)) (by kernel_rfl) ?_ ?_
  · refine wpC_of_wpx (by kernel_rfl) (by kernel_rfl) (g' := ((((⟨g.v, []⟩ : Env).upd (some 0) (.pointer x0)).upd (some 1) (.int .i64 x1)).upd (some 2) (.int .i64 x2)).upd (some 3) (.int .i64 x3)) (by rw [env_ds hds, upd_self hg0, upd_self hg1, upd_self hg2, upd_self hg3]) ?_
    have e : (n1 x0 x1 x2 x3 Kn Kr h) = wpx none Try.prog 64 n1_c1 (Q3 (fun z0 z1 z2 z3 h => n2 z0 z1 z2 z3 Kn Kr h) Kr) (((((⟨g.v, []⟩ : Env).upd (some 0) (.pointer x0)).upd (some 1) (.int .i64 x1)).upd (some 2) (.int .i64 x2)).upd (some 3) (.int .i64 x3)) h := by kernel_rfl
    exact e ▸ hS
  · intro e g' h' hq
    cases e with
    | normal =>
      have hq : D1 (fun z0 z1 z2 z3 h => n2 z0 z1 z2 z3 Kn Kr h) g' h' := hq
      obtain ⟨y0, y1, y2, y3, hg', hq⟩ := D1_ok hq
      exact n2_ok y0 y1 y2 y3 Kn Kr g' hg' h' hq
    | _ => exact hq
/-- WHAT (*tympan/dom.Tree).Put ASKS -/
abbrev asks (x0 : Option Addr) (x1 : Int) (x2 : Int) (x3 : Int) (K : Value → H → Prop) (h : H) : Prop := n1 x0 x1 x2 x3 (fun y8 h => K (.bool y8) h) (fun y8 h => K (.bool y8) h) h
theorem ok (x0 : Option Addr) (x1 : Int) (x2 : Int) (x3 : Int) (K : Value → H → Prop) (h : H) (hS : asks x0 x1 x2 x3 K h) : HCalls Try.prog 19 ⟨[(.pointer x0), (.int .i64 x1), (.int .i64 x2), (.int .i64 x3)]⟩ h K := by
  refine calls_of_wpC (c := code) Try.func19 (by kernel_rfl) (Nat.le_of_ble_eq_true (by kernel_rfl)) ?_
  refine (n1_ok x0 x1 x2 x3 (fun y8 h => K (.bool y8) h) (fun y8 h => K (.bool y8) h) (env0 [(.pointer x0), (.int .i64 x1), (.int .i64 x2), (.int .i64 x3)]) ⟨rfl, rfl, rfl, rfl, rfl⟩ h hS).mono ?_
  intro e g' h' hq
  cases e with
  | normal =>
    have hq : D0 (fun y8 h => K (.bool y8) h) g' h' := hq
    obtain ⟨y8, ⟨hg8, hd⟩, hq⟩ := D0_ok hq
    show leaveX g'.ds h' _
    rw [hd]
    show K (g'.v 8) h'
    rw [hg8]
    exact hq
  | ret =>
    have hq : D0 (fun y8 h => K (.bool y8) h) g' h' := hq
    obtain ⟨y8, ⟨hg8, hd⟩, hq⟩ := D0_ok hq
    show leaveX g'.ds h' _
    rw [hd]
    show K (g'.v 8) h'
    rw [hg8]
    exact hq
  | _ => exact hq
end Sx.dom_Tree_Put

/-! ### (*tympan/dom.Tree).Write -/
namespace Sx.dom_Tree_Write
noncomputable def code : Code := bodyOf Try.f21
abbrev T0 := Bool → H → Prop
def E0 (g : Env) (x8 : Bool) : Prop := g.v 8 = (.bool x8) ∧ g.ds = []
def D0 (K : T0) (g : Env) (h : H) : Prop := nilDs g.ds (vBool (g.v 8) fun b1 => K b1 h)
theorem D0_ok {K : T0} {g : Env} {h : H} (hq : D0 K g h) : ∃ (x8 : Bool), E0 g x8 ∧ K x8 h := by
  obtain ⟨hd, hq⟩ := nilDs_ok hq
  obtain ⟨y3, e2, q4⟩ := vBool_ok hq
  exact ⟨y3, ⟨e2, hd⟩, q4⟩
def Q0 (Kn : T0) (Kr : T0) : XPost
  | .normal, g, h => D0 Kn g h
  | .ret, g, h => D0 Kr g h
  | _, _, _ => False
abbrev T1 := (Option Addr) → Int → Int → (List UInt8) → H → Prop
def E1 (g : Env) (x0 : Option Addr) (x1 : Int) (x2 : Int) (x3 : List UInt8) : Prop := g.v 0 = (.pointer x0) ∧ g.v 1 = (.int .i64 x1) ∧ g.v 2 = (.int .i64 x2) ∧ g.v 3 = (S x3) ∧ g.ds = []
def D1 (K : T1) (g : Env) (h : H) : Prop := nilDs g.ds (vPtr (g.v 0) fun p5 => vInt .i64 (g.v 1) fun i6 => vInt .i64 (g.v 2) fun i7 => vStr (g.v 3) fun s8 => K p5 i6 i7 s8 h)
theorem D1_ok {K : T1} {g : Env} {h : H} (hq : D1 K g h) : ∃ (x0 : Option Addr) (x1 : Int) (x2 : Int) (x3 : List UInt8), E1 g x0 x1 x2 x3 ∧ K x0 x1 x2 x3 h := by
  obtain ⟨hd, hq⟩ := nilDs_ok hq
  obtain ⟨y10, e9, q11⟩ := vPtr_ok hq
  obtain ⟨y13, e12, q14⟩ := vInt_ok q11
  obtain ⟨y16, e15, q17⟩ := vInt_ok q14
  obtain ⟨y19, e18, q20⟩ := vStr_ok q17
  exact ⟨y10, y13, y16, y19, ⟨e9, e12, e15, e18, hd⟩, q20⟩
noncomputable def n1_c1 : Code := cFst code
noncomputable def n1_c2 : Code := cSnd code
noncomputable def n2_c1 : Code := cFst n1_c2
noncomputable def n2_c2 : Code := cSnd n1_c2
abbrev T2 := (Option Addr) → Int → Int → (List UInt8) → (Option Addr) → H → Prop
def E2 (g : Env) (x0 : Option Addr) (x1 : Int) (x2 : Int) (x3 : List UInt8) (x9 : Option Addr) : Prop := g.v 0 = (.pointer x0) ∧ g.v 1 = (.int .i64 x1) ∧ g.v 2 = (.int .i64 x2) ∧ g.v 3 = (S x3) ∧ g.v 9 = (.pointer x9) ∧ g.ds = []
def D2 (K : T2) (g : Env) (h : H) : Prop := nilDs g.ds (vPtr (g.v 0) fun p21 => vInt .i64 (g.v 1) fun i22 => vInt .i64 (g.v 2) fun i23 => vStr (g.v 3) fun s24 => vPtr (g.v 9) fun p25 => K p21 i22 i23 s24 p25 h)
theorem D2_ok {K : T2} {g : Env} {h : H} (hq : D2 K g h) : ∃ (x0 : Option Addr) (x1 : Int) (x2 : Int) (x3 : List UInt8) (x9 : Option Addr), E2 g x0 x1 x2 x3 x9 ∧ K x0 x1 x2 x3 x9 h := by
  obtain ⟨hd, hq⟩ := nilDs_ok hq
  obtain ⟨y27, e26, q28⟩ := vPtr_ok hq
  obtain ⟨y30, e29, q31⟩ := vInt_ok q28
  obtain ⟨y33, e32, q34⟩ := vInt_ok q31
  obtain ⟨y36, e35, q37⟩ := vStr_ok q34
  obtain ⟨y39, e38, q40⟩ := vPtr_ok q37
  exact ⟨y27, y30, y33, y36, y39, ⟨e26, e29, e32, e35, e38, hd⟩, q40⟩
noncomputable def n3_c1 : Code := cFst n2_c2
noncomputable def n3_c2 : Code := cSnd n2_c2
noncomputable def n4_c1 : Code := cFst n3_c2
noncomputable def n4_c2 : Code := cSnd n3_c2
noncomputable def n5_c1 : Code := cFst n4_c2
noncomputable def n5_c2 : Code := cSnd n4_c2
abbrev n6 (x0 : Option Addr) (x1 : Int) (x2 : Int) (x3 : List UInt8) (Kn : T0) (Kr : T0) (h : H) : Prop :=
  HCalls Try.prog 18 ⟨[(.pointer x0), (.agg ⟨[(.int .u8 (2 : Int)), (.int .u8 (0 : Int)), (S ([] : List UInt8)), (.slice none 0 0), (S x3), (.slice none 0 0)]⟩)]⟩ h fun v41 h42 => vInt .i64 v41 fun i43 => HCalls Try.prog 19 ⟨[(.pointer x0), (.int .i64 x1), (.int .i64 x2), (.int .i64 i43)]⟩ h42 fun v44 h45 => vBool v44 fun b46 => cond b46 (Kr true h45) (Kr false h45)
theorem n6_ok (x0 : Option Addr) (x1 : Int) (x2 : Int) (x3 : List UInt8) (Kn : T0) (Kr : T0) (g : Env) (hg : E1 g x0 x1 x2 x3) (h : H) (hS : n6 x0 x1 x2 x3 Kn Kr h) : wpC none Try.prog 68 n5_c2 (Q0 Kn Kr) g h := by
  obtain ⟨hg0, hg1, hg2, hg3, hds⟩ := hg
  refine wpC_of_wpx (by kernel_rfl) (by kernel_rfl) (g' := ((((⟨g.v, []⟩ : Env).upd (some 0) (.pointer x0)).upd (some 1) (.int .i64 x1)).upd (some 2) (.int .i64 x2)).upd (some 3) (S x3)) (by rw [env_ds hds, upd_self hg0, upd_self hg1, upd_self hg2, upd_self hg3]) ?_
  have e : (n6 x0 x1 x2 x3 Kn Kr h) = wpx none Try.prog 68 n5_c2 (Q0 Kn Kr) (((((⟨g.v, []⟩ : Env).upd (some 0) (.pointer x0)).upd (some 1) (.int .i64 x1)).upd (some 2) (.int .i64 x2)).upd (some 3) (S x3)) h := by kernel_rfl
  exact e ▸ hS
def Q1 (Kn : T1) (Kr : T0) : XPost
  | .normal, g, h => D1 Kn g h
  | .ret, g, h => D0 Kr g h
  | _, _, _ => False
noncomputable def n7_c1 : Code := cFst n5_c1
noncomputable def n7_c2 : Code := cSnd n5_c1
abbrev T3 := (Option Addr) → Int → Int → (List UInt8) → (Option Addr) → Int → H → Prop
def E3 (g : Env) (x0 : Option Addr) (x1 : Int) (x2 : Int) (x3 : List UInt8) (x9 : Option Addr) (x10 : Int) : Prop := g.v 0 = (.pointer x0) ∧ g.v 1 = (.int .i64 x1) ∧ g.v 2 = (.int .i64 x2) ∧ g.v 3 = (S x3) ∧ g.v 9 = (.pointer x9) ∧ g.v 10 = (.int .i64 x10) ∧ g.ds = []
def D3 (K : T3) (g : Env) (h : H) : Prop := nilDs g.ds (vPtr (g.v 0) fun p47 => vInt .i64 (g.v 1) fun i48 => vInt .i64 (g.v 2) fun i49 => vStr (g.v 3) fun s50 => vPtr (g.v 9) fun p51 => vInt .i64 (g.v 10) fun i52 => K p47 i48 i49 s50 p51 i52 h)
theorem D3_ok {K : T3} {g : Env} {h : H} (hq : D3 K g h) : ∃ (x0 : Option Addr) (x1 : Int) (x2 : Int) (x3 : List UInt8) (x9 : Option Addr) (x10 : Int), E3 g x0 x1 x2 x3 x9 x10 ∧ K x0 x1 x2 x3 x9 x10 h := by
  obtain ⟨hd, hq⟩ := nilDs_ok hq
  obtain ⟨y54, e53, q55⟩ := vPtr_ok hq
  obtain ⟨y57, e56, q58⟩ := vInt_ok q55
  obtain ⟨y60, e59, q61⟩ := vInt_ok q58
  obtain ⟨y63, e62, q64⟩ := vStr_ok q61
  obtain ⟨y66, e65, q67⟩ := vPtr_ok q64
  obtain ⟨y69, e68, q70⟩ := vInt_ok q67
  exact ⟨y54, y57, y60, y63, y66, y69, ⟨e53, e56, e59, e62, e65, e68, hd⟩, q70⟩
noncomputable def n8_c1 : Code := cFst n7_c2
noncomputable def n8_c2 : Code := cSnd n7_c2
abbrev T4 := (Option Addr) → Int → Int → (List UInt8) → (Option Addr) → Int → Bool → H → Prop
def E4 (g : Env) (x0 : Option Addr) (x1 : Int) (x2 : Int) (x3 : List UInt8) (x9 : Option Addr) (x10 : Int) (x29 : Bool) : Prop := g.v 0 = (.pointer x0) ∧ g.v 1 = (.int .i64 x1) ∧ g.v 2 = (.int .i64 x2) ∧ g.v 3 = (S x3) ∧ g.v 9 = (.pointer x9) ∧ g.v 10 = (.int .i64 x10) ∧ g.v 29 = (.bool x29) ∧ g.ds = []
def D4 (K : T4) (g : Env) (h : H) : Prop := nilDs g.ds (vPtr (g.v 0) fun p71 => vInt .i64 (g.v 1) fun i72 => vInt .i64 (g.v 2) fun i73 => vStr (g.v 3) fun s74 => vPtr (g.v 9) fun p75 => vInt .i64 (g.v 10) fun i76 => vBool (g.v 29) fun b77 => K p71 i72 i73 s74 p75 i76 b77 h)
theorem D4_ok {K : T4} {g : Env} {h : H} (hq : D4 K g h) : ∃ (x0 : Option Addr) (x1 : Int) (x2 : Int) (x3 : List UInt8) (x9 : Option Addr) (x10 : Int) (x29 : Bool), E4 g x0 x1 x2 x3 x9 x10 x29 ∧ K x0 x1 x2 x3 x9 x10 x29 h := by
  obtain ⟨hd, hq⟩ := nilDs_ok hq
  obtain ⟨y79, e78, q80⟩ := vPtr_ok hq
  obtain ⟨y82, e81, q83⟩ := vInt_ok q80
  obtain ⟨y85, e84, q86⟩ := vInt_ok q83
  obtain ⟨y88, e87, q89⟩ := vStr_ok q86
  obtain ⟨y91, e90, q92⟩ := vPtr_ok q89
  obtain ⟨y94, e93, q95⟩ := vInt_ok q92
  obtain ⟨y97, e96, q98⟩ := vBool_ok q95
  exact ⟨y79, y82, y85, y88, y91, y94, y97, ⟨e78, e81, e84, e87, e90, e93, e96, hd⟩, q98⟩
abbrev n9 (x0 : Option Addr) (x1 : Int) (x2 : Int) (x3 : List UInt8) (x9 : Option Addr) (x10 : Int) (x29 : Bool) (Kn : T1) (Kr : T0) (h : H) : Prop :=
  cond x29 (vSome x0 fun a99 => ∃ s100b s100n s100c, cell h (a99.add 0) = some (.slice s100b s100n s100c) ∧ (vSome x9 fun a101 => ∃ s102b s102n s102c, cell h (a101.add 7) = some (.slice s102b s102n s102c) ∧ (Rng .i64 (x10 - (1 : Int)) ∧ ((0 ≤ (x10 - (1 : Int)) ∧ (x10 - (1 : Int)) < (s102n : Int)) ∧ (vSome s102b fun a103 => ∃ i104, cell h (a103.add (Int.toNat (x10 - (1 : Int)) * 1)) = some (.int .i64 i104) ∧ ((0 ≤ i104 ∧ i104 < (s100n : Int)) ∧ (vSome s100b fun a105 => ∃ p106, cell h (a105.add (Int.toNat i104 * 1)) = some (.pointer p106) ∧ (vSome p106 fun a107 => ∃ i108, cell h ((a107.add 0).add 0) = some (.int .u8 i108) ∧ (Spl (i108 = (2 : Int)) (vSome p106 fun a109 => ∃ s110, cell h ((a109.add 0).add 4) = some (S s110) ∧ (((s110.length + x3.length : Nat) : Int) ≤ 9223372036854775807 ∧ (vSome p106 fun a111 => stL ((a111.add 0).add 4) [(S (s110 ++ x3))] 0 h fun h112 => Kr true h112))) (Kn x0 x1 x2 x3 h)))))))))) (Kn x0 x1 x2 x3 h)
theorem n9_ok (x0 : Option Addr) (x1 : Int) (x2 : Int) (x3 : List UInt8) (x9 : Option Addr) (x10 : Int) (x29 : Bool) (Kn : T1) (Kr : T0) (g : Env) (hg : E4 g x0 x1 x2 x3 x9 x10 x29) (h : H) (hS : n9 x0 x1 x2 x3 x9 x10 x29 Kn Kr h) : wpC none Try.prog 68 n8_c2 (Q1 Kn Kr) g h := by
  obtain ⟨hg0, hg1, hg2, hg3, hg9, hg10, hg29, hds⟩ := hg
  refine wpC_of_wpx (by kernel_rfl) (by kernel_rfl) (g' := (((((((⟨g.v, []⟩ : Env).upd (some 0) (.pointer x0)).upd (some 1) (.int .i64 x1)).upd (some 2) (.int .i64 x2)).upd (some 3) (S x3)).upd (some 9) (.pointer x9)).upd (some 10) (.int .i64 x10)).upd (some 29) (.bool x29)) (by rw [env_ds hds, upd_self hg0, upd_self hg1, upd_self hg2, upd_self hg3, upd_self hg9, upd_self hg10, upd_self hg29]) ?_
  have e : (n9 x0 x1 x2 x3 x9 x10 x29 Kn Kr h) = wpx none Try.prog 68 n8_c2 (Q1 Kn Kr) ((((((((⟨g.v, []⟩ : Env).upd (some 0) (.pointer x0)).upd (some 1) (.int .i64 x1)).upd (some 2) (.int .i64 x2)).upd (some 3) (S x3)).upd (some 9) (.pointer x9)).upd (some 10) (.int .i64 x10)).upd (some 29) (.bool x29)) h := by kernel_rfl
  exact e ▸ hS
def Q2 (Kn : T4) (Kr : T0) : XPost
  | .normal, g, h => D4 Kn g h
  | .ret, g, h => D0 Kr g h
  | _, _, _ => False
abbrev n8 (x0 : Option Addr) (x1 : Int) (x2 : Int) (x3 : List UInt8) (x9 : Option Addr) (x10 : Int) (Kn : T1) (Kr : T0) (h : H) : Prop :=
  Spl (x10 > (0 : Int)) (n9 x0 x1 x2 x3 x9 x10 true Kn Kr h) (n9 x0 x1 x2 x3 x9 x10 false Kn Kr h)
theorem n8_ok (x0 : Option Addr) (x1 : Int) (x2 : Int) (x3 : List UInt8) (x9 : Option Addr) (x10 : Int) (Kn : T1) (Kr : T0) (g : Env) (hg : E3 g x0 x1 x2 x3 x9 x10) (h : H) (hS : n8 x0 x1 x2 x3 x9 x10 Kn Kr h) : wpC none Try.prog 68 n7_c2 (Q1 Kn Kr) g h := by
  obtain ⟨hg0, hg1, hg2, hg3, hg9, hg10, hds⟩ := hg
  refine wpC_seq' (x := n8_c1) (y := n8_c2) (Q' := (Q2 (fun z0 z1 z2 z3 z9 z10 z29 h => n9 z0 z1 z2 z3 z9 z10 z29 Kn Kr h) Kr)) (by kernel_rfl) ?_ ?_
  · refine wpC_of_wpx (by kernel_rfl) (by kernel_rfl) (g' := ((((((⟨g.v, []⟩ : Env).upd (some 0) (.pointer x0)).upd (some 1) (.int .i64 x1)).upd (some 2) (.int .i64 x2)).upd (some 3) (S x3)).upd (some 9) (.pointer x9)).upd (some 10) (.int .i64 x10)) (by rw [env_ds hds, upd_self hg0, upd_self hg1, upd_self hg2, upd_self hg3, upd_self hg9, upd_self hg10]) ?_
    have e : (n8 x0 x1 x2 x3 x9 x10 Kn Kr h) = wpx none Try.prog 68 n8_c1 (Q2 (fun z0 z1 z2 z3 z9 z10 z29 h => n9 z0 z1 z2 z3 z9 z10 z29 Kn Kr h) Kr) (((((((⟨g.v, []⟩ : Env).upd (some 0) (.pointer x0)).upd (some 1) (.int .i64 x1)).upd (some 2) (.int .i64 x2)).upd (some 3) (S x3)).upd (some 9) (.pointer x9)).upd (some 10) (.int .i64 x10)) h := by kernel_rfl
    exact e ▸ hS
  · intro e g' h' hq
    cases e with
    | normal =>
      have hq : D4 (fun z0 z1 z2 z3 z9 z10 z29 h => n9 z0 z1 z2 z3 z9 z10 z29 Kn Kr h) g' h' := hq
      obtain ⟨y0, y1, y2, y3, y9, y10, y29, hg', hq⟩ := D4_ok hq
      exact n9_ok y0 y1 y2 y3 y9 y10 y29 Kn Kr g' hg' h' hq
    | _ => exact hq
def Q3 (Kn : T3) (Kr : T0) : XPost
  | .normal, g, h => D3 Kn g h
  | .ret, g, h => D0 Kr g h
  | _, _, _ => False
abbrev n7 (x0 : Option Addr) (x1 : Int) (x2 : Int) (x3 : List UInt8) (x9 : Option Addr) (Kn : T1) (Kr : T0) (h : H) : Prop :=
  HCalls Try.prog 27 ⟨[(.pointer x9), (.int .i64 x2)]⟩ h fun v113 h114 => vInt .i64 v113 fun i115 => n8 x0 x1 x2 x3 x9 i115 Kn Kr h114
theorem n7_ok (x0 : Option Addr) (x1 : Int) (x2 : Int) (x3 : List UInt8) (x9 : Option Addr) (Kn : T1) (Kr : T0) (g : Env) (hg : E2 g x0 x1 x2 x3 x9) (h : H) (hS : n7 x0 x1 x2 x3 x9 Kn Kr h) : wpC none Try.prog 68 n5_c1 (Q1 Kn Kr) g h := by
  obtain ⟨hg0, hg1, hg2, hg3, hg9, hds⟩ := hg
  refine wpC_seq' (x := n7_c1) (y := n7_c2) (Q' := (Q3 (fun z0 z1 z2 z3 z9 z10 h => n8 z0 z1 z2 z3 z9 z10 Kn Kr h) Kr)) (by kernel_rfl) ?_ ?_
  · refine wpC_of_wpx (by kernel_rfl) (by kernel_rfl) (g' := (((((⟨g.v, []⟩ : Env).upd (some 0) (.pointer x0)).upd (some 1) (.int .i64 x1)).upd (some 2) (.int .i64 x2)).upd (some 3) (S x3)).upd (some 9) (.pointer x9)) (by rw [env_ds hds, upd_self hg0, upd_self hg1, upd_self hg2, upd_self hg3, upd_self hg9]) ?_
    have e : (n7 x0 x1 x2 x3 x9 Kn Kr h) = wpx none Try.prog 68 n7_c1 (Q3 (fun z0 z1 z2 z3 z9 z10 h => n8 z0 z1 z2 z3 z9 z10 Kn Kr h) Kr) ((((((⟨g.v, []⟩ : Env).upd (some 0) (.pointer x0)).upd (some 1) (.int .i64 x1)).upd (some 2) (.int .i64 x2)).upd (some 3) (S x3)).upd (some 9) (.pointer x9)) h := by kernel_rfl
    exact e ▸ hS
  · intro e g' h' hq
    cases e with
    | normal =>
      have hq : D3 (fun z0 z1 z2 z3 z9 z10 h => n8 z0 z1 z2 z3 z9 z10 Kn Kr h) g' h' := hq
      obtain ⟨y0, y1, y2, y3, y9, y10, hg', hq⟩ := D3_ok hq
      exact n8_ok y0 y1 y2 y3 y9 y10 Kn Kr g' hg' h' hq
    | _ => exact hq
abbrev n5 (x0 : Option Addr) (x1 : Int) (x2 : Int) (x3 : List UInt8) (x9 : Option Addr) (Kn : T0) (Kr : T0) (h : H) : Prop := n7 x0 x1 x2 x3 x9 (fun z0 z1 z2 z3 h => n6 z0 z1 z2 z3 Kn Kr h) Kr h
theorem n5_ok (x0 : Option Addr) (x1 : Int) (x2 : Int) (x3 : List UInt8) (x9 : Option Addr) (Kn : T0) (Kr : T0) (g : Env) (hg : E2 g x0 x1 x2 x3 x9) (h : H) (hS : n5 x0 x1 x2 x3 x9 Kn Kr h) : wpC none Try.prog 68 n4_c2 (Q0 Kn Kr) g h := by
  refine wpC_seq' (x := n5_c1) (y := n5_c2) (by kernel_rfl) (n7_ok x0 x1 x2 x3 x9 (fun z0 z1 z2 z3 h => n6 z0 z1 z2 z3 Kn Kr h) Kr g hg h hS) ?_
  intro e g' h' hq
  cases e with
  | normal =>
    have hq : D1 (fun z0 z1 z2 z3 h => n6 z0 z1 z2 z3 Kn Kr h) g' h' := hq
    obtain ⟨y0, y1, y2, y3, hg', hq⟩ := D1_ok hq
    exact n6_ok y0 y1 y2 y3 Kn Kr g' hg' h' hq
  | _ => exact hq
def Q4 (Kn : T2) (Kr : T0) : XPost
  | .normal, g, h => D2 Kn g h
  | .ret, g, h => D0 Kr g h
  | _, _, _ => False
abbrev n4 (x0 : Option Addr) (x1 : Int) (x2 : Int) (x3 : List UInt8) (x9 : Option Addr) (Kn : T0) (Kr : T0) (h : H) : Prop :=
  Spl (x3 = ([] : List UInt8)) (Kr true h) (n5 x0 x1 x2 x3 x9 Kn Kr h)
theorem n4_ok (x0 : Option Addr) (x1 : Int) (x2 : Int) (x3 : List UInt8) (x9 : Option Addr) (Kn : T0) (Kr : T0) (g : Env) (hg : E2 g x0 x1 x2 x3 x9) (h : H) (hS : n4 x0 x1 x2 x3 x9 Kn Kr h) : wpC none Try.prog 68 n3_c2 (Q0 Kn Kr) g h := by
  obtain ⟨hg0, hg1, hg2, hg3, hg9, hds⟩ := hg
  refine wpC_seq' (x := n4_c1) (y := n4_c2) (Q' := (Q4 (fun z0 z1 z2 z3 z9 h => n5 z0 z1 z2 z3 z9 Kn Kr h) Kr)) (by kernel_rfl) ?_ ?_
  · refine wpC_of_wpx (by kernel_rfl) (by kernel_rfl) (g' := (((((⟨g.v, []⟩ : Env).upd (some 0) (.pointer x0)).upd (some 1) (.int .i64 x1)).upd (some 2) (.int .i64 x2)).upd (some 3) (S x3)).upd (some 9) (.pointer x9)) (by rw [env_ds hds, upd_self hg0, upd_self hg1, upd_self hg2, upd_self hg3, upd_self hg9]) ?_
    have e : (n4 x0 x1 x2 x3 x9 Kn Kr h) = wpx none Try.prog 68 n4_c1 (Q4 (fun z0 z1 z2 z3 z9 h => n5 z0 z1 z2 z3 z9 Kn Kr h) Kr) ((((((⟨g.v, []⟩ : Env).upd (some 0) (.pointer x0)).upd (some 1) (.int .i64 x1)).upd (some 2) (.int .i64 x2)).upd (some 3) (S x3)).upd (some 9) (.pointer x9)) h := by kernel_rfl
    exact e ▸ hS
  · intro e g' h' hq
    cases e with
    | normal =>
      have hq : D2 (fun z0 z1 z2 z3 z9 h => n5 z0 z1 z2 z3 z9 Kn Kr h) g' h' := hq
      obtain ⟨y0, y1, y2, y3, y9, hg', hq⟩ := D2_ok hq
      exact n5_ok y0 y1 y2 y3 y9 Kn Kr g' hg' h' hq
    | _ => exact hq
abbrev n3 (x0 : Option Addr) (x1 : Int) (x2 : Int) (x3 : List UInt8) (x9 : Option Addr) (Kn : T0) (Kr : T0) (h : H) : Prop :=
  SemH Try.prog (binS .eql 58 (.tmp 15) (.const (.pointer none)) (.pointer x9) (.pointer none)) h fun v116 h117 => vBool v116 fun b118 => cond b118 (Kr false h117) (HCalls Try.prog 27 ⟨[(.pointer x9), (.int .i64 x2)]⟩ h117 fun v119 h120 => vInt .i64 v119 fun i121 => Spl (i121 < (0 : Int)) (Kr false h120) (n4 x0 x1 x2 x3 x9 Kn Kr h120))
theorem n3_ok (x0 : Option Addr) (x1 : Int) (x2 : Int) (x3 : List UInt8) (x9 : Option Addr) (Kn : T0) (Kr : T0) (g : Env) (hg : E2 g x0 x1 x2 x3 x9) (h : H) (hS : n3 x0 x1 x2 x3 x9 Kn Kr h) : wpC none Try.prog 68 n2_c2 (Q0 Kn Kr) g h := by
  obtain ⟨hg0, hg1, hg2, hg3, hg9, hds⟩ := hg
  refine wpC_seq' (x := n3_c1) (y := n3_c2) (Q' := (Q4 (fun z0 z1 z2 z3 z9 h => n4 z0 z1 z2 z3 z9 Kn Kr h) Kr)) (by kernel_rfl) ?_ ?_
  · refine wpC_of_wpx (by kernel_rfl) (by kernel_rfl) (g' := (((((⟨g.v, []⟩ : Env).upd (some 0) (.pointer x0)).upd (some 1) (.int .i64 x1)).upd (some 2) (.int .i64 x2)).upd (some 3) (S x3)).upd (some 9) (.pointer x9)) (by rw [env_ds hds, upd_self hg0, upd_self hg1, upd_self hg2, upd_self hg3, upd_self hg9]) ?_
    have e : (n3 x0 x1 x2 x3 x9 Kn Kr h) = wpx none Try.prog 68 n3_c1 (Q4 (fun z0 z1 z2 z3 z9 h => n4 z0 z1 z2 z3 z9 Kn Kr h) Kr) ((((((⟨g.v, []⟩ : Env).upd (some 0) (.pointer x0)).upd (some 1) (.int .i64 x1)).upd (some 2) (.int .i64 x2)).upd (some 3) (S x3)).upd (some 9) (.pointer x9)) h := by kernel_rfl
    exact e ▸ hS
  · intro e g' h' hq
    cases e with
    | normal =>
      have hq : D2 (fun z0 z1 z2 z3 z9 h => n4 z0 z1 z2 z3 z9 Kn Kr h) g' h' := hq
      obtain ⟨y0, y1, y2, y3, y9, hg', hq⟩ := D2_ok hq
      exact n4_ok y0 y1 y2 y3 y9 Kn Kr g' hg' h' hq
    | _ => exact hq
abbrev n2 (x0 : Option Addr) (x1 : Int) (x2 : Int) (x3 : List UInt8) (Kn : T0) (Kr : T0) (h : H) : Prop :=
  HCalls Try.prog 26 ⟨[(.pointer x0), (.int .i64 x1)]⟩ h fun v122 h123 => vPtr v122 fun p124 => n3 x0 x1 x2 x3 p124 Kn Kr h123
theorem n2_ok (x0 : Option Addr) (x1 : Int) (x2 : Int) (x3 : List UInt8) (Kn : T0) (Kr : T0) (g : Env) (hg : E1 g x0 x1 x2 x3) (h : H) (hS : n2 x0 x1 x2 x3 Kn Kr h) : wpC none Try.prog 68 n1_c2 (Q0 Kn Kr) g h := by
  obtain ⟨hg0, hg1, hg2, hg3, hds⟩ := hg
  refine wpC_seq' (x := n2_c1) (y := n2_c2) (Q' := (Q4 (fun z0 z1 z2 z3 z9 h => n3 z0 z1 z2 z3 z9 Kn Kr h) Kr)) (by kernel_rfl) ?_ ?_
  · refine wpC_of_wpx (by kernel_rfl) (by kernel_rfl) (g' := ((((⟨g.v, []⟩ : Env).upd (some 0) (.pointer x0)).upd (some 1) (.int .i64 x1)).upd (some 2) (.int .i64 x2)).upd (some 3) (S x3)) (by rw [env_ds hds, upd_self hg0, upd_self hg1, upd_self hg2, upd_self hg3]) ?_
    have e : (n2 x0 x1 x2 x3 Kn Kr h) = wpx none Try.prog 68 n2_c1 (Q4 (fun z0 z1 z2 z3 z9 h => n3 z0 z1 z2 z3 z9 Kn Kr h) Kr) (((((⟨g.v, []⟩ : Env).upd (some 0) (.pointer x0)).upd (some 1) (.int .i64 x1)).upd (some 2) (.int .i64 x2)).upd (some 3) (S x3)) h := by kernel_rfl
    exact e ▸ hS
  · intro e g' h' hq
    cases e with
    | normal =>
      have hq : D2 (fun z0 z1 z2 z3 z9 h => n3 z0 z1 z2 z3 z9 Kn Kr h) g' h' := hq
      obtain ⟨y0, y1, y2, y3, y9, hg', hq⟩ := D2_ok hq
      exact n3_ok y0 y1 y2 y3 y9 Kn Kr g' hg' h' hq
    | _ => exact hq
abbrev n1 (x0 : Option Addr) (x1 : Int) (x2 : Int) (x3 : List UInt8) (Kn : T0) (Kr : T0) (h : H) : Prop :=
  n2 x0 x1 x2 x3 Kn Kr h
theorem n1_ok (x0 : Option Addr) (x1 : Int) (x2 : Int) (x3 : List UInt8) (Kn : T0) (Kr : T0) (g : Env) (hg : E1 g x0 x1 x2 x3) (h : H) (hS : n1 x0 x1 x2 x3 Kn Kr h) : wpC none Try.prog 68 code (Q0 Kn Kr) g h := by
  obtain ⟨hg0, hg1, hg2, hg3, hds⟩ := hg
  refine wpC_seq' (x := n1_c1) (y := n1_c2) (Q' := (Q1 (fun z0 z1 z2 z3 h => n2 z0 z1 z2 z3 Kn Kr h) Kr)) (by kernel_rfl) ?_ ?_
  · refine wpC_of_wpx (by kernel_rfl) (by kernel_rfl) (g' := ((((⟨g.v, []⟩ : Env).upd (some 0) (.pointer x0)).upd (some 1) (.int .i64 x1)).upd (some 2) (.int .i64 x2)).upd (some 3) (S x3)) (by rw [env_ds hds, upd_self hg0, upd_self hg1, upd_self hg2, upd_self hg3]) ?_
    have e : (n1 x0 x1 x2 x3 Kn Kr h) = wpx none Try.prog 68 n1_c1 (Q1 (fun z0 z1 z2 z3 h => n2 z0 z1 z2 z3 Kn Kr h) Kr) (((((⟨g.v, []⟩ : Env).upd (some 0) (.pointer x0)).upd (some 1) (.int .i64 x1)).upd (some 2) (.int .i64 x2)).upd (some 3) (S x3)) h := by kernel_rfl
    exact e ▸ hS
  · intro e g' h' hq
    cases e with
    | normal =>
      have hq : D1 (fun z0 z1 z2 z3 h => n2 z0 z1 z2 z3 Kn Kr h) g' h' := hq
      obtain ⟨y0, y1, y2, y3, hg', hq⟩ := D1_ok hq
      exact n2_ok y0 y1 y2 y3 Kn Kr g' hg' h' hq
    | _ => exact hq
/-- WHAT (*tympan/dom.Tree).Write ASKS -/
abbrev asks (x0 : Option Addr) (x1 : Int) (x2 : Int) (x3 : List UInt8) (K : Value → H → Prop) (h : H) : Prop := n1 x0 x1 x2 x3 (fun y8 h => K (.bool y8) h) (fun y8 h => K (.bool y8) h) h
theorem ok (x0 : Option Addr) (x1 : Int) (x2 : Int) (x3 : List UInt8) (K : Value → H → Prop) (h : H) (hS : asks x0 x1 x2 x3 K h) : HCalls Try.prog 21 ⟨[(.pointer x0), (.int .i64 x1), (.int .i64 x2), (S x3)]⟩ h K := by
  refine calls_of_wpC (c := code) Try.func21 (by kernel_rfl) (Nat.le_of_ble_eq_true (by kernel_rfl)) ?_
  refine (n1_ok x0 x1 x2 x3 (fun y8 h => K (.bool y8) h) (fun y8 h => K (.bool y8) h) (env0 [(.pointer x0), (.int .i64 x1), (.int .i64 x2), (S x3)]) ⟨rfl, rfl, rfl, rfl, rfl⟩ h hS).mono ?_
  intro e g' h' hq
  cases e with
  | normal =>
    have hq : D0 (fun y8 h => K (.bool y8) h) g' h' := hq
    obtain ⟨y8, ⟨hg8, hd⟩, hq⟩ := D0_ok hq
    show leaveX g'.ds h' _
    rw [hd]
    show K (g'.v 8) h'
    rw [hg8]
    exact hq
  | ret =>
    have hq : D0 (fun y8 h => K (.bool y8) h) g' h' := hq
    obtain ⟨y8, ⟨hg8, hd⟩, hq⟩ := D0_ok hq
    show leaveX g'.ds h' _
    rw [hd]
    show K (g'.v 8) h'
    rw [hg8]
    exact hq
  | _ => exact hq
end Sx.dom_Tree_Write

/-! ### (*tympan/dom.Tree).at -/
namespace Sx.dom_Tree_at
noncomputable def code : Code := bodyOf Try.f22
abbrev T0 := (Option Addr) → H → Prop
def E0 (g : Env) (x4 : Option Addr) : Prop := g.v 4 = (.pointer x4) ∧ g.ds = []
def D0 (K : T0) (g : Env) (h : H) : Prop := nilDs g.ds (vPtr (g.v 4) fun p1 => K p1 h)
theorem D0_ok {K : T0} {g : Env} {h : H} (hq : D0 K g h) : ∃ (x4 : Option Addr), E0 g x4 ∧ K x4 h := by
  obtain ⟨hd, hq⟩ := nilDs_ok hq
  obtain ⟨y3, e2, q4⟩ := vPtr_ok hq
  exact ⟨y3, ⟨e2, hd⟩, q4⟩
def Q0 (Kn : T0) (Kr : T0) : XPost
  | .normal, g, h => D0 Kn g h
  | .ret, g, h => D0 Kr g h
  | _, _, _ => False
abbrev T1 := (Option Addr) → Int → H → Prop
def E1 (g : Env) (x0 : Option Addr) (x1 : Int) : Prop := g.v 0 = (.pointer x0) ∧ g.v 1 = (.int .i64 x1) ∧ g.ds = []
def D1 (K : T1) (g : Env) (h : H) : Prop := nilDs g.ds (vPtr (g.v 0) fun p5 => vInt .i64 (g.v 1) fun i6 => K p5 i6 h)
theorem D1_ok {K : T1} {g : Env} {h : H} (hq : D1 K g h) : ∃ (x0 : Option Addr) (x1 : Int), E1 g x0 x1 ∧ K x0 x1 h := by
  obtain ⟨hd, hq⟩ := nilDs_ok hq
  obtain ⟨y8, e7, q9⟩ := vPtr_ok hq
  obtain ⟨y11, e10, q12⟩ := vInt_ok q9
  exact ⟨y8, y11, ⟨e7, e10, hd⟩, q12⟩
abbrev n1 (x0 : Option Addr) (x1 : Int) (Kn : T0) (Kr : T0) (h : H) : Prop :=
  Spl (x1 < (0 : Int)) (Kr none h) (vSome x0 fun a13 => ∃ s14b s14n s14c, cell h (a13.add 0) = some (.slice s14b s14n s14c) ∧ (Spl (x1 ≥ (s14n : Int)) (Kr none h) (vSome x0 fun a15 => ∃ s16b s16n s16c, cell h (a15.add 0) = some (.slice s16b s16n s16c) ∧ ((0 ≤ x1 ∧ x1 < (s16n : Int)) ∧ (vSome s16b fun a17 => ∃ p18, cell h (a17.add (Int.toNat x1 * 1)) = some (.pointer p18) ∧ (Kr p18 h))))))
theorem n1_ok (x0 : Option Addr) (x1 : Int) (Kn : T0) (Kr : T0) (g : Env) (hg : E1 g x0 x1) (h : H) (hS : n1 x0 x1 Kn Kr h) : wpC none Try.prog 23 code (Q0 Kn Kr) g h := by
  obtain ⟨hg0, hg1, hds⟩ := hg
  refine wpC_of_wpx (by kernel_rfl) (by kernel_rfl) (g' := ((⟨g.v, []⟩ : Env).upd (some 0) (.pointer x0)).upd (some 1) (.int .i64 x1)) (by rw [env_ds hds, upd_self hg0, upd_self hg1]) ?_
  have e : (n1 x0 x1 Kn Kr h) = wpx none Try.prog 23 code (Q0 Kn Kr) (((⟨g.v, []⟩ : Env).upd (some 0) (.pointer x0)).upd (some 1) (.int .i64 x1)) h := by kernel_rfl
  exact e ▸ hS
/-- WHAT (*tympan/dom.Tree).at ASKS -/
abbrev asks (x0 : Option Addr) (x1 : Int) (K : Value → H → Prop) (h : H) : Prop := n1 x0 x1 (fun y4 h => K (.pointer y4) h) (fun y4 h => K (.pointer y4) h) h
theorem ok (x0 : Option Addr) (x1 : Int) (K : Value → H → Prop) (h : H) (hS : asks x0 x1 K h) : HCalls Try.prog 22 ⟨[(.pointer x0), (.int .i64 x1)]⟩ h K := by
  refine calls_of_wpC (c := code) Try.func22 (by kernel_rfl) (Nat.le_of_ble_eq_true (by kernel_rfl)) ?_
  refine (n1_ok x0 x1 (fun y4 h => K (.pointer y4) h) (fun y4 h => K (.pointer y4) h) (env0 [(.pointer x0), (.int .i64 x1)]) ⟨rfl, rfl, rfl⟩ h hS).mono ?_
  intro e g' h' hq
  cases e with
  | normal =>
    have hq : D0 (fun y4 h => K (.pointer y4) h) g' h' := hq
    obtain ⟨y4, ⟨hg4, hd⟩, hq⟩ := D0_ok hq
    show leaveX g'.ds h' _
    rw [hd]
    show K (g'.v 4) h'
    rw [hg4]
    exact hq
  | ret =>
    have hq : D0 (fun y4 h => K (.pointer y4) h) g' h' := hq
    obtain ⟨y4, ⟨hg4, hd⟩, hq⟩ := D0_ok hq
    show leaveX g'.ds h' _
    rw [hd]
    show K (g'.v 4) h'
    rw [hg4]
    exact hq
  | _ => exact hq
end Sx.dom_Tree_at

/-! ### slices.Clone[[]tympan/api.Attr,tympan/api.Attr] -/
namespace Sx.slices_Clone_apiAttr
noncomputable def code : Code := bodyOf Try.f23
abbrev T0 := (Option Addr) → Nat → Nat → H → Prop
def E0 (g : Env) (x2b : Option Addr) (x2n : Nat) (x2c : Nat) : Prop := g.v 2 = (.slice x2b x2n x2c) ∧ g.ds = []
def D0 (K : T0) (g : Env) (h : H) : Prop := nilDs g.ds (vSlice (g.v 2) fun s1b s1n s1c => K s1b s1n s1c h)
theorem D0_ok {K : T0} {g : Env} {h : H} (hq : D0 K g h) : ∃ (x2b : Option Addr) (x2n : Nat) (x2c : Nat), E0 g x2b x2n x2c ∧ K x2b x2n x2c h := by
  obtain ⟨hd, hq⟩ := nilDs_ok hq
  obtain ⟨y3b, y3n, y3c, e2, q4⟩ := vSlice_ok hq
  exact ⟨y3b, y3n, y3c, ⟨e2, hd⟩, q4⟩
def Q0 (Kn : T0) (Kr : T0) : XPost
  | .normal, g, h => D0 Kn g h
  | .ret, g, h => D0 Kr g h
  | _, _, _ => False
abbrev T1 := (Option Addr) → Nat → Nat → H → Prop
def E1 (g : Env) (x0b : Option Addr) (x0n : Nat) (x0c : Nat) : Prop := g.v 0 = (.slice x0b x0n x0c) ∧ g.ds = []
def D1 (K : T1) (g : Env) (h : H) : Prop := nilDs g.ds (vSlice (g.v 0) fun s5b s5n s5c => K s5b s5n s5c h)
theorem D1_ok {K : T1} {g : Env} {h : H} (hq : D1 K g h) : ∃ (x0b : Option Addr) (x0n : Nat) (x0c : Nat), E1 g x0b x0n x0c ∧ K x0b x0n x0c h := by
  obtain ⟨hd, hq⟩ := nilDs_ok hq
  obtain ⟨y7b, y7n, y7c, e6, q8⟩ := vSlice_ok hq
  exact ⟨y7b, y7n, y7c, ⟨e6, hd⟩, q8⟩
abbrev n1 (x0b : Option Addr) (x0n : Nat) (x0c : Nat) (Kn : T0) (Kr : T0) (h : H) : Prop :=
  SemH Try.prog (binS .eql 27 (.tmp 3) (.const (.slice none 0 0)) (.slice x0b x0n x0c) (.slice none 0 0)) h fun v9 h10 => vBool v9 fun b11 => cond b11 (Kr none 0 0 h10) (newx h10 #[] 68 fun a12 h13 => SemH Try.prog (Builtin.append_ #[27, 27] 27 ⟨[(.slice (some a12) 0 0), (.slice x0b x0n x0c)]⟩) h13 fun v14 h15 => vSlice v14 fun s16b s16n s16c => Kr s16b s16n s16c h15)
theorem n1_ok (x0b : Option Addr) (x0n : Nat) (x0c : Nat) (Kn : T0) (Kr : T0) (g : Env) (hg : E1 g x0b x0n x0c) (h : H) (hS : n1 x0b x0n x0c Kn Kr h) : wpC none Try.prog 8 code (Q0 Kn Kr) g h := by
  obtain ⟨hg0, hds⟩ := hg
  refine wpC_of_wpx (by kernel_rfl) (by kernel_rfl) (g' := (⟨g.v, []⟩ : Env).upd (some 0) (.slice x0b x0n x0c)) (by rw [env_ds hds, upd_self hg0]) ?_
  have e : (n1 x0b x0n x0c Kn Kr h) = wpx none Try.prog 8 code (Q0 Kn Kr) ((⟨g.v, []⟩ : Env).upd (some 0) (.slice x0b x0n x0c)) h := by kernel_rfl
  exact e ▸ hS
/-- WHAT slices.Clone[[]tympan/api.Attr,tympan/api.Attr] ASKS -/
abbrev asks (x0b : Option Addr) (x0n : Nat) (x0c : Nat) (K : Value → H → Prop) (h : H) : Prop := n1 x0b x0n x0c (fun y2b y2n y2c h => K (.slice y2b y2n y2c) h) (fun y2b y2n y2c h => K (.slice y2b y2n y2c) h) h
theorem ok (x0b : Option Addr) (x0n : Nat) (x0c : Nat) (K : Value → H → Prop) (h : H) (hS : asks x0b x0n x0c K h) : HCalls Try.prog 23 ⟨[(.slice x0b x0n x0c)]⟩ h K := by
  refine calls_of_wpC (c := code) Try.func23 (by kernel_rfl) (Nat.le_of_ble_eq_true (by kernel_rfl)) ?_
  refine (n1_ok x0b x0n x0c (fun y2b y2n y2c h => K (.slice y2b y2n y2c) h) (fun y2b y2n y2c h => K (.slice y2b y2n y2c) h) (env0 [(.slice x0b x0n x0c)]) ⟨rfl, rfl⟩ h hS).mono ?_
  intro e g' h' hq
  cases e with
  | normal =>
    have hq : D0 (fun y2b y2n y2c h => K (.slice y2b y2n y2c) h) g' h' := hq
    obtain ⟨y2b, y2n, y2c, ⟨hg2, hd⟩, hq⟩ := D0_ok hq
    show leaveX g'.ds h' _
    rw [hd]
    show K (g'.v 2) h'
    rw [hg2]
    exact hq
  | ret =>
    have hq : D0 (fun y2b y2n y2c h => K (.slice y2b y2n y2c) h) g' h' := hq
    obtain ⟨y2b, y2n, y2c, ⟨hg2, hd⟩, hq⟩ := D0_ok hq
    show leaveX g'.ds h' _
    rw [hd]
    show K (g'.v 2) h'
    rw [hg2]
    exact hq
  | _ => exact hq
end Sx.slices_Clone_apiAttr

/-! ### (*tympan/dom.Tree).holder -/
namespace Sx.dom_Tree_holder
noncomputable def code : Code := bodyOf Try.f26
abbrev T0 := (Option Addr) → H → Prop
def E0 (g : Env) (x4 : Option Addr) : Prop := g.v 4 = (.pointer x4) ∧ g.ds = []
def D0 (K : T0) (g : Env) (h : H) : Prop := nilDs g.ds (vPtr (g.v 4) fun p1 => K p1 h)
theorem D0_ok {K : T0} {g : Env} {h : H} (hq : D0 K g h) : ∃ (x4 : Option Addr), E0 g x4 ∧ K x4 h := by
  obtain ⟨hd, hq⟩ := nilDs_ok hq
  obtain ⟨y3, e2, q4⟩ := vPtr_ok hq
  exact ⟨y3, ⟨e2, hd⟩, q4⟩
def Q0 (Kn : T0) (Kr : T0) : XPost
  | .normal, g, h => D0 Kn g h
  | .ret, g, h => D0 Kr g h
  | _, _, _ => False
abbrev T1 := (Option Addr) → Int → H → Prop
def E1 (g : Env) (x0 : Option Addr) (x1 : Int) : Prop := g.v 0 = (.pointer x0) ∧ g.v 1 = (.int .i64 x1) ∧ g.ds = []
def D1 (K : T1) (g : Env) (h : H) : Prop := nilDs g.ds (vPtr (g.v 0) fun p5 => vInt .i64 (g.v 1) fun i6 => K p5 i6 h)
theorem D1_ok {K : T1} {g : Env} {h : H} (hq : D1 K g h) : ∃ (x0 : Option Addr) (x1 : Int), E1 g x0 x1 ∧ K x0 x1 h := by
  obtain ⟨hd, hq⟩ := nilDs_ok hq
  obtain ⟨y8, e7, q9⟩ := vPtr_ok hq
  obtain ⟨y11, e10, q12⟩ := vInt_ok q9
  exact ⟨y8, y11, ⟨e7, e10, hd⟩, q12⟩
abbrev n1 (x0 : Option Addr) (x1 : Int) (Kn : T0) (Kr : T0) (h : H) : Prop :=
  HCalls Try.prog 22 ⟨[(.pointer x0), (.int .i64 x1)]⟩ h fun v13 h14 => vPtr v13 fun p15 => SemH Try.prog (binS .eql 58 (.tmp 9) (.const (.pointer none)) (.pointer p15) (.pointer none)) h14 fun v16 h17 => vBool v16 fun b18 => cond b18 (Kr none h17) (Spl (x1 > (0 : Int)) (vSome p15 fun a19 => ∃ i20, cell h17 ((a19.add 0).add 0) = some (.int .u8 i20) ∧ (Spl (i20 = (1 : Int)) (Kr p15 h17) (Kr none h17))) (Kr p15 h17))
theorem n1_ok (x0 : Option Addr) (x1 : Int) (Kn : T0) (Kr : T0) (g : Env) (hg : E1 g x0 x1) (h : H) (hS : n1 x0 x1 Kn Kr h) : wpC none Try.prog 24 code (Q0 Kn Kr) g h := by
  obtain ⟨hg0, hg1, hds⟩ := hg
  refine wpC_of_wpx (by kernel_rfl) (by kernel_rfl) (g' := ((⟨g.v, []⟩ : Env).upd (some 0) (.pointer x0)).upd (some 1) (.int .i64 x1)) (by rw [env_ds hds, upd_self hg0, upd_self hg1]) ?_
  have e : (n1 x0 x1 Kn Kr h) = wpx none Try.prog 24 code (Q0 Kn Kr) (((⟨g.v, []⟩ : Env).upd (some 0) (.pointer x0)).upd (some 1) (.int .i64 x1)) h := by kernel_rfl
  exact e ▸ hS
/-- WHAT (*tympan/dom.Tree).holder ASKS -/
abbrev asks (x0 : Option Addr) (x1 : Int) (K : Value → H → Prop) (h : H) : Prop := n1 x0 x1 (fun y4 h => K (.pointer y4) h) (fun y4 h => K (.pointer y4) h) h
theorem ok (x0 : Option Addr) (x1 : Int) (K : Value → H → Prop) (h : H) (hS : asks x0 x1 K h) : HCalls Try.prog 26 ⟨[(.pointer x0), (.int .i64 x1)]⟩ h K := by
  refine calls_of_wpC (c := code) Try.func26 (by kernel_rfl) (Nat.le_of_ble_eq_true (by kernel_rfl)) ?_
  refine (n1_ok x0 x1 (fun y4 h => K (.pointer y4) h) (fun y4 h => K (.pointer y4) h) (env0 [(.pointer x0), (.int .i64 x1)]) ⟨rfl, rfl, rfl⟩ h hS).mono ?_
  intro e g' h' hq
  cases e with
  | normal =>
    have hq : D0 (fun y4 h => K (.pointer y4) h) g' h' := hq
    obtain ⟨y4, ⟨hg4, hd⟩, hq⟩ := D0_ok hq
    show leaveX g'.ds h' _
    rw [hd]
    show K (g'.v 4) h'
    rw [hg4]
    exact hq
  | ret =>
    have hq : D0 (fun y4 h => K (.pointer y4) h) g' h' := hq
    obtain ⟨y4, ⟨hg4, hd⟩, hq⟩ := D0_ok hq
    show leaveX g'.ds h' _
    rw [hd]
    show K (g'.v 4) h'
    rw [hg4]
    exact hq
  | _ => exact hq
end Sx.dom_Tree_holder

/-! ### (*tympan/dom.node).index -/
namespace Sx.dom_node_index
noncomputable def code : Code := bodyOf Try.f27
abbrev T0 := Int → H → Prop
def E0 (g : Env) (x4 : Int) : Prop := g.v 4 = (.int .i64 x4) ∧ g.ds = []
def D0 (K : T0) (g : Env) (h : H) : Prop := nilDs g.ds (vInt .i64 (g.v 4) fun i1 => K i1 h)
theorem D0_ok {K : T0} {g : Env} {h : H} (hq : D0 K g h) : ∃ (x4 : Int), E0 g x4 ∧ K x4 h := by
  obtain ⟨hd, hq⟩ := nilDs_ok hq
  obtain ⟨y3, e2, q4⟩ := vInt_ok hq
  exact ⟨y3, ⟨e2, hd⟩, q4⟩
def Q0 (Kn : T0) (Kr : T0) : XPost
  | .normal, g, h => D0 Kn g h
  | .ret, g, h => D0 Kr g h
  | _, _, _ => False
abbrev T1 := (Option Addr) → Int → H → Prop
def E1 (g : Env) (x0 : Option Addr) (x1 : Int) : Prop := g.v 0 = (.pointer x0) ∧ g.v 1 = (.int .i64 x1) ∧ g.ds = []
def D1 (K : T1) (g : Env) (h : H) : Prop := nilDs g.ds (vPtr (g.v 0) fun p5 => vInt .i64 (g.v 1) fun i6 => K p5 i6 h)
theorem D1_ok {K : T1} {g : Env} {h : H} (hq : D1 K g h) : ∃ (x0 : Option Addr) (x1 : Int), E1 g x0 x1 ∧ K x0 x1 h := by
  obtain ⟨hd, hq⟩ := nilDs_ok hq
  obtain ⟨y8, e7, q9⟩ := vPtr_ok hq
  obtain ⟨y11, e10, q12⟩ := vInt_ok q9
  exact ⟨y8, y11, ⟨e7, e10, hd⟩, q12⟩
abbrev n1 (x0 : Option Addr) (x1 : Int) (Kn : T0) (Kr : T0) (h : H) : Prop :=
  Spl (x1 = (-1 : Int)) (vSome x0 fun a13 => ∃ s14b s14n s14c, cell h (a13.add 7) = some (.slice s14b s14n s14c) ∧ (Kr (s14n : Int) h)) (vSome x0 fun a15 => ∃ s16b s16n s16c, cell h (a15.add 7) = some (.slice s16b s16n s16c) ∧ (HCalls Try.prog 35 ⟨[(.slice s16b s16n s16c), (.int .i64 x1)]⟩ h fun v17 h18 => vInt .i64 v17 fun i19 => Kr i19 h18))
theorem n1_ok (x0 : Option Addr) (x1 : Int) (Kn : T0) (Kr : T0) (g : Env) (hg : E1 g x0 x1) (h : H) (hS : n1 x0 x1 Kn Kr h) : wpC none Try.prog 18 code (Q0 Kn Kr) g h := by
  obtain ⟨hg0, hg1, hds⟩ := hg
  refine wpC_of_wpx (by kernel_rfl) (by kernel_rfl) (g' := ((⟨g.v, []⟩ : Env).upd (some 0) (.pointer x0)).upd (some 1) (.int .i64 x1)) (by rw [env_ds hds, upd_self hg0, upd_self hg1]) ?_
  have e : (n1 x0 x1 Kn Kr h) = wpx none Try.prog 18 code (Q0 Kn Kr) (((⟨g.v, []⟩ : Env).upd (some 0) (.pointer x0)).upd (some 1) (.int .i64 x1)) h := by kernel_rfl
  exact e ▸ hS
/-- WHAT (*tympan/dom.node).index ASKS -/
abbrev asks (x0 : Option Addr) (x1 : Int) (K : Value → H → Prop) (h : H) : Prop := n1 x0 x1 (fun y4 h => K (.int .i64 y4) h) (fun y4 h => K (.int .i64 y4) h) h
theorem ok (x0 : Option Addr) (x1 : Int) (K : Value → H → Prop) (h : H) (hS : asks x0 x1 K h) : HCalls Try.prog 27 ⟨[(.pointer x0), (.int .i64 x1)]⟩ h K := by
  refine calls_of_wpC (c := code) Try.func27 (by kernel_rfl) (Nat.le_of_ble_eq_true (by kernel_rfl)) ?_
  refine (n1_ok x0 x1 (fun y4 h => K (.int .i64 y4) h) (fun y4 h => K (.int .i64 y4) h) (env0 [(.pointer x0), (.int .i64 x1)]) ⟨rfl, rfl, rfl⟩ h hS).mono ?_
  intro e g' h' hq
  cases e with
  | normal =>
    have hq : D0 (fun y4 h => K (.int .i64 y4) h) g' h' := hq
    obtain ⟨y4, ⟨hg4, hd⟩, hq⟩ := D0_ok hq
    show leaveX g'.ds h' _
    rw [hd]
    show K (g'.v 4) h'
    rw [hg4]
    exact hq
  | ret =>
    have hq : D0 (fun y4 h => K (.int .i64 y4) h) g' h' := hq
    obtain ⟨y4, ⟨hg4, hd⟩, hq⟩ := D0_ok hq
    show leaveX g'.ds h' _
    rw [hd]
    show K (g'.v 4) h'
    rw [hg4]
    exact hq
  | _ => exact hq
end Sx.dom_node_index

/-! ### (*tympan/dom.Tree).within -/
namespace Sx.dom_Tree_within
noncomputable def code : Code := bodyOf Try.f28
abbrev T0 := Addr → (List Deferred) → H → Prop
def E0 (g : Env) (x6 : Addr) (ds : List Deferred) : Prop := g.v 6 = (.pointer (some x6)) ∧ g.ds = ds
def D0 (K : T0) (g : Env) (h : H) : Prop := vAddr (g.v 6) fun a1 => K a1 g.ds h
theorem D0_ok {K : T0} {g : Env} {h : H} (hq : D0 K g h) : ∃ (x6 : Addr) (ds : List Deferred), E0 g x6 ds ∧ K x6 ds h := by
  obtain ⟨y3, e2, q4⟩ := vAddr_ok hq
  exact ⟨y3, g.ds, ⟨e2, rfl⟩, q4⟩
theorem D0_mk {K : T0} {g : Env} {h : H} {x6 : Addr} {ds : List Deferred} (hg : E0 g x6 ds) (hk : K x6 ds h) : D0 K g h := by
  obtain ⟨hg6, hds⟩ := hg
  unfold D0
  rw [hg6, hds]
  exact hk
def Q0 (Kn : T0) (Kr : T0) : XPost
  | .normal, g, h => D0 Kn g h
  | .ret, g, h => D0 Kr g h
  | _, _, _ => False
abbrev T1 := (Option Addr) → Int → Int → (List Deferred) → H → Prop
def E1 (g : Env) (x0 : Option Addr) (x1 : Int) (x2 : Int) (ds : List Deferred) : Prop := g.v 0 = (.pointer x0) ∧ g.v 1 = (.int .i64 x1) ∧ g.v 2 = (.int .i64 x2) ∧ g.ds = ds
def D1 (K : T1) (g : Env) (h : H) : Prop := vPtr (g.v 0) fun p5 => vInt .i64 (g.v 1) fun i6 => vInt .i64 (g.v 2) fun i7 => K p5 i6 i7 g.ds h
theorem D1_ok {K : T1} {g : Env} {h : H} (hq : D1 K g h) : ∃ (x0 : Option Addr) (x1 : Int) (x2 : Int) (ds : List Deferred), E1 g x0 x1 x2 ds ∧ K x0 x1 x2 ds h := by
  obtain ⟨y9, e8, q10⟩ := vPtr_ok hq
  obtain ⟨y12, e11, q13⟩ := vInt_ok q10
  obtain ⟨y15, e14, q16⟩ := vInt_ok q13
  exact ⟨y9, y12, y15, g.ds, ⟨e8, e11, e14, rfl⟩, q16⟩
theorem D1_mk {K : T1} {g : Env} {h : H} {x0 : Option Addr} {x1 : Int} {x2 : Int} {ds : List Deferred} (hg : E1 g x0 x1 x2 ds) (hk : K x0 x1 x2 ds h) : D1 K g h := by
  obtain ⟨hg0, hg1, hg2, hds⟩ := hg
  unfold D1
  rw [hg0, hg1, hg2, hds]
  exact hk
noncomputable def n1_c1 : Code := cFst code
noncomputable def n1_c2 : Code := cSnd code
abbrev T2 := (Option Addr) → Int → Addr → Addr → (List Deferred) → H → Prop
def E2 (g : Env) (x0 : Option Addr) (x1 : Int) (x5 : Addr) (x6 : Addr) (ds : List Deferred) : Prop := g.v 0 = (.pointer x0) ∧ g.v 1 = (.int .i64 x1) ∧ g.v 5 = (.pointer (some x5)) ∧ g.v 6 = (.pointer (some x6)) ∧ g.ds = ds
def D2 (K : T2) (g : Env) (h : H) : Prop := vPtr (g.v 0) fun p17 => vInt .i64 (g.v 1) fun i18 => vAddr (g.v 5) fun a19 => vAddr (g.v 6) fun a20 => K p17 i18 a19 a20 g.ds h
theorem D2_ok {K : T2} {g : Env} {h : H} (hq : D2 K g h) : ∃ (x0 : Option Addr) (x1 : Int) (x5 : Addr) (x6 : Addr) (ds : List Deferred), E2 g x0 x1 x5 x6 ds ∧ K x0 x1 x5 x6 ds h := by
  obtain ⟨y22, e21, q23⟩ := vPtr_ok hq
  obtain ⟨y25, e24, q26⟩ := vInt_ok q23
  obtain ⟨y28, e27, q29⟩ := vAddr_ok q26
  obtain ⟨y31, e30, q32⟩ := vAddr_ok q29
  exact ⟨y22, y25, y28, y31, g.ds, ⟨e21, e24, e27, e30, rfl⟩, q32⟩
theorem D2_mk {K : T2} {g : Env} {h : H} {x0 : Option Addr} {x1 : Int} {x5 : Addr} {x6 : Addr} {ds : List Deferred} (hg : E2 g x0 x1 x5 x6 ds) (hk : K x0 x1 x5 x6 ds h) : D2 K g h := by
  obtain ⟨hg0, hg1, hg5, hg6, hds⟩ := hg
  unfold D2
  rw [hg0, hg1, hg5, hg6, hds]
  exact hk
noncomputable def n2_c1 : Code := cFst n1_c2
noncomputable def n2_c2 : Code := cSnd n1_c2
abbrev n3 (x6 : Addr) (ds : List Deferred) (Kn : T0) (Kr : T0) (h : H) : Prop :=
  stL x6 [(.bool false)] 0 h fun h33 => Kr x6 ds h33
theorem n3_ok (x6 : Addr) (ds : List Deferred) (Kn : T0) (Kr : T0) (g : Env) (hg : E0 g x6 ds) (h : H) (hS : n3 x6 ds Kn Kr h) : wpC none Try.prog 15 n2_c2 (Q0 Kn Kr) g h := by
  obtain ⟨hg6, hds⟩ := hg
  refine wpC_of_wpx (by kernel_rfl) (by kernel_rfl) (g' := (⟨g.v, ds⟩ : Env).upd (some 6) (.pointer (some x6))) (by rw [env_ds hds, upd_self hg6]) ?_
  have e : (n3 x6 ds Kn Kr h) = wpx none Try.prog 15 n2_c2 (Q0 Kn Kr) ((⟨g.v, ds⟩ : Env).upd (some 6) (.pointer (some x6))) h := by kernel_rfl
  exact e ▸ hS
noncomputable def n4_c1 : Code := cFst n2_c1
noncomputable def n4_c2 : Code := cSnd n2_c1
abbrev T3 := Addr → Addr → Value → (List Deferred) → H → Prop
def E3 (g : Env) (x5 : Addr) (x6 : Addr) (x10 : Value) (ds : List Deferred) : Prop := g.v 5 = (.pointer (some x5)) ∧ g.v 6 = (.pointer (some x6)) ∧ g.v 10 = x10 ∧ g.ds = ds
def D3 (K : T3) (g : Env) (h : H) : Prop := vAddr (g.v 5) fun a34 => vAddr (g.v 6) fun a35 => K a34 a35 (g.v 10) g.ds h
theorem D3_ok {K : T3} {g : Env} {h : H} (hq : D3 K g h) : ∃ (x5 : Addr) (x6 : Addr) (x10 : Value) (ds : List Deferred), E3 g x5 x6 x10 ds ∧ K x5 x6 x10 ds h := by
  obtain ⟨y37, e36, q38⟩ := vAddr_ok hq
  obtain ⟨y40, e39, q41⟩ := vAddr_ok q38
  exact ⟨y37, y40, (g.v 10), g.ds, ⟨e36, e39, rfl, rfl⟩, q41⟩
theorem D3_mk {K : T3} {g : Env} {h : H} {x5 : Addr} {x6 : Addr} {x10 : Value} {ds : List Deferred} (hg : E3 g x5 x6 x10 ds) (hk : K x5 x6 x10 ds h) : D3 K g h := by
  obtain ⟨hg5, hg6, hg10, hds⟩ := hg
  unfold D3
  rw [hg5, hg6, hg10, hds]
  exact hk
noncomputable def n5_c1 : Code := cFst n4_c2
def Q1 (Kn : T0) (Ke0 : T0) (Kr : T0) : XPost
  | .normal, g, h => D0 Kn g h
  | .ret, g, h => D0 Kr g h
  | .exit id, g, h => cond (Nat.beq id 0) (D0 Ke0 g h) (False)
  | _, _, _ => False
noncomputable def n6_c1 : Code := cFst n5_c1
noncomputable def n6_c2 : Code := cSnd n5_c1
def n6_rd (x5 : Addr) (x6 : Addr) (x10 : Value) (ds : List Deferred) (Kn : T0) (Ke0 : T0) (Kr : T0) (h : H) (p11 : Int) (Mid : H → (H → Prop) → Prop) (Kc : H → H → Prop) (Fin : H → H → (H → Prop) → Prop) (h1 : H) : Prop :=
  Mid h1 fun hb42 => ∃ i43, cell hb42 x5 = some (.int .i64 i43) ∧ (Spl (p11 = i43) (stL x6 [(.bool true)] 0 hb42 fun h44 => Fin hb42 h44 fun h45 => Kr x6 (markD h.size :: ds) h45) (Kc hb42 hb42))
abbrev n6 (x5 : Addr) (x6 : Addr) (x10 : Value) (ds : List Deferred) (Kn : T0) (Ke0 : T0) (Kr : T0) (h : H) : Prop := Ranges Try.prog x10 1 h (fun l46 Mid Kc Fin h1 => uncons l46 fun e47 l48 => vInt .i64 e47 fun i49 => unnil l48 (n6_rd x5 x6 x10 ds Kn Ke0 Kr h i49 Mid Kc Fin h1)) (fun h4 => Kn x6 (markD h.size :: ds) h4)
theorem n6_ok (x5 : Addr) (x6 : Addr) (x10 : Value) (ds : List Deferred) (Kn : T0) (Ke0 : T0) (Kr : T0) (g : Env) (hg : E3 g x5 x6 x10 ds) (h : H) (hS : n6 x5 x6 x10 ds Kn Ke0 Kr h) : wpC none Try.prog 15 n5_c1 (Q1 Kn Ke0 Kr) g h := by
  obtain ⟨hg5, hg6, hg10, hds⟩ := hg
  subst hds
  have ho : ((((⟨g.v, g.ds⟩ : Env).upd (some 5) (.pointer (some x5))).upd (some 6) (.pointer (some x6))).upd (some 10) x10 : Env) = g := by rw [env_ds rfl, upd_self hg5, upd_self hg6, upd_self hg10]
  have hc : n5_c1 = .rangeFunc (.tmp 10) #[11] n6_c1 n6_c2 := by kernel_rfl
  rw [hc]
  refine wpC_range (f := x10) (rd := (fun l46 Mid Kc Fin h1 => uncons l46 fun e47 l48 => vInt .i64 e47 fun i49 => unnil l48 (n6_rd x5 x6 x10 g.ds Kn Ke0 Kr h i49 Mid Kc Fin h1))) (done := (fun h4 => Kn x6 (markD h.size :: g.ds) h4)) ?_ hS ?_ ?_
  · rw [← ho]; kernel_rfl
  · intro h4 hd
    have e : (Kn x6 (markD h.size :: g.ds) h4) = (Q1 Kn Ke0 Kr) .normal ⟨((((⟨g.v, g.ds⟩ : Env).upd (some 5) (.pointer (some x5))).upd (some 6) (.pointer (some x6))).upd (some 10) x10).v, markD h.size :: g.ds⟩ h4 := by kernel_rfl
    rw [ho] at e
    exact e ▸ hd
  · intro L x Mid Kc Fin h1 hM hx
    obtain ⟨u50, l51, rfl, q52⟩ := uncons_ok hx
    obtain ⟨y53, rfl, q54⟩ := vInt_ok q52
    obtain ⟨rfl, q55⟩ := unnil_ok q54
    have e : (n6_rd x5 x6 x10 g.ds Kn Ke0 Kr h y53 Mid Kc Fin h1) = wpx (some L) Try.prog 15 n6_c1 (thenX (fun g1 he => Mid he fun hb => wpx (some L) Try.prog 15 n6_c2 (rpost Kc Fin (Q1 Kn Ke0 Kr) ⟨((((⟨g.v, g.ds⟩ : Env).upd (some 5) (.pointer (some x5))).upd (some 6) (.pointer (some x6))).upd (some 10) x10).v, markD h.size :: g.ds⟩ hb) g1 hb) fun _ _ _ => False) (setps ((((⟨g.v, g.ds⟩ : Env).upd (some 5) (.pointer (some x5))).upd (some 6) (.pointer (some x6))).upd (some 10) x10) [11] [(.int .i64 y53)]) h1 := by kernel_rfl
    rw [ho] at e
    exact (wpx_ok (by kernel_rfl) _ _ _ _ (by kernel_rfl) (e ▸ q55)).mono (thenX_mono fun g1 he hm => hM he _ _ (fun hb => wpx_ok (by kernel_rfl) _ _ _ _ (by kernel_rfl)) hm)
abbrev n5 (x5 : Addr) (x6 : Addr) (x10 : Value) (ds : List Deferred) (Kn : T0) (Kr : T0) (h : H) : Prop := n6 x5 x6 x10 ds Kn Kn Kr h
theorem n5_ok (x5 : Addr) (x6 : Addr) (x10 : Value) (ds : List Deferred) (Kn : T0) (Kr : T0) (g : Env) (hg : E3 g x5 x6 x10 ds) (h : H) (hS : n5 x5 x6 x10 ds Kn Kr h) : wpC none Try.prog 15 n4_c2 (Q0 Kn Kr) g h := by
  refine wpC_block' (id := 0) (x := n5_c1) (by kernel_rfl) (n6_ok x5 x6 x10 ds Kn Kn Kr g hg h hS) ?_
  intro e g' h' hq
  cases e <;> exact hq
def Q2 (Kn : T3) (Kr : T0) : XPost
  | .normal, g, h => D3 Kn g h
  | .ret, g, h => D0 Kr g h
  | _, _, _ => False
abbrev n4 (x0 : Option Addr) (x1 : Int) (x5 : Addr) (x6 : Addr) (ds : List Deferred) (Kn : T0) (Kr : T0) (h : H) : Prop :=
  HCalls Try.prog 36 ⟨[(.pointer x0), (.int .i64 x1)]⟩ h fun v56 h57 => n5 x5 x6 v56 ds Kn Kr h57
theorem n4_ok (x0 : Option Addr) (x1 : Int) (x5 : Addr) (x6 : Addr) (ds : List Deferred) (Kn : T0) (Kr : T0) (g : Env) (hg : E2 g x0 x1 x5 x6 ds) (h : H) (hS : n4 x0 x1 x5 x6 ds Kn Kr h) : wpC none Try.prog 15 n2_c1 (Q0 Kn Kr) g h := by
  obtain ⟨hg0, hg1, hg5, hg6, hds⟩ := hg
  refine wpC_seq' (x := n4_c1) (y := n4_c2) (Q' := (Q2 (fun z5 z6 z10 zds h => n5 z5 z6 z10 zds Kn Kr h) Kr)) (by kernel_rfl) ?_ ?_
  · refine wpC_of_wpx (by kernel_rfl) (by kernel_rfl) (g' := ((((⟨g.v, ds⟩ : Env).upd (some 0) (.pointer x0)).upd (some 1) (.int .i64 x1)).upd (some 5) (.pointer (some x5))).upd (some 6) (.pointer (some x6))) (by rw [env_ds hds, upd_self hg0, upd_self hg1, upd_self hg5, upd_self hg6]) ?_
    have e : (n4 x0 x1 x5 x6 ds Kn Kr h) = wpx none Try.prog 15 n4_c1 (Q2 (fun z5 z6 z10 zds h => n5 z5 z6 z10 zds Kn Kr h) Kr) (((((⟨g.v, ds⟩ : Env).upd (some 0) (.pointer x0)).upd (some 1) (.int .i64 x1)).upd (some 5) (.pointer (some x5))).upd (some 6) (.pointer (some x6))) h := by kernel_rfl
    exact e ▸ hS
  · intro e g' h' hq
    cases e with
    | normal =>
      have hq : D3 (fun z5 z6 z10 zds h => n5 z5 z6 z10 zds Kn Kr h) g' h' := hq
      obtain ⟨y5, y6, y10, yds, hg', hq⟩ := D3_ok hq
      exact n5_ok y5 y6 y10 yds Kn Kr g' hg' h' hq
    | _ => exact hq
abbrev n2 (x0 : Option Addr) (x1 : Int) (x5 : Addr) (x6 : Addr) (ds : List Deferred) (Kn : T0) (Kr : T0) (h : H) : Prop := n4 x0 x1 x5 x6 ds (fun z6 zds h => n3 z6 zds Kn Kr h) Kr h
theorem n2_ok (x0 : Option Addr) (x1 : Int) (x5 : Addr) (x6 : Addr) (ds : List Deferred) (Kn : T0) (Kr : T0) (g : Env) (hg : E2 g x0 x1 x5 x6 ds) (h : H) (hS : n2 x0 x1 x5 x6 ds Kn Kr h) : wpC none Try.prog 15 n1_c2 (Q0 Kn Kr) g h := by
  refine wpC_seq' (x := n2_c1) (y := n2_c2) (by kernel_rfl) (n4_ok x0 x1 x5 x6 ds (fun z6 zds h => n3 z6 zds Kn Kr h) Kr g hg h hS) ?_
  intro e g' h' hq
  cases e with
  | normal =>
    have hq : D0 (fun z6 zds h => n3 z6 zds Kn Kr h) g' h' := hq
    obtain ⟨y6, yds, hg', hq⟩ := D0_ok hq
    exact n3_ok y6 yds Kn Kr g' hg' h' hq
  | _ => exact hq
def Q3 (Kn : T2) (Kr : T0) : XPost
  | .normal, g, h => D2 Kn g h
  | .ret, g, h => D0 Kr g h
  | _, _, _ => False
abbrev n1 (x0 : Option Addr) (x1 : Int) (x2 : Int) (ds : List Deferred) (Kn : T0) (Kr : T0) (h : H) : Prop :=
  newx h #[(.int .i64 x2)] 3 fun a58 h59 => newx h59 #[(.bool false)] 4 fun a60 h61 => n2 x0 x1 a58 a60 ds Kn Kr h61
theorem n1_ok (x0 : Option Addr) (x1 : Int) (x2 : Int) (ds : List Deferred) (Kn : T0) (Kr : T0) (g : Env) (hg : E1 g x0 x1 x2 ds) (h : H) (hS : n1 x0 x1 x2 ds Kn Kr h) : wpC none Try.prog 15 code (Q0 Kn Kr) g h := by
  obtain ⟨hg0, hg1, hg2, hds⟩ := hg
  refine wpC_seq' (x := n1_c1) (y := n1_c2) (Q' := (Q3 (fun z0 z1 z5 z6 zds h => n2 z0 z1 z5 z6 zds Kn Kr h) Kr)) (by kernel_rfl) ?_ ?_
  · refine wpC_of_wpx (by kernel_rfl) (by kernel_rfl) (g' := (((⟨g.v, ds⟩ : Env).upd (some 0) (.pointer x0)).upd (some 1) (.int .i64 x1)).upd (some 2) (.int .i64 x2)) (by rw [env_ds hds, upd_self hg0, upd_self hg1, upd_self hg2]) ?_
    have e : (n1 x0 x1 x2 ds Kn Kr h) = wpx none Try.prog 15 n1_c1 (Q3 (fun z0 z1 z5 z6 zds h => n2 z0 z1 z5 z6 zds Kn Kr h) Kr) ((((⟨g.v, ds⟩ : Env).upd (some 0) (.pointer x0)).upd (some 1) (.int .i64 x1)).upd (some 2) (.int .i64 x2)) h := by kernel_rfl
    exact e ▸ hS
  · intro e g' h' hq
    cases e with
    | normal =>
      have hq : D2 (fun z0 z1 z5 z6 zds h => n2 z0 z1 z5 z6 zds Kn Kr h) g' h' := hq
      obtain ⟨y0, y1, y5, y6, yds, hg', hq⟩ := D2_ok hq
      exact n2_ok y0 y1 y5 y6 yds Kn Kr g' hg' h' hq
    | _ => exact hq
/-- WHAT (*tympan/dom.Tree).within ASKS -/
abbrev asks (x0 : Option Addr) (x1 : Int) (x2 : Int) (K : Value → H → Prop) (h : H) : Prop := n1 x0 x1 x2 [] (fun y6 ds h => leaveX ds h fun h => ∃ b62, cell h y6 = some (.bool b62) ∧ (K (.bool b62) h)) (fun y6 ds h => leaveX ds h fun h => ∃ b62, cell h y6 = some (.bool b62) ∧ (K (.bool b62) h)) h
theorem ok (x0 : Option Addr) (x1 : Int) (x2 : Int) (K : Value → H → Prop) (h : H) (hS : asks x0 x1 x2 K h) : HCalls Try.prog 28 ⟨[(.pointer x0), (.int .i64 x1), (.int .i64 x2)]⟩ h K := by
  refine calls_of_wpC (c := code) Try.func28 (by kernel_rfl) (Nat.le_of_ble_eq_true (by kernel_rfl)) ?_
  refine (n1_ok x0 x1 x2 [] (fun y6 ds h => leaveX ds h fun h => ∃ b62, cell h y6 = some (.bool b62) ∧ (K (.bool b62) h)) (fun y6 ds h => leaveX ds h fun h => ∃ b62, cell h y6 = some (.bool b62) ∧ (K (.bool b62) h)) (env0 [(.pointer x0), (.int .i64 x1), (.int .i64 x2)]) ⟨rfl, rfl, rfl, rfl⟩ h hS).mono ?_
  intro e g' h' hq
  cases e with
  | normal =>
    have hq : D0 (fun y6 ds h => leaveX ds h fun h => ∃ b62, cell h y6 = some (.bool b62) ∧ (K (.bool b62) h)) g' h' := hq
    obtain ⟨y6, ds, ⟨hg6, hd⟩, hq⟩ := D0_ok hq
    show leaveX g'.ds h' _
    rw [hd]
    show leaveX ds h' fun h => vAddr (g'.v 6) fun a63 => ldx Try.prog 4 a63 h fun v64 => K v64 h
    rw [hg6]
    exact hq
  | ret =>
    have hq : D0 (fun y6 ds h => leaveX ds h fun h => ∃ b62, cell h y6 = some (.bool b62) ∧ (K (.bool b62) h)) g' h' := hq
    obtain ⟨y6, ds, ⟨hg6, hd⟩, hq⟩ := D0_ok hq
    show leaveX g'.ds h' _
    rw [hd]
    show leaveX ds h' fun h => vAddr (g'.v 6) fun a63 => ldx Try.prog 4 a63 h fun v64 => K v64 h
    rw [hg6]
    exact hq
  | _ => exact hq
end Sx.dom_Tree_within

/-! ### (*tympan/dom.Tree).Cut -/
namespace Sx.dom_Tree_Cut
noncomputable def code : Code := bodyOf Try.f29
abbrev T0 := Bool → H → Prop
def E0 (g : Env) (x4 : Bool) : Prop := g.v 4 = (.bool x4) ∧ g.ds = []
def D0 (K : T0) (g : Env) (h : H) : Prop := nilDs g.ds (vBool (g.v 4) fun b1 => K b1 h)
theorem D0_ok {K : T0} {g : Env} {h : H} (hq : D0 K g h) : ∃ (x4 : Bool), E0 g x4 ∧ K x4 h := by
  obtain ⟨hd, hq⟩ := nilDs_ok hq
  obtain ⟨y3, e2, q4⟩ := vBool_ok hq
  exact ⟨y3, ⟨e2, hd⟩, q4⟩
def Q0 (Kn : T0) (Kr : T0) : XPost
  | .normal, g, h => D0 Kn g h
  | .ret, g, h => D0 Kr g h
  | _, _, _ => False
abbrev T1 := (Option Addr) → Int → H → Prop
def E1 (g : Env) (x0 : Option Addr) (x1 : Int) : Prop := g.v 0 = (.pointer x0) ∧ g.v 1 = (.int .i64 x1) ∧ g.ds = []
def D1 (K : T1) (g : Env) (h : H) : Prop := nilDs g.ds (vPtr (g.v 0) fun p5 => vInt .i64 (g.v 1) fun i6 => K p5 i6 h)
theorem D1_ok {K : T1} {g : Env} {h : H} (hq : D1 K g h) : ∃ (x0 : Option Addr) (x1 : Int), E1 g x0 x1 ∧ K x0 x1 h := by
  obtain ⟨hd, hq⟩ := nilDs_ok hq
  obtain ⟨y8, e7, q9⟩ := vPtr_ok hq
  obtain ⟨y11, e10, q12⟩ := vInt_ok q9
  exact ⟨y8, y11, ⟨e7, e10, hd⟩, q12⟩
abbrev n1 (x0 : Option Addr) (x1 : Int) (Kn : T0) (Kr : T0) (h : H) : Prop :=
  HCalls Try.prog 22 ⟨[(.pointer x0), (.int .i64 x1)]⟩ h fun v13 h14 => vPtr v13 fun p15 => SemH Try.prog (binS .eql 58 (.tmp 11) (.const (.pointer none)) (.pointer p15) (.pointer none)) h14 fun v16 h17 => vBool v16 fun b18 => cond b18 (Kr false h17) (vSome p15 fun a19 => ∃ i20, cell h17 (a19.add 6) = some (.int .i64 i20) ∧ (Spl (i20 < (0 : Int)) (Kr false h17) (vSome x0 fun a21 => ∃ s22b s22n s22c, cell h17 (a21.add 0) = some (.slice s22b s22n s22c) ∧ (vSome p15 fun a23 => ∃ i24, cell h17 (a23.add 6) = some (.int .i64 i24) ∧ ((0 ≤ i24 ∧ i24 < (s22n : Int)) ∧ (vSome s22b fun a25 => ∃ p26, cell h17 (a25.add (Int.toNat i24 * 1)) = some (.pointer p26) ∧ (HCalls Try.prog 27 ⟨[(.pointer p26), (.int .i64 x1)]⟩ h17 fun v27 h28 => vInt .i64 v27 fun i29 => vSome p26 fun a30 => ∃ s31b s31n s31c, cell h28 (a30.add 7) = some (.slice s31b s31n s31c) ∧ (Rng .i64 (i29 + (1 : Int)) ∧ (HCalls Try.prog 37 ⟨[(.slice s31b s31n s31c), (.int .i64 i29), (.int .i64 (i29 + (1 : Int)))]⟩ h28 fun v32 h33 => vSlice v32 fun s34b s34n s34c => vSome p26 fun a35 => stL (a35.add 7) [(.slice s34b s34n s34c)] 0 h33 fun h36 => vSome p15 fun a37 => stL (a37.add 6) [(.int .i64 (-1 : Int))] 0 h36 fun h38 => Kr true h38)))))))))
theorem n1_ok (x0 : Option Addr) (x1 : Int) (Kn : T0) (Kr : T0) (g : Env) (hg : E1 g x0 x1) (h : H) (hS : n1 x0 x1 Kn Kr h) : wpC none Try.prog 47 code (Q0 Kn Kr) g h := by
  obtain ⟨hg0, hg1, hds⟩ := hg
  refine wpC_of_wpx (by kernel_rfl) (by kernel_rfl) (g' := ((⟨g.v, []⟩ : Env).upd (some 0) (.pointer x0)).upd (some 1) (.int .i64 x1)) (by rw [env_ds hds, upd_self hg0, upd_self hg1]) ?_
  have e : (n1 x0 x1 Kn Kr h) = wpx none Try.prog 47 code (Q0 Kn Kr) (((⟨g.v, []⟩ : Env).upd (some 0) (.pointer x0)).upd (some 1) (.int .i64 x1)) h := by kernel_rfl
  exact e ▸ hS
/-- WHAT (*tympan/dom.Tree).Cut ASKS -/
abbrev asks (x0 : Option Addr) (x1 : Int) (K : Value → H → Prop) (h : H) : Prop := n1 x0 x1 (fun y4 h => K (.bool y4) h) (fun y4 h => K (.bool y4) h) h
theorem ok (x0 : Option Addr) (x1 : Int) (K : Value → H → Prop) (h : H) (hS : asks x0 x1 K h) : HCalls Try.prog 29 ⟨[(.pointer x0), (.int .i64 x1)]⟩ h K := by
  refine calls_of_wpC (c := code) Try.func29 (by kernel_rfl) (Nat.le_of_ble_eq_true (by kernel_rfl)) ?_
  refine (n1_ok x0 x1 (fun y4 h => K (.bool y4) h) (fun y4 h => K (.bool y4) h) (env0 [(.pointer x0), (.int .i64 x1)]) ⟨rfl, rfl, rfl⟩ h hS).mono ?_
  intro e g' h' hq
  cases e with
  | normal =>
    have hq : D0 (fun y4 h => K (.bool y4) h) g' h' := hq
    obtain ⟨y4, ⟨hg4, hd⟩, hq⟩ := D0_ok hq
    show leaveX g'.ds h' _
    rw [hd]
    show K (g'.v 4) h'
    rw [hg4]
    exact hq
  | ret =>
    have hq : D0 (fun y4 h => K (.bool y4) h) g' h' := hq
    obtain ⟨y4, ⟨hg4, hd⟩, hq⟩ := D0_ok hq
    show leaveX g'.ds h' _
    rw [hd]
    show K (g'.v 4) h'
    rw [hg4]
    exact hq
  | _ => exact hq
end Sx.dom_Tree_Cut

/-! ### slices.Index[[]int,int] -/
namespace Sx.slices_Index_int
noncomputable def code : Code := bodyOf Try.f35
abbrev T0 := Int → H → Prop
def E0 (g : Env) (x4 : Int) : Prop := g.v 4 = (.int .i64 x4) ∧ g.ds = []
def D0 (K : T0) (g : Env) (h : H) : Prop := nilDs g.ds (vInt .i64 (g.v 4) fun i1 => K i1 h)
theorem D0_ok {K : T0} {g : Env} {h : H} (hq : D0 K g h) : ∃ (x4 : Int), E0 g x4 ∧ K x4 h := by
  obtain ⟨hd, hq⟩ := nilDs_ok hq
  obtain ⟨y3, e2, q4⟩ := vInt_ok hq
  exact ⟨y3, ⟨e2, hd⟩, q4⟩
def Q0 (Kn : T0) (Kr : T0) : XPost
  | .normal, g, h => D0 Kn g h
  | .ret, g, h => D0 Kr g h
  | _, _, _ => False
abbrev T1 := (Option Addr) → Nat → Nat → Int → H → Prop
def E1 (g : Env) (x0b : Option Addr) (x0n : Nat) (x0c : Nat) (x1 : Int) : Prop := g.v 0 = (.slice x0b x0n x0c) ∧ g.v 1 = (.int .i64 x1) ∧ g.ds = []
def D1 (K : T1) (g : Env) (h : H) : Prop := nilDs g.ds (vSlice (g.v 0) fun s5b s5n s5c => vInt .i64 (g.v 1) fun i6 => K s5b s5n s5c i6 h)
theorem D1_ok {K : T1} {g : Env} {h : H} (hq : D1 K g h) : ∃ (x0b : Option Addr) (x0n : Nat) (x0c : Nat) (x1 : Int), E1 g x0b x0n x0c x1 ∧ K x0b x0n x0c x1 h := by
  obtain ⟨hd, hq⟩ := nilDs_ok hq
  obtain ⟨y8b, y8n, y8c, e7, q9⟩ := vSlice_ok hq
  obtain ⟨y11, e10, q12⟩ := vInt_ok q9
  exact ⟨y8b, y8n, y8c, y11, ⟨e7, e10, hd⟩, q12⟩
noncomputable def n1_c1 : Code := cFst code
noncomputable def n1_c2 : Code := cSnd code
noncomputable def n2_c1 : Code := cFst n1_c2
noncomputable def n2_c2 : Code := cSnd n1_c2
abbrev T2 := H → Prop
def E2 (g : Env)  : Prop := g.ds = []
def D2 (K : T2) (g : Env) (h : H) : Prop := nilDs g.ds (K h)
theorem D2_ok {K : T2} {g : Env} {h : H} (hq : D2 K g h) : E2 g  ∧ K  h := by
  obtain ⟨hd, hq⟩ := nilDs_ok hq
  skip
  exact ⟨hd, hq⟩
abbrev n3  (Kn : T0) (Kr : T0) (h : H) : Prop :=
  Kr (-1 : Int) h
theorem n3_ok  (Kn : T0) (Kr : T0) (g : Env) (hg : E2 g ) (h : H) (hS : n3  Kn Kr h) : wpC none Try.prog 19 n2_c2 (Q0 Kn Kr) g h := by
  have hds : g.ds = [] := hg
  refine wpC_of_wpx (by kernel_rfl) (by kernel_rfl) (g' := ⟨g.v, []⟩) (by rw [env_ds hds]) ?_
  have e : (n3  Kn Kr h) = wpx none Try.prog 19 n2_c2 (Q0 Kn Kr) (⟨g.v, []⟩) h := by kernel_rfl
  exact e ▸ hS
def Q1 (Kn : T2) (Kr : T0) : XPost
  | .normal, g, h => D2 Kn g h
  | .ret, g, h => D0 Kr g h
  | _, _, _ => False
noncomputable def n4_c1 : Code := cFst n2_c1
noncomputable def n4_c2 : Code := cSnd n2_c1
abbrev T3 := (Option Addr) → Nat → Nat → Int → Int → Int → H → Prop
def E3 (g : Env) (x0b : Option Addr) (x0n : Nat) (x0c : Nat) (x1 : Int) (x7 : Int) (x8 : Int) : Prop := g.v 0 = (.slice x0b x0n x0c) ∧ g.v 1 = (.int .i64 x1) ∧ g.v 7 = (.int .i64 x7) ∧ g.v 8 = (.int .i64 x8) ∧ g.ds = []
def D3 (K : T3) (g : Env) (h : H) : Prop := nilDs g.ds (vSlice (g.v 0) fun s13b s13n s13c => vInt .i64 (g.v 1) fun i14 => vInt .i64 (g.v 7) fun i15 => vInt .i64 (g.v 8) fun i16 => K s13b s13n s13c i14 i15 i16 h)
theorem D3_ok {K : T3} {g : Env} {h : H} (hq : D3 K g h) : ∃ (x0b : Option Addr) (x0n : Nat) (x0c : Nat) (x1 : Int) (x7 : Int) (x8 : Int), E3 g x0b x0n x0c x1 x7 x8 ∧ K x0b x0n x0c x1 x7 x8 h := by
  obtain ⟨hd, hq⟩ := nilDs_ok hq
  obtain ⟨y18b, y18n, y18c, e17, q19⟩ := vSlice_ok hq
  obtain ⟨y21, e20, q22⟩ := vInt_ok q19
  obtain ⟨y24, e23, q25⟩ := vInt_ok q22
  obtain ⟨y27, e26, q28⟩ := vInt_ok q25
  exact ⟨y18b, y18n, y18c, y21, y24, y27, ⟨e17, e20, e23, e26, hd⟩, q28⟩
noncomputable def n5_c1 : Code := cFst n4_c2
def Q2 (Kn : T2) (Ke0 : T2) (Kr : T0) : XPost
  | .normal, g, h => D2 Kn g h
  | .ret, g, h => D0 Kr g h
  | .exit id, g, h => cond (Nat.beq id 0) (D2 Ke0 g h) (False)
  | _, _, _ => False
noncomputable def n6_c1 : Code := cFst n5_c1
def Q3 (Kn : T3) (Ke0 : T2) (Kr : T0) : XPost
  | .normal, g, h => D3 Kn g h
  | .ret, g, h => D0 Kr g h
  | .exit id, g, h => cond (Nat.beq id 0) (D2 Ke0 g h) (False)
  | _, _, _ => False
def n6_L (Kn : T2) (Ke0 : T2) (Kr : T0) : Nat → (Option Addr) → Nat → Nat → Int → Int → Int → H → Prop
  | 0 => fun _ _ _ _ _ _ _ => False
  | N + 1 => fun x0b x0n x0c x1 x7 x8 h => Spl (x8 < x7) ((0 ≤ x8 ∧ x8 < (x0n : Int)) ∧ (vSome x0b fun a29 => ∃ i30, cell h (a29.add (Int.toNat x8 * 1)) = some (.int .i64 i30) ∧ (Spl (x1 = i30) (Kr x8 h) (Rng .i64 (x8 + (1 : Int)) ∧ (n6_L Kn Ke0 Kr N x0b x0n x0c x1 x7 (x8 + (1 : Int)) h))))) (Ke0 h)
abbrev n6 (x0b : Option Addr) (x0n : Nat) (x0c : Nat) (x1 : Int) (x7 : Int) (x8 : Int) (Kn : T2) (Ke0 : T2) (Kr : T0) (h : H) : Prop := ∃ N, n6_L Kn Ke0 Kr N x0b x0n x0c x1 x7 x8 h
theorem n6_ok (x0b : Option Addr) (x0n : Nat) (x0c : Nat) (x1 : Int) (x7 : Int) (x8 : Int) (Kn : T2) (Ke0 : T2) (Kr : T0) (g : Env) (hg : E3 g x0b x0n x0c x1 x7 x8) (h : H) (hS : n6 x0b x0n x0c x1 x7 x8 Kn Ke0 Kr h) : wpC none Try.prog 19 n5_c1 (Q2 Kn Ke0 Kr) g h := by
  obtain ⟨N0, hS⟩ := hS
  refine wpC_loop' (x := n6_c1) (by kernel_rfl) (fun k g h => ∃ (x0b : Option Addr) (x0n : Nat) (x0c : Nat) (x1 : Int) (x7 : Int) (x8 : Int), E3 g x0b x0n x0c x1 x7 x8 ∧ n6_L Kn Ke0 Kr k x0b x0n x0c x1 x7 x8 h) (fun g h hr => ?_) (fun N g h hr => ?_) N0 ⟨x0b, x0n, x0c, x1, x7, x8, hg, hS⟩
  · obtain ⟨x0b, x0n, x0c, x1, x7, x8, hg, hS⟩ := hr
    exact hS.elim
  · obtain ⟨x0b, x0n, x0c, x1, x7, x8, hg, hS⟩ := hr
    have hw : wpC none Try.prog 19 n6_c1 (Q3 (fun z0b z0n z0c z1 z7 z8 h => n6_L Kn Ke0 Kr N z0b z0n z0c z1 z7 z8 h) Ke0 Kr) g h := by
      obtain ⟨hg0, hg1, hg7, hg8, hds⟩ := hg
      refine wpC_of_wpx (by kernel_rfl) (by kernel_rfl) (g' := ((((⟨g.v, []⟩ : Env).upd (some 0) (.slice x0b x0n x0c)).upd (some 1) (.int .i64 x1)).upd (some 7) (.int .i64 x7)).upd (some 8) (.int .i64 x8)) (by rw [env_ds hds, upd_self hg0, upd_self hg1, upd_self hg7, upd_self hg8]) ?_
      have e : (n6_L Kn Ke0 Kr (N + 1) x0b x0n x0c x1 x7 x8 h) = wpx none Try.prog 19 n6_c1 (Q3 (fun z0b z0n z0c z1 z7 z8 h => n6_L Kn Ke0 Kr N z0b z0n z0c z1 z7 z8 h) Ke0 Kr) (((((⟨g.v, []⟩ : Env).upd (some 0) (.slice x0b x0n x0c)).upd (some 1) (.int .i64 x1)).upd (some 7) (.int .i64 x7)).upd (some 8) (.int .i64 x8)) h := by kernel_rfl
      exact e ▸ hS
    refine hw.mono ?_
    intro e g' h' hq
    cases e with
    | normal => exact D3_ok (K := (fun z0b z0n z0c z1 z7 z8 h => n6_L Kn Ke0 Kr N z0b z0n z0c z1 z7 z8 h)) hq
    | _ => exact hq
abbrev n5 (x0b : Option Addr) (x0n : Nat) (x0c : Nat) (x1 : Int) (x7 : Int) (x8 : Int) (Kn : T2) (Kr : T0) (h : H) : Prop := n6 x0b x0n x0c x1 x7 x8 Kn Kn Kr h
theorem n5_ok (x0b : Option Addr) (x0n : Nat) (x0c : Nat) (x1 : Int) (x7 : Int) (x8 : Int) (Kn : T2) (Kr : T0) (g : Env) (hg : E3 g x0b x0n x0c x1 x7 x8) (h : H) (hS : n5 x0b x0n x0c x1 x7 x8 Kn Kr h) : wpC none Try.prog 19 n4_c2 (Q1 Kn Kr) g h := by
  refine wpC_block' (id := 0) (x := n5_c1) (by kernel_rfl) (n6_ok x0b x0n x0c x1 x7 x8 Kn Kn Kr g hg h hS) ?_
  intro e g' h' hq
  cases e <;> exact hq
def Q4 (Kn : T3) (Kr : T0) : XPost
  | .normal, g, h => D3 Kn g h
  | .ret, g, h => D0 Kr g h
  | _, _, _ => False
abbrev n4 (x0b : Option Addr) (x0n : Nat) (x0c : Nat) (x1 : Int) (Kn : T2) (Kr : T0) (h : H) : Prop :=
  n5 x0b x0n x0c x1 (x0n : Int) (0 : Int) Kn Kr h
theorem n4_ok (x0b : Option Addr) (x0n : Nat) (x0c : Nat) (x1 : Int) (Kn : T2) (Kr : T0) (g : Env) (hg : E1 g x0b x0n x0c x1) (h : H) (hS : n4 x0b x0n x0c x1 Kn Kr h) : wpC none Try.prog 19 n2_c1 (Q1 Kn Kr) g h := by
  obtain ⟨hg0, hg1, hds⟩ := hg
  refine wpC_seq' (x := n4_c1) (y := n4_c2) (Q' := (Q4 (fun z0b z0n z0c z1 z7 z8 h => n5 z0b z0n z0c z1 z7 z8 Kn Kr h) Kr)) (by kernel_rfl) ?_ ?_
  · refine wpC_of_wpx (by kernel_rfl) (by kernel_rfl) (g' := ((⟨g.v, []⟩ : Env).upd (some 0) (.slice x0b x0n x0c)).upd (some 1) (.int .i64 x1)) (by rw [env_ds hds, upd_self hg0, upd_self hg1]) ?_
    have e : (n4 x0b x0n x0c x1 Kn Kr h) = wpx none Try.prog 19 n4_c1 (Q4 (fun z0b z0n z0c z1 z7 z8 h => n5 z0b z0n z0c z1 z7 z8 Kn Kr h) Kr) (((⟨g.v, []⟩ : Env).upd (some 0) (.slice x0b x0n x0c)).upd (some 1) (.int .i64 x1)) h := by kernel_rfl
    exact e ▸ hS
  · intro e g' h' hq
    cases e with
    | normal =>
      have hq : D3 (fun z0b z0n z0c z1 z7 z8 h => n5 z0b z0n z0c z1 z7 z8 Kn Kr h) g' h' := hq
      obtain ⟨y0b, y0n, y0c, y1, y7, y8, hg', hq⟩ := D3_ok hq
      exact n5_ok y0b y0n y0c y1 y7 y8 Kn Kr g' hg' h' hq
    | _ => exact hq
abbrev n2 (x0b : Option Addr) (x0n : Nat) (x0c : Nat) (x1 : Int) (Kn : T0) (Kr : T0) (h : H) : Prop := n4 x0b x0n x0c x1 (fun  h => n3 Kn Kr h) Kr h
theorem n2_ok (x0b : Option Addr) (x0n : Nat) (x0c : Nat) (x1 : Int) (Kn : T0) (Kr : T0) (g : Env) (hg : E1 g x0b x0n x0c x1) (h : H) (hS : n2 x0b x0n x0c x1 Kn Kr h) : wpC none Try.prog 19 n1_c2 (Q0 Kn Kr) g h := by
  refine wpC_seq' (x := n2_c1) (y := n2_c2) (by kernel_rfl) (n4_ok x0b x0n x0c x1 (fun  h => n3 Kn Kr h) Kr g hg h hS) ?_
  intro e g' h' hq
  cases e with
  | normal =>
    have hq : D2 (fun  h => n3 Kn Kr h) g' h' := hq
    obtain ⟨hg', hq⟩ := D2_ok hq
    exact n3_ok  Kn Kr g' hg' h' hq
  | _ => exact hq
def Q5 (Kn : T1) (Kr : T0) : XPost
  | .normal, g, h => D1 Kn g h
  | .ret, g, h => D0 Kr g h
  | _, _, _ => False
abbrev n1 (x0b : Option Addr) (x0n : Nat) (x0c : Nat) (x1 : Int) (Kn : T0) (Kr : T0) (h : H) : Prop :=
  n2 x0b x0n x0c x1 Kn Kr h
theorem n1_ok (x0b : Option Addr) (x0n : Nat) (x0c : Nat) (x1 : Int) (Kn : T0) (Kr : T0) (g : Env) (hg : E1 g x0b x0n x0c x1) (h : H) (hS : n1 x0b x0n x0c x1 Kn Kr h) : wpC none Try.prog 19 code (Q0 Kn Kr) g h := by
  obtain ⟨hg0, hg1, hds⟩ := hg
  refine wpC_seq' (x := n1_c1) (y := n1_c2) (Q' := (Q5 (fun z0b z0n z0c z1 h => n2 z0b z0n z0c z1 Kn Kr h) Kr)) (by kernel_rfl) ?_ ?_
  · refine wpC_of_wpx (by kernel_rfl) (by kernel_rfl) (g' := ((⟨g.v, []⟩ : Env).upd (some 0) (.slice x0b x0n x0c)).upd (some 1) (.int .i64 x1)) (by rw [env_ds hds, upd_self hg0, upd_self hg1]) ?_
    have e : (n1 x0b x0n x0c x1 Kn Kr h) = wpx none Try.prog 19 n1_c1 (Q5 (fun z0b z0n z0c z1 h => n2 z0b z0n z0c z1 Kn Kr h) Kr) (((⟨g.v, []⟩ : Env).upd (some 0) (.slice x0b x0n x0c)).upd (some 1) (.int .i64 x1)) h := by kernel_rfl
    exact e ▸ hS
  · intro e g' h' hq
    cases e with
    | normal =>
      have hq : D1 (fun z0b z0n z0c z1 h => n2 z0b z0n z0c z1 Kn Kr h) g' h' := hq
      obtain ⟨y0b, y0n, y0c, y1, hg', hq⟩ := D1_ok hq
      exact n2_ok y0b y0n y0c y1 Kn Kr g' hg' h' hq
    | _ => exact hq
/-- WHAT slices.Index[[]int,int] ASKS -/
abbrev asks (x0b : Option Addr) (x0n : Nat) (x0c : Nat) (x1 : Int) (K : Value → H → Prop) (h : H) : Prop := n1 x0b x0n x0c x1 (fun y4 h => K (.int .i64 y4) h) (fun y4 h => K (.int .i64 y4) h) h
theorem ok (x0b : Option Addr) (x0n : Nat) (x0c : Nat) (x1 : Int) (K : Value → H → Prop) (h : H) (hS : asks x0b x0n x0c x1 K h) : HCalls Try.prog 35 ⟨[(.slice x0b x0n x0c), (.int .i64 x1)]⟩ h K := by
  refine calls_of_wpC (c := code) Try.func35 (by kernel_rfl) (Nat.le_of_ble_eq_true (by kernel_rfl)) ?_
  refine (n1_ok x0b x0n x0c x1 (fun y4 h => K (.int .i64 y4) h) (fun y4 h => K (.int .i64 y4) h) (env0 [(.slice x0b x0n x0c), (.int .i64 x1)]) ⟨rfl, rfl, rfl⟩ h hS).mono ?_
  intro e g' h' hq
  cases e with
  | normal =>
    have hq : D0 (fun y4 h => K (.int .i64 y4) h) g' h' := hq
    obtain ⟨y4, ⟨hg4, hd⟩, hq⟩ := D0_ok hq
    show leaveX g'.ds h' _
    rw [hd]
    show K (g'.v 4) h'
    rw [hg4]
    exact hq
  | ret =>
    have hq : D0 (fun y4 h => K (.int .i64 y4) h) g' h' := hq
    obtain ⟨y4, ⟨hg4, hd⟩, hq⟩ := D0_ok hq
    show leaveX g'.ds h' _
    rw [hd]
    show K (g'.v 4) h'
    rw [hg4]
    exact hq
  | _ => exact hq
end Sx.slices_Index_int

/-! ### (*tympan/dom.Tree).above -/
namespace Sx.dom_Tree_above
noncomputable def code : Code := bodyOf Try.f36
abbrev T0 := Value → H → Prop
def E0 (g : Env) (x4 : Value) : Prop := g.v 4 = x4 ∧ g.ds = []
def D0 (K : T0) (g : Env) (h : H) : Prop := nilDs g.ds (K (g.v 4) h)
theorem D0_ok {K : T0} {g : Env} {h : H} (hq : D0 K g h) : ∃ (x4 : Value), E0 g x4 ∧ K x4 h := by
  obtain ⟨hd, hq⟩ := nilDs_ok hq
  skip
  exact ⟨(g.v 4), ⟨rfl, hd⟩, hq⟩
def Q0 (Kn : T0) (Kr : T0) : XPost
  | .normal, g, h => D0 Kn g h
  | .ret, g, h => D0 Kr g h
  | _, _, _ => False
abbrev T1 := (Option Addr) → Int → H → Prop
def E1 (g : Env) (x0 : Option Addr) (x1 : Int) : Prop := g.v 0 = (.pointer x0) ∧ g.v 1 = (.int .i64 x1) ∧ g.ds = []
def D1 (K : T1) (g : Env) (h : H) : Prop := nilDs g.ds (vPtr (g.v 0) fun p1 => vInt .i64 (g.v 1) fun i2 => K p1 i2 h)
theorem D1_ok {K : T1} {g : Env} {h : H} (hq : D1 K g h) : ∃ (x0 : Option Addr) (x1 : Int), E1 g x0 x1 ∧ K x0 x1 h := by
  obtain ⟨hd, hq⟩ := nilDs_ok hq
  obtain ⟨y4, e3, q5⟩ := vPtr_ok hq
  obtain ⟨y7, e6, q8⟩ := vInt_ok q5
  exact ⟨y4, y7, ⟨e3, e6, hd⟩, q8⟩
abbrev n1 (x0 : Option Addr) (x1 : Int) (Kn : T0) (Kr : T0) (h : H) : Prop :=
  newx h #[(.pointer x0)] 35 fun a9 h10 => newx h10 #[(.int .i64 x1)] 3 fun a11 h12 => Kr (.func (.func 44) ⟨[]⟩ ⟨[(.pointer (some a11)), (.pointer (some a9))]⟩) h12
theorem n1_ok (x0 : Option Addr) (x1 : Int) (Kn : T0) (Kr : T0) (g : Env) (hg : E1 g x0 x1) (h : H) (hS : n1 x0 x1 Kn Kr h) : wpC none Try.prog 6 code (Q0 Kn Kr) g h := by
  obtain ⟨hg0, hg1, hds⟩ := hg
  refine wpC_of_wpx (by kernel_rfl) (by kernel_rfl) (g' := ((⟨g.v, []⟩ : Env).upd (some 0) (.pointer x0)).upd (some 1) (.int .i64 x1)) (by rw [env_ds hds, upd_self hg0, upd_self hg1]) ?_
  have e : (n1 x0 x1 Kn Kr h) = wpx none Try.prog 6 code (Q0 Kn Kr) (((⟨g.v, []⟩ : Env).upd (some 0) (.pointer x0)).upd (some 1) (.int .i64 x1)) h := by kernel_rfl
  exact e ▸ hS
/-- WHAT (*tympan/dom.Tree).above ASKS -/
abbrev asks (x0 : Option Addr) (x1 : Int) (K : Value → H → Prop) (h : H) : Prop := n1 x0 x1 (fun y4 h => K y4 h) (fun y4 h => K y4 h) h
theorem ok (x0 : Option Addr) (x1 : Int) (K : Value → H → Prop) (h : H) (hS : asks x0 x1 K h) : HCalls Try.prog 36 ⟨[(.pointer x0), (.int .i64 x1)]⟩ h K := by
  refine calls_of_wpC (c := code) Try.func36 (by kernel_rfl) (Nat.le_of_ble_eq_true (by kernel_rfl)) ?_
  refine (n1_ok x0 x1 (fun y4 h => K y4 h) (fun y4 h => K y4 h) (env0 [(.pointer x0), (.int .i64 x1)]) ⟨rfl, rfl, rfl⟩ h hS).mono ?_
  intro e g' h' hq
  cases e with
  | normal =>
    have hq : D0 (fun y4 h => K y4 h) g' h' := hq
    obtain ⟨y4, ⟨hg4, hd⟩, hq⟩ := D0_ok hq
    show leaveX g'.ds h' _
    rw [hd]
    show K (g'.v 4) h'
    rw [hg4]
    exact hq
  | ret =>
    have hq : D0 (fun y4 h => K y4 h) g' h' := hq
    obtain ⟨y4, ⟨hg4, hd⟩, hq⟩ := D0_ok hq
    show leaveX g'.ds h' _
    rw [hd]
    show K (g'.v 4) h'
    rw [hg4]
    exact hq
  | _ => exact hq
end Sx.dom_Tree_above

/-! ### (*tympan/dom.Tree).above$1 -/
namespace Sx.dom_Tree_above_1
noncomputable def code : Code := bodyOf Try.f44
abbrev T0 := H → Prop
def E0 (g : Env)  : Prop := g.ds = []
def D0 (K : T0) (g : Env) (h : H) : Prop := nilDs g.ds (K h)
theorem D0_ok {K : T0} {g : Env} {h : H} (hq : D0 K g h) : E0 g  ∧ K  h := by
  obtain ⟨hd, hq⟩ := nilDs_ok hq
  skip
  exact ⟨hd, hq⟩
def Q0 (Kn : T0) (Kr : T0) : XPost
  | .normal, g, h => D0 Kn g h
  | .ret, g, h => D0 Kr g h
  | _, _, _ => False
abbrev T1 := Value → Addr → Addr → H → Prop
def E1 (g : Env) (x0 : Value) (x1 : Addr) (x2 : Addr) : Prop := g.v 0 = x0 ∧ g.v 1 = (.pointer (some x1)) ∧ g.v 2 = (.pointer (some x2)) ∧ g.ds = []
def D1 (K : T1) (g : Env) (h : H) : Prop := nilDs g.ds (vAddr (g.v 1) fun a1 => vAddr (g.v 2) fun a2 => K (g.v 0) a1 a2 h)
theorem D1_ok {K : T1} {g : Env} {h : H} (hq : D1 K g h) : ∃ (x0 : Value) (x1 : Addr) (x2 : Addr), E1 g x0 x1 x2 ∧ K x0 x1 x2 h := by
  obtain ⟨hd, hq⟩ := nilDs_ok hq
  obtain ⟨y4, e3, q5⟩ := vAddr_ok hq
  obtain ⟨y7, e6, q8⟩ := vAddr_ok q5
  exact ⟨(g.v 0), y4, y7, ⟨rfl, e3, e6, hd⟩, q8⟩
noncomputable def n1_c1 : Code := cFst code
def Q1 (Kn : T0) (Ke0 : T0) (Kr : T0) : XPost
  | .normal, g, h => D0 Kn g h
  | .ret, g, h => D0 Kr g h
  | .exit id, g, h => cond (Nat.beq id 0) (D0 Ke0 g h) (False)
  | _, _, _ => False
noncomputable def n2_c1 : Code := cFst n1_c1
def Q2 (Kn : T1) (Ke0 : T0) (Kr : T0) : XPost
  | .normal, g, h => D1 Kn g h
  | .ret, g, h => D0 Kr g h
  | .exit id, g, h => cond (Nat.beq id 0) (D0 Ke0 g h) (False)
  | _, _, _ => False
def n2_L (Kn : T0) (Ke0 : T0) (Kr : T0) : Nat → Value → Addr → Addr → H → Prop
  | 0 => fun _ _ _ _ => False
  | N + 1 => fun x0 x1 x2 h => ∃ i9, cell h x1 = some (.int .i64 i9) ∧ (Spl (i9 ≥ (0 : Int)) (∃ i10, cell h x1 = some (.int .i64 i10) ∧ (CallV Try.prog 4 x0 ⟨[(.int .i64 i10)]⟩ h fun v11 h12 => vBool v11 fun b13 => cond b13 (∃ p14, cell h12 x2 = some (.pointer p14) ∧ (vSome p14 fun a15 => ∃ s16b s16n s16c, cell h12 (a15.add 0) = some (.slice s16b s16n s16c) ∧ (∃ i17, cell h12 x1 = some (.int .i64 i17) ∧ ((0 ≤ i17 ∧ i17 < (s16n : Int)) ∧ (vSome s16b fun a18 => ∃ p19, cell h12 (a18.add (Int.toNat i17 * 1)) = some (.pointer p19) ∧ (vSome p19 fun a20 => ∃ i21, cell h12 (a20.add 6) = some (.int .i64 i21) ∧ (stL x1 [(.int .i64 i21)] 0 h12 fun h22 => n2_L Kn Ke0 Kr N x0 x1 x2 h22))))))) (Ke0 h12))) (Ke0 h))
abbrev n2 (x0 : Value) (x1 : Addr) (x2 : Addr) (Kn : T0) (Ke0 : T0) (Kr : T0) (h : H) : Prop := ∃ N, n2_L Kn Ke0 Kr N x0 x1 x2 h
theorem n2_ok (x0 : Value) (x1 : Addr) (x2 : Addr) (Kn : T0) (Ke0 : T0) (Kr : T0) (g : Env) (hg : E1 g x0 x1 x2) (h : H) (hS : n2 x0 x1 x2 Kn Ke0 Kr h) : wpC none Try.prog 21 n1_c1 (Q1 Kn Ke0 Kr) g h := by
  obtain ⟨N0, hS⟩ := hS
  refine wpC_loop' (x := n2_c1) (by kernel_rfl) (fun k g h => ∃ (x0 : Value) (x1 : Addr) (x2 : Addr), E1 g x0 x1 x2 ∧ n2_L Kn Ke0 Kr k x0 x1 x2 h) (fun g h hr => ?_) (fun N g h hr => ?_) N0 ⟨x0, x1, x2, hg, hS⟩
  · obtain ⟨x0, x1, x2, hg, hS⟩ := hr
    exact hS.elim
  · obtain ⟨x0, x1, x2, hg, hS⟩ := hr
    have hw : wpC none Try.prog 21 n2_c1 (Q2 (fun z0 z1 z2 h => n2_L Kn Ke0 Kr N z0 z1 z2 h) Ke0 Kr) g h := by
      obtain ⟨hg0, hg1, hg2, hds⟩ := hg
      refine wpC_of_wpx (by kernel_rfl) (by kernel_rfl) (g' := (((⟨g.v, []⟩ : Env).upd (some 0) x0).upd (some 1) (.pointer (some x1))).upd (some 2) (.pointer (some x2))) (by rw [env_ds hds, upd_self hg0, upd_self hg1, upd_self hg2]) ?_
      have e : (n2_L Kn Ke0 Kr (N + 1) x0 x1 x2 h) = wpx none Try.prog 21 n2_c1 (Q2 (fun z0 z1 z2 h => n2_L Kn Ke0 Kr N z0 z1 z2 h) Ke0 Kr) ((((⟨g.v, []⟩ : Env).upd (some 0) x0).upd (some 1) (.pointer (some x1))).upd (some 2) (.pointer (some x2))) h := by kernel_rfl
      exact e ▸ hS
    refine hw.mono ?_
    intro e g' h' hq
    cases e with
    | normal => exact D1_ok (K := (fun z0 z1 z2 h => n2_L Kn Ke0 Kr N z0 z1 z2 h)) hq
    | _ => exact hq
abbrev n1 (x0 : Value) (x1 : Addr) (x2 : Addr) (Kn : T0) (Kr : T0) (h : H) : Prop := n2 x0 x1 x2 Kn Kn Kr h
theorem n1_ok (x0 : Value) (x1 : Addr) (x2 : Addr) (Kn : T0) (Kr : T0) (g : Env) (hg : E1 g x0 x1 x2) (h : H) (hS : n1 x0 x1 x2 Kn Kr h) : wpC none Try.prog 21 code (Q0 Kn Kr) g h := by
  refine wpC_block' (id := 0) (x := n1_c1) (by kernel_rfl) (n2_ok x0 x1 x2 Kn Kn Kr g hg h hS) ?_
  intro e g' h' hq
  cases e <;> exact hq
/-- WHAT (*tympan/dom.Tree).above$1 ASKS -/
abbrev asks (x0 : Value) (x1 : Addr) (x2 : Addr) (K : Value → H → Prop) (h : H) : Prop := n1 x0 x1 x2 (fun h => K (.tuple ⟨[]⟩) h) (fun h => K (.tuple ⟨[]⟩) h) h
theorem ok (x0 : Value) (x1 : Addr) (x2 : Addr) (K : Value → H → Prop) (h : H) (hS : asks x0 x1 x2 K h) : HCalls Try.prog 44 ⟨[x0, (.pointer (some x1)), (.pointer (some x2))]⟩ h K := by
  refine calls_of_wpC (c := code) Try.func44 (by kernel_rfl) (Nat.le_of_ble_eq_true (by kernel_rfl)) ?_
  refine (n1_ok x0 x1 x2 (fun h => K (.tuple ⟨[]⟩) h) (fun h => K (.tuple ⟨[]⟩) h) (env0 [x0, (.pointer (some x1)), (.pointer (some x2))]) ⟨rfl, rfl, rfl, rfl⟩ h hS).mono ?_
  intro e g' h' hq
  cases e with
  | normal =>
    have hq : D0 (fun h => K (.tuple ⟨[]⟩) h) g' h' := hq
    obtain ⟨hd, hq⟩ := D0_ok hq
    show leaveX g'.ds h' _
    rw [hd]
    show K (.tuple ⟨[]⟩) h'
    exact hq
  | ret =>
    have hq : D0 (fun h => K (.tuple ⟨[]⟩) h) g' h' := hq
    obtain ⟨hd, hq⟩ := D0_ok hq
    show leaveX g'.ds h' _
    rw [hd]
    show K (.tuple ⟨[]⟩) h'
    exact hq
  | _ => exact hq
end Sx.dom_Tree_above_1

/-! ### (*tympan/dom.Tree).Whole -/
namespace Sx.dom_Tree_Whole
noncomputable def code : Code := bodyOf Try.f12
abbrev T0 := (Option Addr) → Nat → Nat → H → Prop
def E0 (g : Env) (x4b : Option Addr) (x4n : Nat) (x4c : Nat) : Prop := g.v 4 = (.slice x4b x4n x4c) ∧ g.ds = []
def D0 (K : T0) (g : Env) (h : H) : Prop := nilDs g.ds (vSlice (g.v 4) fun s1b s1n s1c => K s1b s1n s1c h)
theorem D0_ok {K : T0} {g : Env} {h : H} (hq : D0 K g h) : ∃ (x4b : Option Addr) (x4n : Nat) (x4c : Nat), E0 g x4b x4n x4c ∧ K x4b x4n x4c h := by
  obtain ⟨hd, hq⟩ := nilDs_ok hq
  obtain ⟨y3b, y3n, y3c, e2, q4⟩ := vSlice_ok hq
  exact ⟨y3b, y3n, y3c, ⟨e2, hd⟩, q4⟩
def Q0 (Kn : T0) (Kr : T0) : XPost
  | .normal, g, h => D0 Kn g h
  | .ret, g, h => D0 Kr g h
  | _, _, _ => False
abbrev T1 := (Option Addr) → Int → H → Prop
def E1 (g : Env) (x0 : Option Addr) (x1 : Int) : Prop := g.v 0 = (.pointer x0) ∧ g.v 1 = (.int .i64 x1) ∧ g.ds = []
def D1 (K : T1) (g : Env) (h : H) : Prop := nilDs g.ds (vPtr (g.v 0) fun p5 => vInt .i64 (g.v 1) fun i6 => K p5 i6 h)
theorem D1_ok {K : T1} {g : Env} {h : H} (hq : D1 K g h) : ∃ (x0 : Option Addr) (x1 : Int), E1 g x0 x1 ∧ K x0 x1 h := by
  obtain ⟨hd, hq⟩ := nilDs_ok hq
  obtain ⟨y8, e7, q9⟩ := vPtr_ok hq
  obtain ⟨y11, e10, q12⟩ := vInt_ok q9
  exact ⟨y8, y11, ⟨e7, e10, hd⟩, q12⟩
noncomputable def n1_c1 : Code := cFst code
noncomputable def n1_c2 : Code := cSnd code
noncomputable def n2_c1 : Code := cFst n1_c2
noncomputable def n2_c2 : Code := cSnd n1_c2
abbrev T2 := (Option Addr) → (Option Addr) → H → Prop
def E2 (g : Env) (x0 : Option Addr) (x5 : Option Addr) : Prop := g.v 0 = (.pointer x0) ∧ g.v 5 = (.pointer x5) ∧ g.ds = []
def D2 (K : T2) (g : Env) (h : H) : Prop := nilDs g.ds (vPtr (g.v 0) fun p13 => vPtr (g.v 5) fun p14 => K p13 p14 h)
theorem D2_ok {K : T2} {g : Env} {h : H} (hq : D2 K g h) : ∃ (x0 : Option Addr) (x5 : Option Addr), E2 g x0 x5 ∧ K x0 x5 h := by
  obtain ⟨hd, hq⟩ := nilDs_ok hq
  obtain ⟨y16, e15, q17⟩ := vPtr_ok hq
  obtain ⟨y19, e18, q20⟩ := vPtr_ok q17
  exact ⟨y16, y19, ⟨e15, e18, hd⟩, q20⟩
noncomputable def n3_c1 : Code := cFst n2_c2
noncomputable def n3_c2 : Code := cSnd n2_c2
noncomputable def n4_c1 : Code := cFst n3_c2
noncomputable def n4_c2 : Code := cSnd n3_c2
abbrev T3 := (Option Addr) → (Option Addr) → (Option Addr) → Nat → Nat → H → Prop
def E3 (g : Env) (x0 : Option Addr) (x5 : Option Addr) (x6b : Option Addr) (x6n : Nat) (x6c : Nat) : Prop := g.v 0 = (.pointer x0) ∧ g.v 5 = (.pointer x5) ∧ g.v 6 = (.slice x6b x6n x6c) ∧ g.ds = []
def D3 (K : T3) (g : Env) (h : H) : Prop := nilDs g.ds (vPtr (g.v 0) fun p21 => vPtr (g.v 5) fun p22 => vSlice (g.v 6) fun s23b s23n s23c => K p21 p22 s23b s23n s23c h)
theorem D3_ok {K : T3} {g : Env} {h : H} (hq : D3 K g h) : ∃ (x0 : Option Addr) (x5 : Option Addr) (x6b : Option Addr) (x6n : Nat) (x6c : Nat), E3 g x0 x5 x6b x6n x6c ∧ K x0 x5 x6b x6n x6c h := by
  obtain ⟨hd, hq⟩ := nilDs_ok hq
  obtain ⟨y25, e24, q26⟩ := vPtr_ok hq
  obtain ⟨y28, e27, q29⟩ := vPtr_ok q26
  obtain ⟨y31b, y31n, y31c, e30, q32⟩ := vSlice_ok q29
  exact ⟨y25, y28, y31b, y31n, y31c, ⟨e24, e27, e30, hd⟩, q32⟩
noncomputable def n5_c1 : Code := cFst n4_c2
noncomputable def n5_c2 : Code := cSnd n4_c2
abbrev T4 := (Option Addr) → Nat → Nat → H → Prop
def E4 (g : Env) (x6b : Option Addr) (x6n : Nat) (x6c : Nat) : Prop := g.v 6 = (.slice x6b x6n x6c) ∧ g.ds = []
def D4 (K : T4) (g : Env) (h : H) : Prop := nilDs g.ds (vSlice (g.v 6) fun s33b s33n s33c => K s33b s33n s33c h)
theorem D4_ok {K : T4} {g : Env} {h : H} (hq : D4 K g h) : ∃ (x6b : Option Addr) (x6n : Nat) (x6c : Nat), E4 g x6b x6n x6c ∧ K x6b x6n x6c h := by
  obtain ⟨hd, hq⟩ := nilDs_ok hq
  obtain ⟨y35b, y35n, y35c, e34, q36⟩ := vSlice_ok hq
  exact ⟨y35b, y35n, y35c, ⟨e34, hd⟩, q36⟩
abbrev n6 (x6b : Option Addr) (x6n : Nat) (x6c : Nat) (Kn : T0) (Kr : T0) (h : H) : Prop :=
  Kr x6b x6n x6c h
theorem n6_ok (x6b : Option Addr) (x6n : Nat) (x6c : Nat) (Kn : T0) (Kr : T0) (g : Env) (hg : E4 g x6b x6n x6c) (h : H) (hS : n6 x6b x6n x6c Kn Kr h) : wpC none Try.prog 48 n5_c2 (Q0 Kn Kr) g h := by
  obtain ⟨hg6, hds⟩ := hg
  refine wpC_of_wpx (by kernel_rfl) (by kernel_rfl) (g' := (⟨g.v, []⟩ : Env).upd (some 6) (.slice x6b x6n x6c)) (by rw [env_ds hds, upd_self hg6]) ?_
  have e : (n6 x6b x6n x6c Kn Kr h) = wpx none Try.prog 48 n5_c2 (Q0 Kn Kr) ((⟨g.v, []⟩ : Env).upd (some 6) (.slice x6b x6n x6c)) h := by kernel_rfl
  exact e ▸ hS
def Q1 (Kn : T4) (Kr : T0) : XPost
  | .normal, g, h => D4 Kn g h
  | .ret, g, h => D0 Kr g h
  | _, _, _ => False
noncomputable def n7_c1 : Code := cFst n5_c1
noncomputable def n7_c2 : Code := cSnd n5_c1
abbrev T5 := (Option Addr) → (Option Addr) → Nat → Nat → (Option Addr) → Nat → Nat → Int → Int → H → Prop
def E5 (g : Env) (x0 : Option Addr) (x6b : Option Addr) (x6n : Nat) (x6c : Nat) (x18b : Option Addr) (x18n : Nat) (x18c : Nat) (x19 : Int) (x20 : Int) : Prop := g.v 0 = (.pointer x0) ∧ g.v 6 = (.slice x6b x6n x6c) ∧ g.v 18 = (.slice x18b x18n x18c) ∧ g.v 19 = (.int .i64 x19) ∧ g.v 20 = (.int .i64 x20) ∧ g.ds = []
def D5 (K : T5) (g : Env) (h : H) : Prop := nilDs g.ds (vPtr (g.v 0) fun p37 => vSlice (g.v 6) fun s38b s38n s38c => vSlice (g.v 18) fun s39b s39n s39c => vInt .i64 (g.v 19) fun i40 => vInt .i64 (g.v 20) fun i41 => K p37 s38b s38n s38c s39b s39n s39c i40 i41 h)
theorem D5_ok {K : T5} {g : Env} {h : H} (hq : D5 K g h) : ∃ (x0 : Option Addr) (x6b : Option Addr) (x6n : Nat) (x6c : Nat) (x18b : Option Addr) (x18n : Nat) (x18c : Nat) (x19 : Int) (x20 : Int), E5 g x0 x6b x6n x6c x18b x18n x18c x19 x20 ∧ K x0 x6b x6n x6c x18b x18n x18c x19 x20 h := by
  obtain ⟨hd, hq⟩ := nilDs_ok hq
  obtain ⟨y43, e42, q44⟩ := vPtr_ok hq
  obtain ⟨y46b, y46n, y46c, e45, q47⟩ := vSlice_ok q44
  obtain ⟨y49b, y49n, y49c, e48, q50⟩ := vSlice_ok q47
  obtain ⟨y52, e51, q53⟩ := vInt_ok q50
  obtain ⟨y55, e54, q56⟩ := vInt_ok q53
  exact ⟨y43, y46b, y46n, y46c, y49b, y49n, y49c, y52, y55, ⟨e42, e45, e48, e51, e54, hd⟩, q56⟩
noncomputable def n8_c1 : Code := cFst n7_c2
def Q2 (Kn : T4) (Ke0 : T4) (Kr : T0) : XPost
  | .normal, g, h => D4 Kn g h
  | .ret, g, h => D0 Kr g h
  | .exit id, g, h => cond (Nat.beq id 0) (D4 Ke0 g h) (False)
  | _, _, _ => False
noncomputable def n9_c1 : Code := cFst n8_c1
def Q3 (Kn : T5) (Ke0 : T4) (Kr : T0) : XPost
  | .normal, g, h => D5 Kn g h
  | .ret, g, h => D0 Kr g h
  | .exit id, g, h => cond (Nat.beq id 0) (D4 Ke0 g h) (False)
  | _, _, _ => False
def n9_L (Kn : T4) (Ke0 : T4) (Kr : T0) : Nat → (Option Addr) → (Option Addr) → Nat → Nat → (Option Addr) → Nat → Nat → Int → Int → H → Prop
  | 0 => fun _ _ _ _ _ _ _ _ _ _ => False
  | N + 1 => fun x0 x6b x6n x6c x18b x18n x18c x19 x20 h => Spl (x20 < x19) ((0 ≤ x20 ∧ x20 < (x18n : Int)) ∧ (vSome x18b fun a57 => ∃ i58, cell h (a57.add (Int.toNat x20 * 1)) = some (.int .i64 i58) ∧ (vSome x0 fun a59 => ∃ s60b s60n s60c, cell h (a59.add 0) = some (.slice s60b s60n s60c) ∧ ((0 ≤ i58 ∧ i58 < (s60n : Int)) ∧ (vSome s60b fun a61 => ∃ p62, cell h (a61.add (Int.toNat i58 * 1)) = some (.pointer p62) ∧ (vSome p62 fun a63 => ∃ i64, cell h (((a63.add 0)).add 0) = some (.int .u8 i64) ∧ (∃ i65, cell h (((a63.add 0)).add 1) = some (.int .u8 i65) ∧ (∃ s66, cell h (((a63.add 0)).add 2) = some (S s66) ∧ (∃ s67b s67n s67c, cell h (((a63.add 0)).add 3) = some (.slice s67b s67n s67c) ∧ (∃ s68, cell h (((a63.add 0)).add 4) = some (S s68) ∧ (∃ s69b s69n s69c, cell h (((a63.add 0)).add 5) = some (.slice s69b s69n s69c) ∧ (newx h ⟨[(.int .u8 (0 : Int)), (.int .u8 (0 : Int)), (S ([] : List UInt8)), (.slice none 0 0), (S ([] : List UInt8)), (.slice none 0 0)]⟩ 52 fun a70 h71 => stL a70 [(.int .u8 i64), (.int .u8 i65), (S s66), (.slice s67b s67n s67c), (S s68), (.slice s69b s69n s69c)] 0 h71 fun h72 => ∃ s73b s73n s73c, cell h72 (a70.add 3) = some (.slice s73b s73n s73c) ∧ (HCalls Try.prog 23 ⟨[(.slice s73b s73n s73c)]⟩ h72 fun v74 h75 => vSlice v74 fun s76b s76n s76c => HCalls Try.prog 12 ⟨[(.pointer x0), (.int .i64 i58)]⟩ h75 fun v77 h78 => vSlice v77 fun s79b s79n s79c => stL (a70.add 3) [(.slice s76b s76n s76c)] 0 h78 fun h80 => stL (a70.add 5) [(.slice s79b s79n s79c)] 0 h80 fun h81 => ∃ i82, cell h81 ((a70).add 0) = some (.int .u8 i82) ∧ (∃ i83, cell h81 ((a70).add 1) = some (.int .u8 i83) ∧ (∃ s84, cell h81 ((a70).add 2) = some (S s84) ∧ (∃ s85b s85n s85c, cell h81 ((a70).add 3) = some (.slice s85b s85n s85c) ∧ (∃ s86, cell h81 ((a70).add 4) = some (S s86) ∧ (∃ s87b s87n s87c, cell h81 ((a70).add 5) = some (.slice s87b s87n s87c) ∧ (newx h81 #[(.int .u8 i82), (.int .u8 i83), (S s84), (.slice s85b s85n s85c), (S s86), (.slice s87b s87n s87c)] 52 fun a88 h89 => SemH Try.prog (Builtin.append_ #[41, 41] 41 ⟨[(.slice x6b x6n x6c), (.slice (some a88) 1 1)]⟩) h89 fun v90 h91 => vSlice v90 fun s92b s92n s92c => Rng .i64 (x20 + (1 : Int)) ∧ (n9_L Kn Ke0 Kr N x0 s92b s92n s92c x18b x18n x18c x19 (x20 + (1 : Int)) h91)))))))))))))))))))) (Ke0 x6b x6n x6c h)
abbrev n9 (x0 : Option Addr) (x6b : Option Addr) (x6n : Nat) (x6c : Nat) (x18b : Option Addr) (x18n : Nat) (x18c : Nat) (x19 : Int) (x20 : Int) (Kn : T4) (Ke0 : T4) (Kr : T0) (h : H) : Prop := ∃ N, n9_L Kn Ke0 Kr N x0 x6b x6n x6c x18b x18n x18c x19 x20 h
theorem n9_ok (x0 : Option Addr) (x6b : Option Addr) (x6n : Nat) (x6c : Nat) (x18b : Option Addr) (x18n : Nat) (x18c : Nat) (x19 : Int) (x20 : Int) (Kn : T4) (Ke0 : T4) (Kr : T0) (g : Env) (hg : E5 g x0 x6b x6n x6c x18b x18n x18c x19 x20) (h : H) (hS : n9 x0 x6b x6n x6c x18b x18n x18c x19 x20 Kn Ke0 Kr h) : wpC none Try.prog 48 n8_c1 (Q2 Kn Ke0 Kr) g h := by
  obtain ⟨N0, hS⟩ := hS
  refine wpC_loop' (x := n9_c1) (by kernel_rfl) (fun k g h => ∃ (x0 : Option Addr) (x6b : Option Addr) (x6n : Nat) (x6c : Nat) (x18b : Option Addr) (x18n : Nat) (x18c : Nat) (x19 : Int) (x20 : Int), E5 g x0 x6b x6n x6c x18b x18n x18c x19 x20 ∧ n9_L Kn Ke0 Kr k x0 x6b x6n x6c x18b x18n x18c x19 x20 h) (fun g h hr => ?_) (fun N g h hr => ?_) N0 ⟨x0, x6b, x6n, x6c, x18b, x18n, x18c, x19, x20, hg, hS⟩
  · obtain ⟨x0, x6b, x6n, x6c, x18b, x18n, x18c, x19, x20, hg, hS⟩ := hr
    exact hS.elim
  · obtain ⟨x0, x6b, x6n, x6c, x18b, x18n, x18c, x19, x20, hg, hS⟩ := hr
    have hw : wpC none Try.prog 48 n9_c1 (Q3 (fun z0 z6b z6n z6c z18b z18n z18c z19 z20 h => n9_L Kn Ke0 Kr N z0 z6b z6n z6c z18b z18n z18c z19 z20 h) Ke0 Kr) g h := by
      obtain ⟨hg0, hg6, hg18, hg19, hg20, hds⟩ := hg
      refine wpC_of_wpx (by kernel_rfl) (by kernel_rfl) (g' := (((((⟨g.v, []⟩ : Env).upd (some 0) (.pointer x0)).upd (some 6) (.slice x6b x6n x6c)).upd (some 18) (.slice x18b x18n x18c)).upd (some 19) (.int .i64 x19)).upd (some 20) (.int .i64 x20)) (by rw [env_ds hds, upd_self hg0, upd_self hg6, upd_self hg18, upd_self hg19, upd_self hg20]) ?_
      have e : (n9_L Kn Ke0 Kr (N + 1) x0 x6b x6n x6c x18b x18n x18c x19 x20 h) = wpx none Try.prog 48 n9_c1 (Q3 (fun z0 z6b z6n z6c z18b z18n z18c z19 z20 h => n9_L Kn Ke0 Kr N z0 z6b z6n z6c z18b z18n z18c z19 z20 h) Ke0 Kr) ((((((⟨g.v, []⟩ : Env).upd (some 0) (.pointer x0)).upd (some 6) (.slice x6b x6n x6c)).upd (some 18) (.slice x18b x18n x18c)).upd (some 19) (.int .i64 x19)).upd (some 20) (.int .i64 x20)) h := by kernel_rfl
      exact e ▸ hS
    refine hw.mono ?_
    intro e g' h' hq
    cases e with
    | normal => exact D5_ok (K := (fun z0 z6b z6n z6c z18b z18n z18c z19 z20 h => n9_L Kn Ke0 Kr N z0 z6b z6n z6c z18b z18n z18c z19 z20 h)) hq
    | _ => exact hq
abbrev n8 (x0 : Option Addr) (x6b : Option Addr) (x6n : Nat) (x6c : Nat) (x18b : Option Addr) (x18n : Nat) (x18c : Nat) (x19 : Int) (x20 : Int) (Kn : T4) (Kr : T0) (h : H) : Prop := n9 x0 x6b x6n x6c x18b x18n x18c x19 x20 Kn Kn Kr h
theorem n8_ok (x0 : Option Addr) (x6b : Option Addr) (x6n : Nat) (x6c : Nat) (x18b : Option Addr) (x18n : Nat) (x18c : Nat) (x19 : Int) (x20 : Int) (Kn : T4) (Kr : T0) (g : Env) (hg : E5 g x0 x6b x6n x6c x18b x18n x18c x19 x20) (h : H) (hS : n8 x0 x6b x6n x6c x18b x18n x18c x19 x20 Kn Kr h) : wpC none Try.prog 48 n7_c2 (Q1 Kn Kr) g h := by
  refine wpC_block' (id := 0) (x := n8_c1) (by kernel_rfl) (n9_ok x0 x6b x6n x6c x18b x18n x18c x19 x20 Kn Kn Kr g hg h hS) ?_
  intro e g' h' hq
  cases e <;> exact hq
def Q4 (Kn : T5) (Kr : T0) : XPost
  | .normal, g, h => D5 Kn g h
  | .ret, g, h => D0 Kr g h
  | _, _, _ => False
abbrev n7 (x0 : Option Addr) (x5 : Option Addr) (x6b : Option Addr) (x6n : Nat) (x6c : Nat) (Kn : T4) (Kr : T0) (h : H) : Prop :=
  vSome x5 fun a93 => ∃ s94b s94n s94c, cell h (a93.add 7) = some (.slice s94b s94n s94c) ∧ (n8 x0 x6b x6n x6c s94b s94n s94c (s94n : Int) (0 : Int) Kn Kr h)
theorem n7_ok (x0 : Option Addr) (x5 : Option Addr) (x6b : Option Addr) (x6n : Nat) (x6c : Nat) (Kn : T4) (Kr : T0) (g : Env) (hg : E3 g x0 x5 x6b x6n x6c) (h : H) (hS : n7 x0 x5 x6b x6n x6c Kn Kr h) : wpC none Try.prog 48 n5_c1 (Q1 Kn Kr) g h := by
  obtain ⟨hg0, hg5, hg6, hds⟩ := hg
  refine wpC_seq' (x := n7_c1) (y := n7_c2) (Q' := (Q4 (fun z0 z6b z6n z6c z18b z18n z18c z19 z20 h => n8 z0 z6b z6n z6c z18b z18n z18c z19 z20 Kn Kr h) Kr)) (by kernel_rfl) ?_ ?_
  · refine wpC_of_wpx (by kernel_rfl) (by kernel_rfl) (g' := (((⟨g.v, []⟩ : Env).upd (some 0) (.pointer x0)).upd (some 5) (.pointer x5)).upd (some 6) (.slice x6b x6n x6c)) (by rw [env_ds hds, upd_self hg0, upd_self hg5, upd_self hg6]) ?_
    have e : (n7 x0 x5 x6b x6n x6c Kn Kr h) = wpx none Try.prog 48 n7_c1 (Q4 (fun z0 z6b z6n z6c z18b z18n z18c z19 z20 h => n8 z0 z6b z6n z6c z18b z18n z18c z19 z20 Kn Kr h) Kr) ((((⟨g.v, []⟩ : Env).upd (some 0) (.pointer x0)).upd (some 5) (.pointer x5)).upd (some 6) (.slice x6b x6n x6c)) h := by kernel_rfl
    exact e ▸ hS
  · intro e g' h' hq
    cases e with
    | normal =>
      have hq : D5 (fun z0 z6b z6n z6c z18b z18n z18c z19 z20 h => n8 z0 z6b z6n z6c z18b z18n z18c z19 z20 Kn Kr h) g' h' := hq
      obtain ⟨y0, y6b, y6n, y6c, y18b, y18n, y18c, y19, y20, hg', hq⟩ := D5_ok hq
      exact n8_ok y0 y6b y6n y6c y18b y18n y18c y19 y20 Kn Kr g' hg' h' hq
    | _ => exact hq
abbrev n5 (x0 : Option Addr) (x5 : Option Addr) (x6b : Option Addr) (x6n : Nat) (x6c : Nat) (Kn : T0) (Kr : T0) (h : H) : Prop := n7 x0 x5 x6b x6n x6c (fun z6b z6n z6c h => n6 z6b z6n z6c Kn Kr h) Kr h
theorem n5_ok (x0 : Option Addr) (x5 : Option Addr) (x6b : Option Addr) (x6n : Nat) (x6c : Nat) (Kn : T0) (Kr : T0) (g : Env) (hg : E3 g x0 x5 x6b x6n x6c) (h : H) (hS : n5 x0 x5 x6b x6n x6c Kn Kr h) : wpC none Try.prog 48 n4_c2 (Q0 Kn Kr) g h := by
  refine wpC_seq' (x := n5_c1) (y := n5_c2) (by kernel_rfl) (n7_ok x0 x5 x6b x6n x6c (fun z6b z6n z6c h => n6 z6b z6n z6c Kn Kr h) Kr g hg h hS) ?_
  intro e g' h' hq
  cases e with
  | normal =>
    have hq : D4 (fun z6b z6n z6c h => n6 z6b z6n z6c Kn Kr h) g' h' := hq
    obtain ⟨y6b, y6n, y6c, hg', hq⟩ := D4_ok hq
    exact n6_ok y6b y6n y6c Kn Kr g' hg' h' hq
  | _ => exact hq
def Q5 (Kn : T3) (Kr : T0) : XPost
  | .normal, g, h => D3 Kn g h
  | .ret, g, h => D0 Kr g h
  | _, _, _ => False
abbrev n4 (x0 : Option Addr) (x5 : Option Addr) (Kn : T0) (Kr : T0) (h : H) : Prop :=
  n5 x0 x5 none 0 0 Kn Kr h
theorem n4_ok (x0 : Option Addr) (x5 : Option Addr) (Kn : T0) (Kr : T0) (g : Env) (hg : E2 g x0 x5) (h : H) (hS : n4 x0 x5 Kn Kr h) : wpC none Try.prog 48 n3_c2 (Q0 Kn Kr) g h := by
  obtain ⟨hg0, hg5, hds⟩ := hg
  refine wpC_seq' (x := n4_c1) (y := n4_c2) (Q' := (Q5 (fun z0 z5 z6b z6n z6c h => n5 z0 z5 z6b z6n z6c Kn Kr h) Kr)) (by kernel_rfl) ?_ ?_
  · refine wpC_of_wpx (by kernel_rfl) (by kernel_rfl) (g' := ((⟨g.v, []⟩ : Env).upd (some 0) (.pointer x0)).upd (some 5) (.pointer x5)) (by rw [env_ds hds, upd_self hg0, upd_self hg5]) ?_
    have e : (n4 x0 x5 Kn Kr h) = wpx none Try.prog 48 n4_c1 (Q5 (fun z0 z5 z6b z6n z6c h => n5 z0 z5 z6b z6n z6c Kn Kr h) Kr) (((⟨g.v, []⟩ : Env).upd (some 0) (.pointer x0)).upd (some 5) (.pointer x5)) h := by kernel_rfl
    exact e ▸ hS
  · intro e g' h' hq
    cases e with
    | normal =>
      have hq : D3 (fun z0 z5 z6b z6n z6c h => n5 z0 z5 z6b z6n z6c Kn Kr h) g' h' := hq
      obtain ⟨y0, y5, y6b, y6n, y6c, hg', hq⟩ := D3_ok hq
      exact n5_ok y0 y5 y6b y6n y6c Kn Kr g' hg' h' hq
    | _ => exact hq
def Q6 (Kn : T2) (Kr : T0) : XPost
  | .normal, g, h => D2 Kn g h
  | .ret, g, h => D0 Kr g h
  | _, _, _ => False
abbrev n3 (x0 : Option Addr) (x5 : Option Addr) (Kn : T0) (Kr : T0) (h : H) : Prop :=
  SemH Try.prog (binS .eql 58 (.tmp 13) (.const (.pointer none)) (.pointer x5) (.pointer none)) h fun v95 h96 => vBool v95 fun b97 => cond b97 (Kr none 0 0 h96) (n4 x0 x5 Kn Kr h96)
theorem n3_ok (x0 : Option Addr) (x5 : Option Addr) (Kn : T0) (Kr : T0) (g : Env) (hg : E2 g x0 x5) (h : H) (hS : n3 x0 x5 Kn Kr h) : wpC none Try.prog 48 n2_c2 (Q0 Kn Kr) g h := by
  obtain ⟨hg0, hg5, hds⟩ := hg
  refine wpC_seq' (x := n3_c1) (y := n3_c2) (Q' := (Q6 (fun z0 z5 h => n4 z0 z5 Kn Kr h) Kr)) (by kernel_rfl) ?_ ?_
  · refine wpC_of_wpx (by kernel_rfl) (by kernel_rfl) (g' := ((⟨g.v, []⟩ : Env).upd (some 0) (.pointer x0)).upd (some 5) (.pointer x5)) (by rw [env_ds hds, upd_self hg0, upd_self hg5]) ?_
    have e : (n3 x0 x5 Kn Kr h) = wpx none Try.prog 48 n3_c1 (Q6 (fun z0 z5 h => n4 z0 z5 Kn Kr h) Kr) (((⟨g.v, []⟩ : Env).upd (some 0) (.pointer x0)).upd (some 5) (.pointer x5)) h := by kernel_rfl
    exact e ▸ hS
  · intro e g' h' hq
    cases e with
    | normal =>
      have hq : D2 (fun z0 z5 h => n4 z0 z5 Kn Kr h) g' h' := hq
      obtain ⟨y0, y5, hg', hq⟩ := D2_ok hq
      exact n4_ok y0 y5 Kn Kr g' hg' h' hq
    | _ => exact hq
abbrev n2 (x0 : Option Addr) (x1 : Int) (Kn : T0) (Kr : T0) (h : H) : Prop :=
  HCalls Try.prog 22 ⟨[(.pointer x0), (.int .i64 x1)]⟩ h fun v98 h99 => vPtr v98 fun p100 => n3 x0 p100 Kn Kr h99
theorem n2_ok (x0 : Option Addr) (x1 : Int) (Kn : T0) (Kr : T0) (g : Env) (hg : E1 g x0 x1) (h : H) (hS : n2 x0 x1 Kn Kr h) : wpC none Try.prog 48 n1_c2 (Q0 Kn Kr) g h := by
  obtain ⟨hg0, hg1, hds⟩ := hg
  refine wpC_seq' (x := n2_c1) (y := n2_c2) (Q' := (Q6 (fun z0 z5 h => n3 z0 z5 Kn Kr h) Kr)) (by kernel_rfl) ?_ ?_
  · refine wpC_of_wpx (by kernel_rfl) (by kernel_rfl) (g' := ((⟨g.v, []⟩ : Env).upd (some 0) (.pointer x0)).upd (some 1) (.int .i64 x1)) (by rw [env_ds hds, upd_self hg0, upd_self hg1]) ?_
    have e : (n2 x0 x1 Kn Kr h) = wpx none Try.prog 48 n2_c1 (Q6 (fun z0 z5 h => n3 z0 z5 Kn Kr h) Kr) (((⟨g.v, []⟩ : Env).upd (some 0) (.pointer x0)).upd (some 1) (.int .i64 x1)) h := by kernel_rfl
    exact e ▸ hS
  · intro e g' h' hq
    cases e with
    | normal =>
      have hq : D2 (fun z0 z5 h => n3 z0 z5 Kn Kr h) g' h' := hq
      obtain ⟨y0, y5, hg', hq⟩ := D2_ok hq
      exact n3_ok y0 y5 Kn Kr g' hg' h' hq
    | _ => exact hq
def Q7 (Kn : T1) (Kr : T0) : XPost
  | .normal, g, h => D1 Kn g h
  | .ret, g, h => D0 Kr g h
  | _, _, _ => False
abbrev n1 (x0 : Option Addr) (x1 : Int) (Kn : T0) (Kr : T0) (h : H) : Prop :=
  n2 x0 x1 Kn Kr h
theorem n1_ok (x0 : Option Addr) (x1 : Int) (Kn : T0) (Kr : T0) (g : Env) (hg : E1 g x0 x1) (h : H) (hS : n1 x0 x1 Kn Kr h) : wpC none Try.prog 48 code (Q0 Kn Kr) g h := by
  obtain ⟨hg0, hg1, hds⟩ := hg
  refine wpC_seq' (x := n1_c1) (y := n1_c2) (Q' := (Q7 (fun z0 z1 h => n2 z0 z1 Kn Kr h) Kr)) (by kernel_rfl) ?_ ?_
  · refine wpC_of_wpx (by kernel_rfl) (by kernel_rfl) (g' := ((⟨g.v, []⟩ : Env).upd (some 0) (.pointer x0)).upd (some 1) (.int .i64 x1)) (by rw [env_ds hds, upd_self hg0, upd_self hg1]) ?_
    have e : (n1 x0 x1 Kn Kr h) = wpx none Try.prog 48 n1_c1 (Q7 (fun z0 z1 h => n2 z0 z1 Kn Kr h) Kr) (((⟨g.v, []⟩ : Env).upd (some 0) (.pointer x0)).upd (some 1) (.int .i64 x1)) h := by kernel_rfl
    exact e ▸ hS
  · intro e g' h' hq
    cases e with
    | normal =>
      have hq : D1 (fun z0 z1 h => n2 z0 z1 Kn Kr h) g' h' := hq
      obtain ⟨y0, y1, hg', hq⟩ := D1_ok hq
      exact n2_ok y0 y1 Kn Kr g' hg' h' hq
    | _ => exact hq
/-- WHAT (*tympan/dom.Tree).Whole ASKS -/
abbrev asks (x0 : Option Addr) (x1 : Int) (K : Value → H → Prop) (h : H) : Prop := n1 x0 x1 (fun y4b y4n y4c h => K (.slice y4b y4n y4c) h) (fun y4b y4n y4c h => K (.slice y4b y4n y4c) h) h
theorem ok (x0 : Option Addr) (x1 : Int) (K : Value → H → Prop) (h : H) (hS : asks x0 x1 K h) : HCalls Try.prog 12 ⟨[(.pointer x0), (.int .i64 x1)]⟩ h K := by
  refine calls_of_wpC (c := code) Try.func12 (by kernel_rfl) (Nat.le_of_ble_eq_true (by kernel_rfl)) ?_
  refine (n1_ok x0 x1 (fun y4b y4n y4c h => K (.slice y4b y4n y4c) h) (fun y4b y4n y4c h => K (.slice y4b y4n y4c) h) (env0 [(.pointer x0), (.int .i64 x1)]) ⟨rfl, rfl, rfl⟩ h hS).mono ?_
  intro e g' h' hq
  cases e with
  | normal =>
    have hq : D0 (fun y4b y4n y4c h => K (.slice y4b y4n y4c) h) g' h' := hq
    obtain ⟨y4b, y4n, y4c, ⟨hg4, hd⟩, hq⟩ := D0_ok hq
    show leaveX g'.ds h' _
    rw [hd]
    show K (g'.v 4) h'
    rw [hg4]
    exact hq
  | ret =>
    have hq : D0 (fun y4b y4n y4c h => K (.slice y4b y4n y4c) h) g' h' := hq
    obtain ⟨y4b, y4n, y4c, ⟨hg4, hd⟩, hq⟩ := D0_ok hq
    show leaveX g'.ds h' _
    rw [hd]
    show K (g'.v 4) h'
    rw [hg4]
    exact hq
  | _ => exact hq
end Sx.dom_Tree_Whole
end Go.Proofs
