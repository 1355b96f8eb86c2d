/- The shallow forms of functions, printed by sh.py out of the translation; each with its proof. No condition. -/
import Derived.Test.YtgkaebhnamcfkaaShJ
import Derived.Test.YtgkaebhnamcfkaaProg
namespace Go.Proofs
open Go Go.Sh
set_option linter.unusedVariables false
set_option maxRecDepth 100000

/-! ### tympan/dom.Same -/
namespace Sx.dom_Same
noncomputable def code : Code := bodyOf Try.f30
abbrev T0 := Bool → H → Prop
def E0 (g : Env) (x4 : Bool) : Prop := g.v 4 = (.bool x4) ∧ g.ds = []
def D0 (K : T0) (g : Env) (h : H) : Prop := nilDs g.ds (vBool (g.v 4) fun b1 => K b1 h)
theorem D0_ok {K : T0} {g : Env} {h : H} (hq : D0 K g h) : ∃ (x4 : Bool), E0 g x4 ∧ K x4 h := by
  obtain ⟨hd, hq⟩ := nilDs_ok hq
  obtain ⟨y3, e2, q4⟩ := vBool_ok hq
  exact ⟨y3, ⟨e2, hd⟩, q4⟩
def Q0 (Kn : T0) (Kr : T0) : XPost
  | .normal, g, h => D0 Kn g h
  | .ret, g, h => D0 Kr g h
  | _, _, _ => False
abbrev T1 := (Option Addr) → Nat → Nat → (Option Addr) → Nat → Nat → H → Prop
def E1 (g : Env) (x0b : Option Addr) (x0n : Nat) (x0c : Nat) (x1b : Option Addr) (x1n : Nat) (x1c : Nat) : Prop := g.v 0 = (.slice x0b x0n x0c) ∧ g.v 1 = (.slice x1b x1n x1c) ∧ g.ds = []
def D1 (K : T1) (g : Env) (h : H) : Prop := nilDs g.ds (vSlice (g.v 0) fun s5b s5n s5c => vSlice (g.v 1) fun s6b s6n s6c => K s5b s5n s5c s6b s6n s6c h)
theorem D1_ok {K : T1} {g : Env} {h : H} (hq : D1 K g h) : ∃ (x0b : Option Addr) (x0n : Nat) (x0c : Nat) (x1b : Option Addr) (x1n : Nat) (x1c : Nat), E1 g x0b x0n x0c x1b x1n x1c ∧ K x0b x0n x0c x1b x1n x1c h := by
  obtain ⟨hd, hq⟩ := nilDs_ok hq
  obtain ⟨y8b, y8n, y8c, e7, q9⟩ := vSlice_ok hq
  obtain ⟨y11b, y11n, y11c, e10, q12⟩ := vSlice_ok q9
  exact ⟨y8b, y8n, y8c, y11b, y11n, y11c, ⟨e7, e10, hd⟩, q12⟩
abbrev n1 (x0b : Option Addr) (x0n : Nat) (x0c : Nat) (x1b : Option Addr) (x1n : Nat) (x1c : Nat) (Kn : T0) (Kr : T0) (h : H) : Prop :=
  HCalls Try.prog 54 ⟨[(.slice x0b x0n x0c), (.slice x1b x1n x1c), (.func (.func 55) ⟨[]⟩ ⟨[]⟩)]⟩ h fun v13 h14 => vBool v13 fun b15 => cond b15 (Kr true h14) (Kr false h14)
theorem n1_ok (x0b : Option Addr) (x0n : Nat) (x0c : Nat) (x1b : Option Addr) (x1n : Nat) (x1c : Nat) (Kn : T0) (Kr : T0) (g : Env) (hg : E1 g x0b x0n x0c x1b x1n x1c) (h : H) (hS : n1 x0b x0n x0c x1b x1n x1c Kn Kr h) : wpC none Try.prog 8 code (Q0 Kn Kr) g h := by
  obtain ⟨hg0, hg1, hds⟩ := hg
  refine wpC_of_wpx (by kernel_rfl) (by kernel_rfl) (g' := ((⟨g.v, []⟩ : Env).upd (some 0) (.slice x0b x0n x0c)).upd (some 1) (.slice x1b x1n x1c)) (by rw [env_ds hds, upd_self hg0, upd_self hg1]) ?_
  have e : (n1 x0b x0n x0c x1b x1n x1c Kn Kr h) = wpx none Try.prog 8 code (Q0 Kn Kr) (((⟨g.v, []⟩ : Env).upd (some 0) (.slice x0b x0n x0c)).upd (some 1) (.slice x1b x1n x1c)) h := by kernel_rfl
  exact e ▸ hS
/-- WHAT tympan/dom.Same ASKS -/
abbrev asks (x0b : Option Addr) (x0n : Nat) (x0c : Nat) (x1b : Option Addr) (x1n : Nat) (x1c : Nat) (K : Value → H → Prop) (h : H) : Prop := n1 x0b x0n x0c x1b x1n x1c (fun y4 h => K (.bool y4) h) (fun y4 h => K (.bool y4) h) h
theorem ok (x0b : Option Addr) (x0n : Nat) (x0c : Nat) (x1b : Option Addr) (x1n : Nat) (x1c : Nat) (K : Value → H → Prop) (h : H) (hS : asks x0b x0n x0c x1b x1n x1c K h) : HCalls Try.prog 30 ⟨[(.slice x0b x0n x0c), (.slice x1b x1n x1c)]⟩ h K := by
  refine calls_of_wpC (c := code) Try.func30 (by kernel_rfl) (Nat.le_of_ble_eq_true (by kernel_rfl)) ?_
  refine (n1_ok x0b x0n x0c x1b x1n x1c (fun y4 h => K (.bool y4) h) (fun y4 h => K (.bool y4) h) (env0 [(.slice x0b x0n x0c), (.slice x1b x1n x1c)]) ⟨rfl, rfl, rfl⟩ h hS).mono ?_
  intro e g' h' hq
  cases e with
  | normal =>
    have hq : D0 (fun y4 h => K (.bool y4) h) g' h' := hq
    obtain ⟨y4, ⟨hg4, hd⟩, hq⟩ := D0_ok hq
    show leaveX g'.ds h' _
    rw [hd]
    show K (g'.v 4) h'
    rw [hg4]
    exact hq
  | ret =>
    have hq : D0 (fun y4 h => K (.bool y4) h) g' h' := hq
    obtain ⟨y4, ⟨hg4, hd⟩, hq⟩ := D0_ok hq
    show leaveX g'.ds h' _
    rw [hd]
    show K (g'.v 4) h'
    rw [hg4]
    exact hq
  | _ => exact hq
end Sx.dom_Same

/-! ### slices.EqualFunc[[]tympan/api.Node,[]tympan/api.Node,tympan/api.Node,tympan/api.Node] -/
namespace Sx.slices_EqualFunc_apiNode
noncomputable def code : Code := bodyOf Try.f54
abbrev T0 := Bool → H → Prop
def E0 (g : Env) (x6 : Bool) : Prop := g.v 6 = (.bool x6) ∧ g.ds = []
def D0 (K : T0) (g : Env) (h : H) : Prop := nilDs g.ds (vBool (g.v 6) fun b1 => K b1 h)
theorem D0_ok {K : T0} {g : Env} {h : H} (hq : D0 K g h) : ∃ (x6 : Bool), E0 g x6 ∧ K x6 h := by
  obtain ⟨hd, hq⟩ := nilDs_ok hq
  obtain ⟨y3, e2, q4⟩ := vBool_ok hq
  exact ⟨y3, ⟨e2, hd⟩, q4⟩
def Q0 (Kn : T0) (Kr : T0) : XPost
  | .normal, g, h => D0 Kn g h
  | .ret, g, h => D0 Kr g h
  | _, _, _ => False
abbrev T1 := (Option Addr) → Nat → Nat → (Option Addr) → Nat → Nat → Value → H → Prop
def E1 (g : Env) (x0b : Option Addr) (x0n : Nat) (x0c : Nat) (x1b : Option Addr) (x1n : Nat) (x1c : Nat) (x2 : Value) : Prop := g.v 0 = (.slice x0b x0n x0c) ∧ g.v 1 = (.slice x1b x1n x1c) ∧ g.v 2 = x2 ∧ g.ds = []
def D1 (K : T1) (g : Env) (h : H) : Prop := nilDs g.ds (vSlice (g.v 0) fun s5b s5n s5c => vSlice (g.v 1) fun s6b s6n s6c => K s5b s5n s5c s6b s6n s6c (g.v 2) h)
theorem D1_ok {K : T1} {g : Env} {h : H} (hq : D1 K g h) : ∃ (x0b : Option Addr) (x0n : Nat) (x0c : Nat) (x1b : Option Addr) (x1n : Nat) (x1c : Nat) (x2 : Value), E1 g x0b x0n x0c x1b x1n x1c x2 ∧ K x0b x0n x0c x1b x1n x1c x2 h := by
  obtain ⟨hd, hq⟩ := nilDs_ok hq
  obtain ⟨y8b, y8n, y8c, e7, q9⟩ := vSlice_ok hq
  obtain ⟨y11b, y11n, y11c, e10, q12⟩ := vSlice_ok q9
  exact ⟨y8b, y8n, y8c, y11b, y11n, y11c, (g.v 2), ⟨e7, e10, rfl, hd⟩, q12⟩
noncomputable def n1_c1 : Code := cFst code
noncomputable def n1_c2 : Code := cSnd code
noncomputable def n2_c1 : Code := cFst n1_c2
noncomputable def n2_c2 : Code := cSnd n1_c2
noncomputable def n3_c1 : Code := cFst n2_c2
noncomputable def n3_c2 : Code := cSnd n2_c2
abbrev T2 := H → Prop
def E2 (g : Env)  : Prop := g.ds = []
def D2 (K : T2) (g : Env) (h : H) : Prop := nilDs g.ds (K h)
theorem D2_ok {K : T2} {g : Env} {h : H} (hq : D2 K g h) : E2 g  ∧ K  h := by
  obtain ⟨hd, hq⟩ := nilDs_ok hq
  skip
  exact ⟨hd, hq⟩
abbrev n4  (Kn : T0) (Kr : T0) (h : H) : Prop :=
  Kr true h
theorem n4_ok  (Kn : T0) (Kr : T0) (g : Env) (hg : E2 g ) (h : H) (hS : n4  Kn Kr h) : wpC none Try.prog 32 n3_c2 (Q0 Kn Kr) g h := by
  have hds : g.ds = [] := hg
  refine wpC_of_wpx (by kernel_rfl) (by kernel_rfl) (g' := ⟨g.v, []⟩) (by rw [env_ds hds]) ?_
  have e : (n4  Kn Kr h) = wpx none Try.prog 32 n3_c2 (Q0 Kn Kr) (⟨g.v, []⟩) h := by kernel_rfl
  exact e ▸ hS
def Q1 (Kn : T2) (Kr : T0) : XPost
  | .normal, g, h => D2 Kn g h
  | .ret, g, h => D0 Kr g h
  | _, _, _ => False
noncomputable def n5_c1 : Code := cFst n3_c1
noncomputable def n5_c2 : Code := cSnd n3_c1
abbrev T3 := (Option Addr) → Nat → Nat → Value → (Option Addr) → Nat → Nat → Int → Int → H → Prop
def E3 (g : Env) (x1b : Option Addr) (x1n : Nat) (x1c : Nat) (x2 : Value) (x15b : Option Addr) (x15n : Nat) (x15c : Nat) (x16 : Int) (x17 : Int) : Prop := g.v 1 = (.slice x1b x1n x1c) ∧ g.v 2 = x2 ∧ g.v 15 = (.slice x15b x15n x15c) ∧ g.v 16 = (.int .i64 x16) ∧ g.v 17 = (.int .i64 x17) ∧ g.ds = []
def D3 (K : T3) (g : Env) (h : H) : Prop := nilDs g.ds (vSlice (g.v 1) fun s13b s13n s13c => vSlice (g.v 15) fun s14b s14n s14c => vInt .i64 (g.v 16) fun i15 => vInt .i64 (g.v 17) fun i16 => K s13b s13n s13c (g.v 2) s14b s14n s14c i15 i16 h)
theorem D3_ok {K : T3} {g : Env} {h : H} (hq : D3 K g h) : ∃ (x1b : Option Addr) (x1n : Nat) (x1c : Nat) (x2 : Value) (x15b : Option Addr) (x15n : Nat) (x15c : Nat) (x16 : Int) (x17 : Int), E3 g x1b x1n x1c x2 x15b x15n x15c x16 x17 ∧ K x1b x1n x1c x2 x15b x15n x15c x16 x17 h := by
  obtain ⟨hd, hq⟩ := nilDs_ok hq
  obtain ⟨y18b, y18n, y18c, e17, q19⟩ := vSlice_ok hq
  obtain ⟨y21b, y21n, y21c, e20, q22⟩ := vSlice_ok q19
  obtain ⟨y24, e23, q25⟩ := vInt_ok q22
  obtain ⟨y27, e26, q28⟩ := vInt_ok q25
  exact ⟨y18b, y18n, y18c, (g.v 2), y21b, y21n, y21c, y24, y27, ⟨e17, rfl, e20, e23, e26, hd⟩, q28⟩
noncomputable def n6_c1 : Code := cFst n5_c2
def Q2 (Kn : T2) (Ke0 : T2) (Kr : T0) : XPost
  | .normal, g, h => D2 Kn g h
  | .ret, g, h => D0 Kr g h
  | .exit id, g, h => cond (Nat.beq id 0) (D2 Ke0 g h) (False)
  | _, _, _ => False
noncomputable def n7_c1 : Code := cFst n6_c1
def Q3 (Kn : T3) (Ke0 : T2) (Kr : T0) : XPost
  | .normal, g, h => D3 Kn g h
  | .ret, g, h => D0 Kr g h
  | .exit id, g, h => cond (Nat.beq id 0) (D2 Ke0 g h) (False)
  | _, _, _ => False
def n7_L (Kn : T2) (Ke0 : T2) (Kr : T0) : Nat → (Option Addr) → Nat → Nat → Value → (Option Addr) → Nat → Nat → Int → Int → H → Prop
  | 0 => fun _ _ _ _ _ _ _ _ _ _ => False
  | N + 1 => fun x1b x1n x1c x2 x15b x15n x15c x16 x17 h => Spl (x17 < x16) ((0 ≤ x17 ∧ x17 < (x15n : Int)) ∧ (vSome x15b fun a29 => ∃ i30, cell h (((a29.add (Int.toNat x17 * 6))).add 0) = some (.int .u8 i30) ∧ (∃ i31, cell h (((a29.add (Int.toNat x17 * 6))).add 1) = some (.int .u8 i31) ∧ (∃ s32, cell h (((a29.add (Int.toNat x17 * 6))).add 2) = some (S s32) ∧ (∃ s33b s33n s33c, cell h (((a29.add (Int.toNat x17 * 6))).add 3) = some (.slice s33b s33n s33c) ∧ (∃ s34, cell h (((a29.add (Int.toNat x17 * 6))).add 4) = some (S s34) ∧ (∃ s35b s35n s35c, cell h (((a29.add (Int.toNat x17 * 6))).add 5) = some (.slice s35b s35n s35c) ∧ (newx h ⟨[(.int .u8 (0 : Int)), (.int .u8 (0 : Int)), (S ([] : List UInt8)), (.slice none 0 0), (S ([] : List UInt8)), (.slice none 0 0)]⟩ 31 fun a36 h37 => stL a36 [(.int .u8 i30), (.int .u8 i31), (S s32), (.slice s33b s33n s33c), (S s34), (.slice s35b s35n s35c)] 0 h37 fun h38 => (0 ≤ x17 ∧ x17 < (x1n : Int)) ∧ (vSome x1b fun a39 => ∃ i40, cell h38 (((a39.add (Int.toNat x17 * 6))).add 0) = some (.int .u8 i40) ∧ (∃ i41, cell h38 (((a39.add (Int.toNat x17 * 6))).add 1) = some (.int .u8 i41) ∧ (∃ s42, cell h38 (((a39.add (Int.toNat x17 * 6))).add 2) = some (S s42) ∧ (∃ s43b s43n s43c, cell h38 (((a39.add (Int.toNat x17 * 6))).add 3) = some (.slice s43b s43n s43c) ∧ (∃ s44, cell h38 (((a39.add (Int.toNat x17 * 6))).add 4) = some (S s44) ∧ (∃ s45b s45n s45c, cell h38 (((a39.add (Int.toNat x17 * 6))).add 5) = some (.slice s45b s45n s45c) ∧ (newx h38 ⟨[(.int .u8 (0 : Int)), (.int .u8 (0 : Int)), (S ([] : List UInt8)), (.slice none 0 0), (S ([] : List UInt8)), (.slice none 0 0)]⟩ 31 fun a46 h47 => stL a46 [(.int .u8 i40), (.int .u8 i41), (S s42), (.slice s43b s43n s43c), (S s44), (.slice s45b s45n s45c)] 0 h47 fun h48 => ∃ i49, cell h48 ((a36).add 0) = some (.int .u8 i49) ∧ (∃ i50, cell h48 ((a36).add 1) = some (.int .u8 i50) ∧ (∃ s51, cell h48 ((a36).add 2) = some (S s51) ∧ (∃ s52b s52n s52c, cell h48 ((a36).add 3) = some (.slice s52b s52n s52c) ∧ (∃ s53, cell h48 ((a36).add 4) = some (S s53) ∧ (∃ s54b s54n s54c, cell h48 ((a36).add 5) = some (.slice s54b s54n s54c) ∧ (∃ i55, cell h48 ((a46).add 0) = some (.int .u8 i55) ∧ (∃ i56, cell h48 ((a46).add 1) = some (.int .u8 i56) ∧ (∃ s57, cell h48 ((a46).add 2) = some (S s57) ∧ (∃ s58b s58n s58c, cell h48 ((a46).add 3) = some (.slice s58b s58n s58c) ∧ (∃ s59, cell h48 ((a46).add 4) = some (S s59) ∧ (∃ s60b s60n s60c, cell h48 ((a46).add 5) = some (.slice s60b s60n s60c) ∧ (CallV Try.prog 4 x2 ⟨[(.agg ⟨[(.int .u8 i49), (.int .u8 i50), (S s51), (.slice s52b s52n s52c), (S s53), (.slice s54b s54n s54c)]⟩), (.agg ⟨[(.int .u8 i55), (.int .u8 i56), (S s57), (.slice s58b s58n s58c), (S s59), (.slice s60b s60n s60c)]⟩)]⟩ h48 fun v61 h62 => vBool v61 fun b63 => cond b63 (Rng .i64 (x17 + (1 : Int)) ∧ (n7_L Kn Ke0 Kr N x1b x1n x1c x2 x15b x15n x15c x16 (x17 + (1 : Int)) h62)) (Kr false h62)))))))))))))))))))))))))))) (Ke0 h)
abbrev n7 (x1b : Option Addr) (x1n : Nat) (x1c : Nat) (x2 : Value) (x15b : Option Addr) (x15n : Nat) (x15c : Nat) (x16 : Int) (x17 : Int) (Kn : T2) (Ke0 : T2) (Kr : T0) (h : H) : Prop := ∃ N, n7_L Kn Ke0 Kr N x1b x1n x1c x2 x15b x15n x15c x16 x17 h
theorem n7_ok (x1b : Option Addr) (x1n : Nat) (x1c : Nat) (x2 : Value) (x15b : Option Addr) (x15n : Nat) (x15c : Nat) (x16 : Int) (x17 : Int) (Kn : T2) (Ke0 : T2) (Kr : T0) (g : Env) (hg : E3 g x1b x1n x1c x2 x15b x15n x15c x16 x17) (h : H) (hS : n7 x1b x1n x1c x2 x15b x15n x15c x16 x17 Kn Ke0 Kr h) : wpC none Try.prog 32 n6_c1 (Q2 Kn Ke0 Kr) g h := by
  obtain ⟨N0, hS⟩ := hS
  refine wpC_loop' (x := n7_c1) (by kernel_rfl) (fun k g h => ∃ (x1b : Option Addr) (x1n : Nat) (x1c : Nat) (x2 : Value) (x15b : Option Addr) (x15n : Nat) (x15c : Nat) (x16 : Int) (x17 : Int), E3 g x1b x1n x1c x2 x15b x15n x15c x16 x17 ∧ n7_L Kn Ke0 Kr k x1b x1n x1c x2 x15b x15n x15c x16 x17 h) (fun g h hr => ?_) (fun N g h hr => ?_) N0 ⟨x1b, x1n, x1c, x2, x15b, x15n, x15c, x16, x17, hg, hS⟩
  · obtain ⟨x1b, x1n, x1c, x2, x15b, x15n, x15c, x16, x17, hg, hS⟩ := hr
    exact hS.elim
  · obtain ⟨x1b, x1n, x1c, x2, x15b, x15n, x15c, x16, x17, hg, hS⟩ := hr
    have hw : wpC none Try.prog 32 n7_c1 (Q3 (fun z1b z1n z1c z2 z15b z15n z15c z16 z17 h => n7_L Kn Ke0 Kr N z1b z1n z1c z2 z15b z15n z15c z16 z17 h) Ke0 Kr) g h := by
      obtain ⟨hg1, hg2, hg15, hg16, hg17, hds⟩ := hg
      refine wpC_of_wpx (by kernel_rfl) (by kernel_rfl) (g' := (((((⟨g.v, []⟩ : Env).upd (some 1) (.slice x1b x1n x1c)).upd (some 2) x2).upd (some 15) (.slice x15b x15n x15c)).upd (some 16) (.int .i64 x16)).upd (some 17) (.int .i64 x17)) (by rw [env_ds hds, upd_self hg1, upd_self hg2, upd_self hg15, upd_self hg16, upd_self hg17]) ?_
      have e : (n7_L Kn Ke0 Kr (N + 1) x1b x1n x1c x2 x15b x15n x15c x16 x17 h) = wpx none Try.prog 32 n7_c1 (Q3 (fun z1b z1n z1c z2 z15b z15n z15c z16 z17 h => n7_L Kn Ke0 Kr N z1b z1n z1c z2 z15b z15n z15c z16 z17 h) Ke0 Kr) ((((((⟨g.v, []⟩ : Env).upd (some 1) (.slice x1b x1n x1c)).upd (some 2) x2).upd (some 15) (.slice x15b x15n x15c)).upd (some 16) (.int .i64 x16)).upd (some 17) (.int .i64 x17)) h := by kernel_rfl
      exact e ▸ hS
    refine hw.mono ?_
    intro e g' h' hq
    cases e with
    | normal => exact D3_ok (K := (fun z1b z1n z1c z2 z15b z15n z15c z16 z17 h => n7_L Kn Ke0 Kr N z1b z1n z1c z2 z15b z15n z15c z16 z17 h)) hq
    | _ => exact hq
abbrev n6 (x1b : Option Addr) (x1n : Nat) (x1c : Nat) (x2 : Value) (x15b : Option Addr) (x15n : Nat) (x15c : Nat) (x16 : Int) (x17 : Int) (Kn : T2) (Kr : T0) (h : H) : Prop := n7 x1b x1n x1c x2 x15b x15n x15c x16 x17 Kn Kn Kr h
theorem n6_ok (x1b : Option Addr) (x1n : Nat) (x1c : Nat) (x2 : Value) (x15b : Option Addr) (x15n : Nat) (x15c : Nat) (x16 : Int) (x17 : Int) (Kn : T2) (Kr : T0) (g : Env) (hg : E3 g x1b x1n x1c x2 x15b x15n x15c x16 x17) (h : H) (hS : n6 x1b x1n x1c x2 x15b x15n x15c x16 x17 Kn Kr h) : wpC none Try.prog 32 n5_c2 (Q1 Kn Kr) g h := by
  refine wpC_block' (id := 0) (x := n6_c1) (by kernel_rfl) (n7_ok x1b x1n x1c x2 x15b x15n x15c x16 x17 Kn Kn Kr g hg h hS) ?_
  intro e g' h' hq
  cases e <;> exact hq
def Q4 (Kn : T3) (Kr : T0) : XPost
  | .normal, g, h => D3 Kn g h
  | .ret, g, h => D0 Kr g h
  | _, _, _ => False
abbrev n5 (x0b : Option Addr) (x0n : Nat) (x0c : Nat) (x1b : Option Addr) (x1n : Nat) (x1c : Nat) (x2 : Value) (Kn : T2) (Kr : T0) (h : H) : Prop :=
  n6 x1b x1n x1c x2 x0b x0n x0c (x0n : Int) (0 : Int) Kn Kr h
theorem n5_ok (x0b : Option Addr) (x0n : Nat) (x0c : Nat) (x1b : Option Addr) (x1n : Nat) (x1c : Nat) (x2 : Value) (Kn : T2) (Kr : T0) (g : Env) (hg : E1 g x0b x0n x0c x1b x1n x1c x2) (h : H) (hS : n5 x0b x0n x0c x1b x1n x1c x2 Kn Kr h) : wpC none Try.prog 32 n3_c1 (Q1 Kn Kr) g h := by
  obtain ⟨hg0, hg1, hg2, hds⟩ := hg
  refine wpC_seq' (x := n5_c1) (y := n5_c2) (Q' := (Q4 (fun z1b z1n z1c z2 z15b z15n z15c z16 z17 h => n6 z1b z1n z1c z2 z15b z15n z15c z16 z17 Kn Kr h) Kr)) (by kernel_rfl) ?_ ?_
  · refine wpC_of_wpx (by kernel_rfl) (by kernel_rfl) (g' := (((⟨g.v, []⟩ : Env).upd (some 0) (.slice x0b x0n x0c)).upd (some 1) (.slice x1b x1n x1c)).upd (some 2) x2) (by rw [env_ds hds, upd_self hg0, upd_self hg1, upd_self hg2]) ?_
    have e : (n5 x0b x0n x0c x1b x1n x1c x2 Kn Kr h) = wpx none Try.prog 32 n5_c1 (Q4 (fun z1b z1n z1c z2 z15b z15n z15c z16 z17 h => n6 z1b z1n z1c z2 z15b z15n z15c z16 z17 Kn Kr h) Kr) ((((⟨g.v, []⟩ : Env).upd (some 0) (.slice x0b x0n x0c)).upd (some 1) (.slice x1b x1n x1c)).upd (some 2) x2) h := by kernel_rfl
    exact e ▸ hS
  · intro e g' h' hq
    cases e with
    | normal =>
      have hq : D3 (fun z1b z1n z1c z2 z15b z15n z15c z16 z17 h => n6 z1b z1n z1c z2 z15b z15n z15c z16 z17 Kn Kr h) g' h' := hq
      obtain ⟨y1b, y1n, y1c, y2, y15b, y15n, y15c, y16, y17, hg', hq⟩ := D3_ok hq
      exact n6_ok y1b y1n y1c y2 y15b y15n y15c y16 y17 Kn Kr g' hg' h' hq
    | _ => exact hq
abbrev n3 (x0b : Option Addr) (x0n : Nat) (x0c : Nat) (x1b : Option Addr) (x1n : Nat) (x1c : Nat) (x2 : Value) (Kn : T0) (Kr : T0) (h : H) : Prop := n5 x0b x0n x0c x1b x1n x1c x2 (fun  h => n4 Kn Kr h) Kr h
theorem n3_ok (x0b : Option Addr) (x0n : Nat) (x0c : Nat) (x1b : Option Addr) (x1n : Nat) (x1c : Nat) (x2 : Value) (Kn : T0) (Kr : T0) (g : Env) (hg : E1 g x0b x0n x0c x1b x1n x1c x2) (h : H) (hS : n3 x0b x0n x0c x1b x1n x1c x2 Kn Kr h) : wpC none Try.prog 32 n2_c2 (Q0 Kn Kr) g h := by
  refine wpC_seq' (x := n3_c1) (y := n3_c2) (by kernel_rfl) (n5_ok x0b x0n x0c x1b x1n x1c x2 (fun  h => n4 Kn Kr h) Kr g hg h hS) ?_
  intro e g' h' hq
  cases e with
  | normal =>
    have hq : D2 (fun  h => n4 Kn Kr h) g' h' := hq
    obtain ⟨hg', hq⟩ := D2_ok hq
    exact n4_ok  Kn Kr g' hg' h' hq
  | _ => exact hq
def Q5 (Kn : T1) (Kr : T0) : XPost
  | .normal, g, h => D1 Kn g h
  | .ret, g, h => D0 Kr g h
  | _, _, _ => False
abbrev n2 (x0b : Option Addr) (x0n : Nat) (x0c : Nat) (x1b : Option Addr) (x1n : Nat) (x1c : Nat) (x2 : Value) (Kn : T0) (Kr : T0) (h : H) : Prop :=
  Spl ((x0n : Int) = (x1n : Int)) (n3 x0b x0n x0c x1b x1n x1c x2 Kn Kr h) (Kr false h)
theorem n2_ok (x0b : Option Addr) (x0n : Nat) (x0c : Nat) (x1b : Option Addr) (x1n : Nat) (x1c : Nat) (x2 : Value) (Kn : T0) (Kr : T0) (g : Env) (hg : E1 g x0b x0n x0c x1b x1n x1c x2) (h : H) (hS : n2 x0b x0n x0c x1b x1n x1c x2 Kn Kr h) : wpC none Try.prog 32 n1_c2 (Q0 Kn Kr) g h := by
  obtain ⟨hg0, hg1, hg2, hds⟩ := hg
  refine wpC_seq' (x := n2_c1) (y := n2_c2) (Q' := (Q5 (fun z0b z0n z0c z1b z1n z1c z2 h => n3 z0b z0n z0c z1b z1n z1c z2 Kn Kr h) Kr)) (by kernel_rfl) ?_ ?_
  · refine wpC_of_wpx (by kernel_rfl) (by kernel_rfl) (g' := (((⟨g.v, []⟩ : Env).upd (some 0) (.slice x0b x0n x0c)).upd (some 1) (.slice x1b x1n x1c)).upd (some 2) x2) (by rw [env_ds hds, upd_self hg0, upd_self hg1, upd_self hg2]) ?_
    have e : (n2 x0b x0n x0c x1b x1n x1c x2 Kn Kr h) = wpx none Try.prog 32 n2_c1 (Q5 (fun z0b z0n z0c z1b z1n z1c z2 h => n3 z0b z0n z0c z1b z1n z1c z2 Kn Kr h) Kr) ((((⟨g.v, []⟩ : Env).upd (some 0) (.slice x0b x0n x0c)).upd (some 1) (.slice x1b x1n x1c)).upd (some 2) x2) h := by kernel_rfl
    exact e ▸ hS
  · intro e g' h' hq
    cases e with
    | normal =>
      have hq : D1 (fun z0b z0n z0c z1b z1n z1c z2 h => n3 z0b z0n z0c z1b z1n z1c z2 Kn Kr h) g' h' := hq
      obtain ⟨y0b, y0n, y0c, y1b, y1n, y1c, y2, hg', hq⟩ := D1_ok hq
      exact n3_ok y0b y0n y0c y1b y1n y1c y2 Kn Kr g' hg' h' hq
    | _ => exact hq
abbrev n1 (x0b : Option Addr) (x0n : Nat) (x0c : Nat) (x1b : Option Addr) (x1n : Nat) (x1c : Nat) (x2 : Value) (Kn : T0) (Kr : T0) (h : H) : Prop :=
  n2 x0b x0n x0c x1b x1n x1c x2 Kn Kr h
theorem n1_ok (x0b : Option Addr) (x0n : Nat) (x0c : Nat) (x1b : Option Addr) (x1n : Nat) (x1c : Nat) (x2 : Value) (Kn : T0) (Kr : T0) (g : Env) (hg : E1 g x0b x0n x0c x1b x1n x1c x2) (h : H) (hS : n1 x0b x0n x0c x1b x1n x1c x2 Kn Kr h) : wpC none Try.prog 32 code (Q0 Kn Kr) g h := by
  obtain ⟨hg0, hg1, hg2, hds⟩ := hg
  refine wpC_seq' (x := n1_c1) (y := n1_c2) (Q' := (Q5 (fun z0b z0n z0c z1b z1n z1c z2 h => n2 z0b z0n z0c z1b z1n z1c z2 Kn Kr h) Kr)) (by kernel_rfl) ?_ ?_
  · refine wpC_of_wpx (by kernel_rfl) (by kernel_rfl) (g' := (((⟨g.v, []⟩ : Env).upd (some 0) (.slice x0b x0n x0c)).upd (some 1) (.slice x1b x1n x1c)).upd (some 2) x2) (by rw [env_ds hds, upd_self hg0, upd_self hg1, upd_self hg2]) ?_
    have e : (n1 x0b x0n x0c x1b x1n x1c x2 Kn Kr h) = wpx none Try.prog 32 n1_c1 (Q5 (fun z0b z0n z0c z1b z1n z1c z2 h => n2 z0b z0n z0c z1b z1n z1c z2 Kn Kr h) Kr) ((((⟨g.v, []⟩ : Env).upd (some 0) (.slice x0b x0n x0c)).upd (some 1) (.slice x1b x1n x1c)).upd (some 2) x2) h := by kernel_rfl
    exact e ▸ hS
  · intro e g' h' hq
    cases e with
    | normal =>
      have hq : D1 (fun z0b z0n z0c z1b z1n z1c z2 h => n2 z0b z0n z0c z1b z1n z1c z2 Kn Kr h) g' h' := hq
      obtain ⟨y0b, y0n, y0c, y1b, y1n, y1c, y2, hg', hq⟩ := D1_ok hq
      exact n2_ok y0b y0n y0c y1b y1n y1c y2 Kn Kr g' hg' h' hq
    | _ => exact hq
/-- WHAT slices.EqualFunc[[]tympan/api.Node,[]tympan/api.Node,tympan/api.Node,tympan/api.Node] ASKS -/
abbrev asks (x0b : Option Addr) (x0n : Nat) (x0c : Nat) (x1b : Option Addr) (x1n : Nat) (x1c : Nat) (x2 : Value) (K : Value → H → Prop) (h : H) : Prop := n1 x0b x0n x0c x1b x1n x1c x2 (fun y6 h => K (.bool y6) h) (fun y6 h => K (.bool y6) h) h
theorem ok (x0b : Option Addr) (x0n : Nat) (x0c : Nat) (x1b : Option Addr) (x1n : Nat) (x1c : Nat) (x2 : Value) (K : Value → H → Prop) (h : H) (hS : asks x0b x0n x0c x1b x1n x1c x2 K h) : HCalls Try.prog 54 ⟨[(.slice x0b x0n x0c), (.slice x1b x1n x1c), x2]⟩ h K := by
  refine calls_of_wpC (c := code) Try.func54 (by kernel_rfl) (Nat.le_of_ble_eq_true (by kernel_rfl)) ?_
  refine (n1_ok x0b x0n x0c x1b x1n x1c x2 (fun y6 h => K (.bool y6) h) (fun y6 h => K (.bool y6) h) (env0 [(.slice x0b x0n x0c), (.slice x1b x1n x1c), x2]) ⟨rfl, rfl, rfl, rfl⟩ h hS).mono ?_
  intro e g' h' hq
  cases e with
  | normal =>
    have hq : D0 (fun y6 h => K (.bool y6) h) g' h' := hq
    obtain ⟨y6, ⟨hg6, hd⟩, hq⟩ := D0_ok hq
    show leaveX g'.ds h' _
    rw [hd]
    show K (g'.v 6) h'
    rw [hg6]
    exact hq
  | ret =>
    have hq : D0 (fun y6 h => K (.bool y6) h) g' h' := hq
    obtain ⟨y6, ⟨hg6, hd⟩, hq⟩ := D0_ok hq
    show leaveX g'.ds h' _
    rw [hd]
    show K (g'.v 6) h'
    rw [hg6]
    exact hq
  | _ => exact hq
end Sx.slices_EqualFunc_apiNode

/-! ### tympan/dom.alike -/
namespace Sx.dom_alike
noncomputable def code : Code := bodyOf Try.f55
abbrev T0 := Bool → H → Prop
def E0 (g : Env) (x4 : Bool) : Prop := g.v 4 = (.bool x4) ∧ g.ds = []
def D0 (K : T0) (g : Env) (h : H) : Prop := nilDs g.ds (vBool (g.v 4) fun b1 => K b1 h)
theorem D0_ok {K : T0} {g : Env} {h : H} (hq : D0 K g h) : ∃ (x4 : Bool), E0 g x4 ∧ K x4 h := by
  obtain ⟨hd, hq⟩ := nilDs_ok hq
  obtain ⟨y3, e2, q4⟩ := vBool_ok hq
  exact ⟨y3, ⟨e2, hd⟩, q4⟩
def Q0 (Kn : T0) (Kr : T0) : XPost
  | .normal, g, h => D0 Kn g h
  | .ret, g, h => D0 Kr g h
  | _, _, _ => False
abbrev T1 := Int → Int → (List UInt8) → (Option Addr) → Nat → Nat → (List UInt8) → (Option Addr) → Nat → Nat → Int → Int → (List UInt8) → (Option Addr) → Nat → Nat → (List UInt8) → (Option Addr) → Nat → Nat → H → Prop
def E1 (g : Env) (x0_0 : Int) (x0_1 : Int) (x0_2 : List UInt8) (x0_3b : Option Addr) (x0_3n : Nat) (x0_3c : Nat) (x0_4 : List UInt8) (x0_5b : Option Addr) (x0_5n : Nat) (x0_5c : Nat) (x1_0 : Int) (x1_1 : Int) (x1_2 : List UInt8) (x1_3b : Option Addr) (x1_3n : Nat) (x1_3c : Nat) (x1_4 : List UInt8) (x1_5b : Option Addr) (x1_5n : Nat) (x1_5c : Nat) : Prop := g.v 0 = (.agg ⟨[(.int .u8 x0_0), (.int .u8 x0_1), (S x0_2), (.slice x0_3b x0_3n x0_3c), (S x0_4), (.slice x0_5b x0_5n x0_5c)]⟩) ∧ g.v 1 = (.agg ⟨[(.int .u8 x1_0), (.int .u8 x1_1), (S x1_2), (.slice x1_3b x1_3n x1_3c), (S x1_4), (.slice x1_5b x1_5n x1_5c)]⟩) ∧ g.ds = []
def D1 (K : T1) (g : Env) (h : H) : Prop := nilDs g.ds (vAgg (g.v 0) fun l5 => uncons l5 fun e6 l7 => vInt .u8 e6 fun i8 => uncons l7 fun e9 l10 => vInt .u8 e9 fun i11 => uncons l10 fun e12 l13 => vStr e12 fun s14 => uncons l13 fun e15 l16 => vSlice e15 fun s17b s17n s17c => uncons l16 fun e18 l19 => vStr e18 fun s20 => uncons l19 fun e21 l22 => vSlice e21 fun s23b s23n s23c => unnil l22 (vAgg (g.v 1) fun l24 => uncons l24 fun e25 l26 => vInt .u8 e25 fun i27 => uncons l26 fun e28 l29 => vInt .u8 e28 fun i30 => uncons l29 fun e31 l32 => vStr e31 fun s33 => uncons l32 fun e34 l35 => vSlice e34 fun s36b s36n s36c => uncons l35 fun e37 l38 => vStr e37 fun s39 => uncons l38 fun e40 l41 => vSlice e40 fun s42b s42n s42c => unnil l41 (K i8 i11 s14 s17b s17n s17c s20 s23b s23n s23c i27 i30 s33 s36b s36n s36c s39 s42b s42n s42c h)))
theorem D1_ok {K : T1} {g : Env} {h : H} (hq : D1 K g h) : ∃ (x0_0 : Int) (x0_1 : Int) (x0_2 : List UInt8) (x0_3b : Option Addr) (x0_3n : Nat) (x0_3c : Nat) (x0_4 : List UInt8) (x0_5b : Option Addr) (x0_5n : Nat) (x0_5c : Nat) (x1_0 : Int) (x1_1 : Int) (x1_2 : List UInt8) (x1_3b : Option Addr) (x1_3n : Nat) (x1_3c : Nat) (x1_4 : List UInt8) (x1_5b : Option Addr) (x1_5n : Nat) (x1_5c : Nat), E1 g x0_0 x0_1 x0_2 x0_3b x0_3n x0_3c x0_4 x0_5b x0_5n x0_5c x1_0 x1_1 x1_2 x1_3b x1_3n x1_3c x1_4 x1_5b x1_5n x1_5c ∧ K x0_0 x0_1 x0_2 x0_3b x0_3n x0_3c x0_4 x0_5b x0_5n x0_5c x1_0 x1_1 x1_2 x1_3b x1_3n x1_3c x1_4 x1_5b x1_5n x1_5c h := by
  obtain ⟨hd, hq⟩ := nilDs_ok hq
  obtain ⟨l44, e43, q45⟩ := vAgg_ok hq
  obtain ⟨u46, l47, rfl, q48⟩ := uncons_ok q45
  obtain ⟨y49, rfl, q50⟩ := vInt_ok q48
  obtain ⟨u51, l52, rfl, q53⟩ := uncons_ok q50
  obtain ⟨y54, rfl, q55⟩ := vInt_ok q53
  obtain ⟨u56, l57, rfl, q58⟩ := uncons_ok q55
  obtain ⟨y59, rfl, q60⟩ := vStr_ok q58
  obtain ⟨u61, l62, rfl, q63⟩ := uncons_ok q60
  obtain ⟨y64b, y64n, y64c, rfl, q65⟩ := vSlice_ok q63
  obtain ⟨u66, l67, rfl, q68⟩ := uncons_ok q65
  obtain ⟨y69, rfl, q70⟩ := vStr_ok q68
  obtain ⟨u71, l72, rfl, q73⟩ := uncons_ok q70
  obtain ⟨y74b, y74n, y74c, rfl, q75⟩ := vSlice_ok q73
  obtain ⟨rfl, q76⟩ := unnil_ok q75
  obtain ⟨l78, e77, q79⟩ := vAgg_ok q76
  obtain ⟨u80, l81, rfl, q82⟩ := uncons_ok q79
  obtain ⟨y83, rfl, q84⟩ := vInt_ok q82
  obtain ⟨u85, l86, rfl, q87⟩ := uncons_ok q84
  obtain ⟨y88, rfl, q89⟩ := vInt_ok q87
  obtain ⟨u90, l91, rfl, q92⟩ := uncons_ok q89
  obtain ⟨y93, rfl, q94⟩ := vStr_ok q92
  obtain ⟨u95, l96, rfl, q97⟩ := uncons_ok q94
  obtain ⟨y98b, y98n, y98c, rfl, q99⟩ := vSlice_ok q97
  obtain ⟨u100, l101, rfl, q102⟩ := uncons_ok q99
  obtain ⟨y103, rfl, q104⟩ := vStr_ok q102
  obtain ⟨u105, l106, rfl, q107⟩ := uncons_ok q104
  obtain ⟨y108b, y108n, y108c, rfl, q109⟩ := vSlice_ok q107
  obtain ⟨rfl, q110⟩ := unnil_ok q109
  exact ⟨y49, y54, y59, y64b, y64n, y64c, y69, y74b, y74n, y74c, y83, y88, y93, y98b, y98n, y98c, y103, y108b, y108n, y108c, ⟨e43, e77, hd⟩, q110⟩
noncomputable def n1_c1 : Code := cFst code
noncomputable def n1_c2 : Code := cSnd code
abbrev T2 := Addr → Addr → H → Prop
def E2 (g : Env) (x2 : Addr) (x3 : Addr) : Prop := g.v 2 = (.pointer (some x2)) ∧ g.v 3 = (.pointer (some x3)) ∧ g.ds = []
def D2 (K : T2) (g : Env) (h : H) : Prop := nilDs g.ds (vAddr (g.v 2) fun a111 => vAddr (g.v 3) fun a112 => K a111 a112 h)
theorem D2_ok {K : T2} {g : Env} {h : H} (hq : D2 K g h) : ∃ (x2 : Addr) (x3 : Addr), E2 g x2 x3 ∧ K x2 x3 h := by
  obtain ⟨hd, hq⟩ := nilDs_ok hq
  obtain ⟨y114, e113, q115⟩ := vAddr_ok hq
  obtain ⟨y117, e116, q118⟩ := vAddr_ok q115
  exact ⟨y114, y117, ⟨e113, e116, hd⟩, q118⟩
noncomputable def n2_c1 : Code := cFst n1_c2
noncomputable def n2_c2 : Code := cSnd n1_c2
abbrev n3 (x2 : Addr) (x3 : Addr) (Kn : T0) (Kr : T0) (h : H) : Prop :=
  ∃ i119, cell h (x2.add 1) = some (.int .u8 i119) ∧ (∃ i120, cell h (x3.add 1) = some (.int .u8 i120) ∧ (Spl (i119 = i120) (∃ s121, cell h (x2.add 2) = some (S s121) ∧ (∃ s122, cell h (x3.add 2) = some (S s122) ∧ (Spl (s121 = s122) (∃ s123b s123n s123c, cell h (x2.add 3) = some (.slice s123b s123n s123c) ∧ (∃ s124b s124n s124c, cell h (x3.add 3) = some (.slice s124b s124n s124c) ∧ (HCalls Try.prog 67 ⟨[(.slice s123b s123n s123c), (.slice s124b s124n s124c)]⟩ h fun v125 h126 => vBool v125 fun b127 => cond b127 (∃ s128b s128n s128c, cell h126 (x2.add 5) = some (.slice s128b s128n s128c) ∧ (∃ s129b s129n s129c, cell h126 (x3.add 5) = some (.slice s129b s129n s129c) ∧ (HCalls Try.prog 30 ⟨[(.slice s128b s128n s128c), (.slice s129b s129n s129c)]⟩ h126 fun v130 h131 => vBool v130 fun b132 => cond b132 (Kr true h131) (Kr false h131)))) (Kr false h126)))) (Kr false h)))) (Kr false h)))
theorem n3_ok (x2 : Addr) (x3 : Addr) (Kn : T0) (Kr : T0) (g : Env) (hg : E2 g x2 x3) (h : H) (hS : n3 x2 x3 Kn Kr h) : wpC none Try.prog 53 n2_c2 (Q0 Kn Kr) g h := by
  obtain ⟨hg2, hg3, hds⟩ := hg
  refine wpC_of_wpx (by kernel_rfl) (by kernel_rfl) (g' := ((⟨g.v, []⟩ : Env).upd (some 2) (.pointer (some x2))).upd (some 3) (.pointer (some x3))) (by rw [env_ds hds, upd_self hg2, upd_self hg3]) ?_
  have e : (n3 x2 x3 Kn Kr h) = wpx none Try.prog 53 n2_c2 (Q0 Kn Kr) (((⟨g.v, []⟩ : Env).upd (some 2) (.pointer (some x2))).upd (some 3) (.pointer (some x3))) h := by kernel_rfl
  exact e ▸ hS
def Q1 (Kn : T2) (Kr : T0) : XPost
  | .normal, g, h => D2 Kn g h
  | .ret, g, h => D0 Kr g h
  | _, _, _ => False
noncomputable def n4_c1 : Code := cFst n2_c1
def Q2 (Kn : T2) (Ke0 : T2) (Kr : T0) : XPost
  | .normal, g, h => D2 Kn g h
  | .ret, g, h => D0 Kr g h
  | .exit id, g, h => cond (Nat.beq id 0) (D2 Ke0 g h) (False)
  | _, _, _ => False
noncomputable def n5_c1 : Code := cFst n4_c1
noncomputable def n5_c2 : Code := cSnd n4_c1
abbrev T3 := Addr → Addr → Bool → H → Prop
def E3 (g : Env) (x2 : Addr) (x3 : Addr) (x5 : Bool) : Prop := g.v 2 = (.pointer (some x2)) ∧ g.v 3 = (.pointer (some x3)) ∧ g.v 5 = (.bool x5) ∧ g.ds = []
def D3 (K : T3) (g : Env) (h : H) : Prop := nilDs g.ds (vAddr (g.v 2) fun a133 => vAddr (g.v 3) fun a134 => vBool (g.v 5) fun b135 => K a133 a134 b135 h)
theorem D3_ok {K : T3} {g : Env} {h : H} (hq : D3 K g h) : ∃ (x2 : Addr) (x3 : Addr) (x5 : Bool), E3 g x2 x3 x5 ∧ K x2 x3 x5 h := by
  obtain ⟨hd, hq⟩ := nilDs_ok hq
  obtain ⟨y137, e136, q138⟩ := vAddr_ok hq
  obtain ⟨y140, e139, q141⟩ := vAddr_ok q138
  obtain ⟨y143, e142, q144⟩ := vBool_ok q141
  exact ⟨y137, y140, y143, ⟨e136, e139, e142, hd⟩, q144⟩
noncomputable def n6_c1 : Code := cFst n5_c2
noncomputable def n6_c2 : Code := cSnd n5_c2
abbrev T4 := H → Prop
def E4 (g : Env)  : Prop := g.ds = []
def D4 (K : T4) (g : Env) (h : H) : Prop := nilDs g.ds (K h)
theorem D4_ok {K : T4} {g : Env} {h : H} (hq : D4 K g h) : E4 g  ∧ K  h := by
  obtain ⟨hd, hq⟩ := nilDs_ok hq
  skip
  exact ⟨hd, hq⟩
abbrev n7  (Kn : T2) (Ke0 : T2) (Kr : T0) (h : H) : Prop :=
  Kr false h
theorem n7_ok  (Kn : T2) (Ke0 : T2) (Kr : T0) (g : Env) (hg : E4 g ) (h : H) (hS : n7  Kn Ke0 Kr h) : wpC none Try.prog 53 n6_c1 (Q2 Kn Ke0 Kr) g h := by
  have hds : g.ds = [] := hg
  refine wpC_of_wpx (by kernel_rfl) (by kernel_rfl) (g' := ⟨g.v, []⟩) (by rw [env_ds hds]) ?_
  have e : (n7  Kn Ke0 Kr h) = wpx none Try.prog 53 n6_c1 (Q2 Kn Ke0 Kr) (⟨g.v, []⟩) h := by kernel_rfl
  exact e ▸ hS
noncomputable def n8_c1 : Code := cFst n6_c2
noncomputable def n8_c2 : Code := cSnd n6_c2
abbrev T5 := Addr → Addr → Bool → H → Prop
def E5 (g : Env) (x2 : Addr) (x3 : Addr) (x11 : Bool) : Prop := g.v 2 = (.pointer (some x2)) ∧ g.v 3 = (.pointer (some x3)) ∧ g.v 11 = (.bool x11) ∧ g.ds = []
def D5 (K : T5) (g : Env) (h : H) : Prop := nilDs g.ds (vAddr (g.v 2) fun a145 => vAddr (g.v 3) fun a146 => vBool (g.v 11) fun b147 => K a145 a146 b147 h)
theorem D5_ok {K : T5} {g : Env} {h : H} (hq : D5 K g h) : ∃ (x2 : Addr) (x3 : Addr) (x11 : Bool), E5 g x2 x3 x11 ∧ K x2 x3 x11 h := by
  obtain ⟨hd, hq⟩ := nilDs_ok hq
  obtain ⟨y149, e148, q150⟩ := vAddr_ok hq
  obtain ⟨y152, e151, q153⟩ := vAddr_ok q150
  obtain ⟨y155, e154, q156⟩ := vBool_ok q153
  exact ⟨y149, y152, y155, ⟨e148, e151, e154, hd⟩, q156⟩
abbrev n9 (x2 : Addr) (x3 : Addr) (x11 : Bool) (Kn : T2) (Ke0 : T2) (Kr : T0) (h : H) : Prop :=
  cond x11 (∃ s157, cell h (x2.add 4) = some (S s157) ∧ (∃ s158, cell h (x3.add 4) = some (S s158) ∧ (Spl (s157 = s158) (Kr true h) (Kr false h)))) (∃ i159, cell h (x2.add 0) = some (.int .u8 i159) ∧ (Spl (i159 = (1 : Int)) (Kn x2 x3 h) (Kr true h)))
theorem n9_ok (x2 : Addr) (x3 : Addr) (x11 : Bool) (Kn : T2) (Ke0 : T2) (Kr : T0) (g : Env) (hg : E5 g x2 x3 x11) (h : H) (hS : n9 x2 x3 x11 Kn Ke0 Kr h) : wpC none Try.prog 53 n8_c2 (Q2 Kn Ke0 Kr) g h := by
  obtain ⟨hg2, hg3, hg11, hds⟩ := hg
  refine wpC_of_wpx (by kernel_rfl) (by kernel_rfl) (g' := (((⟨g.v, []⟩ : Env).upd (some 2) (.pointer (some x2))).upd (some 3) (.pointer (some x3))).upd (some 11) (.bool x11)) (by rw [env_ds hds, upd_self hg2, upd_self hg3, upd_self hg11]) ?_
  have e : (n9 x2 x3 x11 Kn Ke0 Kr h) = wpx none Try.prog 53 n8_c2 (Q2 Kn Ke0 Kr) ((((⟨g.v, []⟩ : Env).upd (some 2) (.pointer (some x2))).upd (some 3) (.pointer (some x3))).upd (some 11) (.bool x11)) h := by kernel_rfl
  exact e ▸ hS
def Q3 (Kn : T5) (Ke0 : T2) (Kr : T0) : XPost
  | .normal, g, h => D5 Kn g h
  | .ret, g, h => D0 Kr g h
  | .exit id, g, h => cond (Nat.beq id 0) (D2 Ke0 g h) (False)
  | _, _, _ => False
abbrev n8 (x2 : Addr) (x3 : Addr) (Kn : T2) (Ke0 : T2) (Kr : T0) (h : H) : Prop :=
  ∃ i160, cell h (x2.add 0) = some (.int .u8 i160) ∧ (Spl (i160 = (2 : Int)) (n9 x2 x3 true Kn Ke0 Kr h) (∃ i161, cell h (x2.add 0) = some (.int .u8 i161) ∧ (Spl (i161 = (3 : Int)) (n9 x2 x3 true Kn Ke0 Kr h) (n9 x2 x3 false Kn Ke0 Kr h))))
theorem n8_ok (x2 : Addr) (x3 : Addr) (Kn : T2) (Ke0 : T2) (Kr : T0) (g : Env) (hg : E2 g x2 x3) (h : H) (hS : n8 x2 x3 Kn Ke0 Kr h) : wpC none Try.prog 53 n6_c2 (Q2 Kn Ke0 Kr) g h := by
  obtain ⟨hg2, hg3, hds⟩ := hg
  refine wpC_seq' (x := n8_c1) (y := n8_c2) (Q' := (Q3 (fun z2 z3 z11 h => n9 z2 z3 z11 Kn Ke0 Kr h) Ke0 Kr)) (by kernel_rfl) ?_ ?_
  · refine wpC_of_wpx (by kernel_rfl) (by kernel_rfl) (g' := ((⟨g.v, []⟩ : Env).upd (some 2) (.pointer (some x2))).upd (some 3) (.pointer (some x3))) (by rw [env_ds hds, upd_self hg2, upd_self hg3]) ?_
    have e : (n8 x2 x3 Kn Ke0 Kr h) = wpx none Try.prog 53 n8_c1 (Q3 (fun z2 z3 z11 h => n9 z2 z3 z11 Kn Ke0 Kr h) Ke0 Kr) (((⟨g.v, []⟩ : Env).upd (some 2) (.pointer (some x2))).upd (some 3) (.pointer (some x3))) h := by kernel_rfl
    exact e ▸ hS
  · intro e g' h' hq
    cases e with
    | normal =>
      have hq : D5 (fun z2 z3 z11 h => n9 z2 z3 z11 Kn Ke0 Kr h) g' h' := hq
      obtain ⟨y2, y3, y11, hg', hq⟩ := D5_ok hq
      exact n9_ok y2 y3 y11 Kn Ke0 Kr g' hg' h' hq
    | _ => exact hq
abbrev n6 (x2 : Addr) (x3 : Addr) (x5 : Bool) (Kn : T2) (Ke0 : T2) (Kr : T0) (h : H) : Prop := cond x5 (n7  Kn Ke0 Kr h) (n8 x2 x3 Kn Ke0 Kr h)
theorem n6_ok (x2 : Addr) (x3 : Addr) (x5 : Bool) (Kn : T2) (Ke0 : T2) (Kr : T0) (g : Env) (hg : E3 g x2 x3 x5) (h : H) (hS : n6 x2 x3 x5 Kn Ke0 Kr h) : wpC none Try.prog 53 n5_c2 (Q2 Kn Ke0 Kr) g h := by
  obtain ⟨hg2, hg3, hg5, hds⟩ := hg
  have hx : evalE 53 g (.tmp 5) = .bool x5 := by
    show cond (Nat.blt 5 53) (g.v 5) undef = _
    rw [hg5]; rfl
  unfold n6 at hS
  refine wpC_cond' (o := .tmp 5) (x := n6_c1) (y := n6_c2) (by kernel_rfl) hx (fun hb => ?_) (fun hb => ?_)
  · subst hb
    exact n7_ok  Kn Ke0 Kr g hds h hS
  · subst hb
    exact n8_ok x2 x3 Kn Ke0 Kr g ⟨hg2, hg3, hds⟩ h hS
def Q4 (Kn : T3) (Ke0 : T2) (Kr : T0) : XPost
  | .normal, g, h => D3 Kn g h
  | .ret, g, h => D0 Kr g h
  | .exit id, g, h => cond (Nat.beq id 0) (D2 Ke0 g h) (False)
  | _, _, _ => False
abbrev n5 (x2 : Addr) (x3 : Addr) (Kn : T2) (Ke0 : T2) (Kr : T0) (h : H) : Prop :=
  ∃ i162, cell h (x2.add 0) = some (.int .u8 i162) ∧ (∃ i163, cell h (x3.add 0) = some (.int .u8 i163) ∧ (Spl (i162 = i163) (n6 x2 x3 false Kn Ke0 Kr h) (n6 x2 x3 true Kn Ke0 Kr h)))
theorem n5_ok (x2 : Addr) (x3 : Addr) (Kn : T2) (Ke0 : T2) (Kr : T0) (g : Env) (hg : E2 g x2 x3) (h : H) (hS : n5 x2 x3 Kn Ke0 Kr h) : wpC none Try.prog 53 n4_c1 (Q2 Kn Ke0 Kr) g h := by
  obtain ⟨hg2, hg3, hds⟩ := hg
  refine wpC_seq' (x := n5_c1) (y := n5_c2) (Q' := (Q4 (fun z2 z3 z5 h => n6 z2 z3 z5 Kn Ke0 Kr h) Ke0 Kr)) (by kernel_rfl) ?_ ?_
  · refine wpC_of_wpx (by kernel_rfl) (by kernel_rfl) (g' := ((⟨g.v, []⟩ : Env).upd (some 2) (.pointer (some x2))).upd (some 3) (.pointer (some x3))) (by rw [env_ds hds, upd_self hg2, upd_self hg3]) ?_
    have e : (n5 x2 x3 Kn Ke0 Kr h) = wpx none Try.prog 53 n5_c1 (Q4 (fun z2 z3 z5 h => n6 z2 z3 z5 Kn Ke0 Kr h) Ke0 Kr) (((⟨g.v, []⟩ : Env).upd (some 2) (.pointer (some x2))).upd (some 3) (.pointer (some x3))) h := by kernel_rfl
    exact e ▸ hS
  · intro e g' h' hq
    cases e with
    | normal =>
      have hq : D3 (fun z2 z3 z5 h => n6 z2 z3 z5 Kn Ke0 Kr h) g' h' := hq
      obtain ⟨y2, y3, y5, hg', hq⟩ := D3_ok hq
      exact n6_ok y2 y3 y5 Kn Ke0 Kr g' hg' h' hq
    | _ => exact hq
abbrev n4 (x2 : Addr) (x3 : Addr) (Kn : T2) (Kr : T0) (h : H) : Prop := n5 x2 x3 Kn Kn Kr h
theorem n4_ok (x2 : Addr) (x3 : Addr) (Kn : T2) (Kr : T0) (g : Env) (hg : E2 g x2 x3) (h : H) (hS : n4 x2 x3 Kn Kr h) : wpC none Try.prog 53 n2_c1 (Q1 Kn Kr) g h := by
  refine wpC_block' (id := 0) (x := n4_c1) (by kernel_rfl) (n5_ok x2 x3 Kn Kn Kr g hg h hS) ?_
  intro e g' h' hq
  cases e <;> exact hq
abbrev n2 (x2 : Addr) (x3 : Addr) (Kn : T0) (Kr : T0) (h : H) : Prop := n4 x2 x3 (fun z2 z3 h => n3 z2 z3 Kn Kr h) Kr h
theorem n2_ok (x2 : Addr) (x3 : Addr) (Kn : T0) (Kr : T0) (g : Env) (hg : E2 g x2 x3) (h : H) (hS : n2 x2 x3 Kn Kr h) : wpC none Try.prog 53 n1_c2 (Q0 Kn Kr) g h := by
  refine wpC_seq' (x := n2_c1) (y := n2_c2) (by kernel_rfl) (n4_ok x2 x3 (fun z2 z3 h => n3 z2 z3 Kn Kr h) Kr g hg h hS) ?_
  intro e g' h' hq
  cases e with
  | normal =>
    have hq : D2 (fun z2 z3 h => n3 z2 z3 Kn Kr h) g' h' := hq
    obtain ⟨y2, y3, hg', hq⟩ := D2_ok hq
    exact n3_ok y2 y3 Kn Kr g' hg' h' hq
  | _ => exact hq
abbrev n1 (x0_0 : Int) (x0_1 : Int) (x0_2 : List UInt8) (x0_3b : Option Addr) (x0_3n : Nat) (x0_3c : Nat) (x0_4 : List UInt8) (x0_5b : Option Addr) (x0_5n : Nat) (x0_5c : Nat) (x1_0 : Int) (x1_1 : Int) (x1_2 : List UInt8) (x1_3b : Option Addr) (x1_3n : Nat) (x1_3c : Nat) (x1_4 : List UInt8) (x1_5b : Option Addr) (x1_5n : Nat) (x1_5c : Nat) (Kn : T0) (Kr : T0) (h : H) : Prop :=
  newx h ⟨[(.int .u8 x0_0), (.int .u8 x0_1), (S x0_2), (.slice x0_3b x0_3n x0_3c), (S x0_4), (.slice x0_5b x0_5n x0_5c)]⟩ 31 fun a164 h165 => newx h165 ⟨[(.int .u8 x1_0), (.int .u8 x1_1), (S x1_2), (.slice x1_3b x1_3n x1_3c), (S x1_4), (.slice x1_5b x1_5n x1_5c)]⟩ 31 fun a166 h167 => n2 a164 a166 Kn Kr h167
theorem n1_ok (x0_0 : Int) (x0_1 : Int) (x0_2 : List UInt8) (x0_3b : Option Addr) (x0_3n : Nat) (x0_3c : Nat) (x0_4 : List UInt8) (x0_5b : Option Addr) (x0_5n : Nat) (x0_5c : Nat) (x1_0 : Int) (x1_1 : Int) (x1_2 : List UInt8) (x1_3b : Option Addr) (x1_3n : Nat) (x1_3c : Nat) (x1_4 : List UInt8) (x1_5b : Option Addr) (x1_5n : Nat) (x1_5c : Nat) (Kn : T0) (Kr : T0) (g : Env) (hg : E1 g x0_0 x0_1 x0_2 x0_3b x0_3n x0_3c x0_4 x0_5b x0_5n x0_5c x1_0 x1_1 x1_2 x1_3b x1_3n x1_3c x1_4 x1_5b x1_5n x1_5c) (h : H) (hS : n1 x0_0 x0_1 x0_2 x0_3b x0_3n x0_3c x0_4 x0_5b x0_5n x0_5c x1_0 x1_1 x1_2 x1_3b x1_3n x1_3c x1_4 x1_5b x1_5n x1_5c Kn Kr h) : wpC none Try.prog 53 code (Q0 Kn Kr) g h := by
  obtain ⟨hg0, hg1, hds⟩ := hg
  refine wpC_seq' (x := n1_c1) (y := n1_c2) (Q' := (Q1 (fun z2 z3 h => n2 z2 z3 Kn Kr h) Kr)) (by kernel_rfl) ?_ ?_
  · refine wpC_of_wpx (by kernel_rfl) (by kernel_rfl) (g' := ((⟨g.v, []⟩ : Env).upd (some 0) (.agg ⟨[(.int .u8 x0_0), (.int .u8 x0_1), (S x0_2), (.slice x0_3b x0_3n x0_3c), (S x0_4), (.slice x0_5b x0_5n x0_5c)]⟩)).upd (some 1) (.agg ⟨[(.int .u8 x1_0), (.int .u8 x1_1), (S x1_2), (.slice x1_3b x1_3n x1_3c), (S x1_4), (.slice x1_5b x1_5n x1_5c)]⟩)) (by rw [env_ds hds, upd_self hg0, upd_self hg1]) ?_
    have e : (n1 x0_0 x0_1 x0_2 x0_3b x0_3n x0_3c x0_4 x0_5b x0_5n x0_5c x1_0 x1_1 x1_2 x1_3b x1_3n x1_3c x1_4 x1_5b x1_5n x1_5c Kn Kr h) = wpx none Try.prog 53 n1_c1 (Q1 (fun z2 z3 h => n2 z2 z3 Kn Kr h) Kr) (((⟨g.v, []⟩ : Env).upd (some 0) (.agg ⟨[(.int .u8 x0_0), (.int .u8 x0_1), (S x0_2), (.slice x0_3b x0_3n x0_3c), (S x0_4), (.slice x0_5b x0_5n x0_5c)]⟩)).upd (some 1) (.agg ⟨[(.int .u8 x1_0), (.int .u8 x1_1), (S x1_2), (.slice x1_3b x1_3n x1_3c), (S x1_4), (.slice x1_5b x1_5n x1_5c)]⟩)) h := by kernel_rfl
    exact e ▸ hS
  · intro e g' h' hq
    cases e with
    | normal =>
      have hq : D2 (fun z2 z3 h => n2 z2 z3 Kn Kr h) g' h' := hq
      obtain ⟨y2, y3, hg', hq⟩ := D2_ok hq
      exact n2_ok y2 y3 Kn Kr g' hg' h' hq
    | _ => exact hq
/-- WHAT tympan/dom.alike ASKS -/
abbrev asks (x0_0 : Int) (x0_1 : Int) (x0_2 : List UInt8) (x0_3b : Option Addr) (x0_3n : Nat) (x0_3c : Nat) (x0_4 : List UInt8) (x0_5b : Option Addr) (x0_5n : Nat) (x0_5c : Nat) (x1_0 : Int) (x1_1 : Int) (x1_2 : List UInt8) (x1_3b : Option Addr) (x1_3n : Nat) (x1_3c : Nat) (x1_4 : List UInt8) (x1_5b : Option Addr) (x1_5n : Nat) (x1_5c : Nat) (K : Value → H → Prop) (h : H) : Prop := n1 x0_0 x0_1 x0_2 x0_3b x0_3n x0_3c x0_4 x0_5b x0_5n x0_5c x1_0 x1_1 x1_2 x1_3b x1_3n x1_3c x1_4 x1_5b x1_5n x1_5c (fun y4 h => K (.bool y4) h) (fun y4 h => K (.bool y4) h) h
theorem ok (x0_0 : Int) (x0_1 : Int) (x0_2 : List UInt8) (x0_3b : Option Addr) (x0_3n : Nat) (x0_3c : Nat) (x0_4 : List UInt8) (x0_5b : Option Addr) (x0_5n : Nat) (x0_5c : Nat) (x1_0 : Int) (x1_1 : Int) (x1_2 : List UInt8) (x1_3b : Option Addr) (x1_3n : Nat) (x1_3c : Nat) (x1_4 : List UInt8) (x1_5b : Option Addr) (x1_5n : Nat) (x1_5c : Nat) (K : Value → H → Prop) (h : H) (hS : asks x0_0 x0_1 x0_2 x0_3b x0_3n x0_3c x0_4 x0_5b x0_5n x0_5c x1_0 x1_1 x1_2 x1_3b x1_3n x1_3c x1_4 x1_5b x1_5n x1_5c K h) : HCalls Try.prog 55 ⟨[(.agg ⟨[(.int .u8 x0_0), (.int .u8 x0_1), (S x0_2), (.slice x0_3b x0_3n x0_3c), (S x0_4), (.slice x0_5b x0_5n x0_5c)]⟩), (.agg ⟨[(.int .u8 x1_0), (.int .u8 x1_1), (S x1_2), (.slice x1_3b x1_3n x1_3c), (S x1_4), (.slice x1_5b x1_5n x1_5c)]⟩)]⟩ h K := by
  refine calls_of_wpC (c := code) Try.func55 (by kernel_rfl) (Nat.le_of_ble_eq_true (by kernel_rfl)) ?_
  refine (n1_ok x0_0 x0_1 x0_2 x0_3b x0_3n x0_3c x0_4 x0_5b x0_5n x0_5c x1_0 x1_1 x1_2 x1_3b x1_3n x1_3c x1_4 x1_5b x1_5n x1_5c (fun y4 h => K (.bool y4) h) (fun y4 h => K (.bool y4) h) (env0 [(.agg ⟨[(.int .u8 x0_0), (.int .u8 x0_1), (S x0_2), (.slice x0_3b x0_3n x0_3c), (S x0_4), (.slice x0_5b x0_5n x0_5c)]⟩), (.agg ⟨[(.int .u8 x1_0), (.int .u8 x1_1), (S x1_2), (.slice x1_3b x1_3n x1_3c), (S x1_4), (.slice x1_5b x1_5n x1_5c)]⟩)]) ⟨rfl, rfl, rfl⟩ h hS).mono ?_
  intro e g' h' hq
  cases e with
  | normal =>
    have hq : D0 (fun y4 h => K (.bool y4) h) g' h' := hq
    obtain ⟨y4, ⟨hg4, hd⟩, hq⟩ := D0_ok hq
    show leaveX g'.ds h' _
    rw [hd]
    show K (g'.v 4) h'
    rw [hg4]
    exact hq
  | ret =>
    have hq : D0 (fun y4 h => K (.bool y4) h) g' h' := hq
    obtain ⟨y4, ⟨hg4, hd⟩, hq⟩ := D0_ok hq
    show leaveX g'.ds h' _
    rw [hd]
    show K (g'.v 4) h'
    rw [hg4]
    exact hq
  | _ => exact hq
end Sx.dom_alike

/-! ### slices.Equal[[]tympan/api.Attr,tympan/api.Attr] -/
namespace Sx.slices_Equal_apiAttr
noncomputable def code : Code := bodyOf Try.f67
abbrev T0 := Bool → H → Prop
def E0 (g : Env) (x4 : Bool) : Prop := g.v 4 = (.bool x4) ∧ g.ds = []
def D0 (K : T0) (g : Env) (h : H) : Prop := nilDs g.ds (vBool (g.v 4) fun b1 => K b1 h)
theorem D0_ok {K : T0} {g : Env} {h : H} (hq : D0 K g h) : ∃ (x4 : Bool), E0 g x4 ∧ K x4 h := by
  obtain ⟨hd, hq⟩ := nilDs_ok hq
  obtain ⟨y3, e2, q4⟩ := vBool_ok hq
  exact ⟨y3, ⟨e2, hd⟩, q4⟩
def Q0 (Kn : T0) (Kr : T0) : XPost
  | .normal, g, h => D0 Kn g h
  | .ret, g, h => D0 Kr g h
  | _, _, _ => False
abbrev T1 := (Option Addr) → Nat → Nat → (Option Addr) → Nat → Nat → H → Prop
def E1 (g : Env) (x0b : Option Addr) (x0n : Nat) (x0c : Nat) (x1b : Option Addr) (x1n : Nat) (x1c : Nat) : Prop := g.v 0 = (.slice x0b x0n x0c) ∧ g.v 1 = (.slice x1b x1n x1c) ∧ g.ds = []
def D1 (K : T1) (g : Env) (h : H) : Prop := nilDs g.ds (vSlice (g.v 0) fun s5b s5n s5c => vSlice (g.v 1) fun s6b s6n s6c => K s5b s5n s5c s6b s6n s6c h)
theorem D1_ok {K : T1} {g : Env} {h : H} (hq : D1 K g h) : ∃ (x0b : Option Addr) (x0n : Nat) (x0c : Nat) (x1b : Option Addr) (x1n : Nat) (x1c : Nat), E1 g x0b x0n x0c x1b x1n x1c ∧ K x0b x0n x0c x1b x1n x1c h := by
  obtain ⟨hd, hq⟩ := nilDs_ok hq
  obtain ⟨y8b, y8n, y8c, e7, q9⟩ := vSlice_ok hq
  obtain ⟨y11b, y11n, y11c, e10, q12⟩ := vSlice_ok q9
  exact ⟨y8b, y8n, y8c, y11b, y11n, y11c, ⟨e7, e10, hd⟩, q12⟩
noncomputable def n1_c1 : Code := cFst code
noncomputable def n1_c2 : Code := cSnd code
noncomputable def n2_c1 : Code := cFst n1_c2
noncomputable def n2_c2 : Code := cSnd n1_c2
noncomputable def n3_c1 : Code := cFst n2_c2
noncomputable def n3_c2 : Code := cSnd n2_c2
abbrev T2 := H → Prop
def E2 (g : Env)  : Prop := g.ds = []
def D2 (K : T2) (g : Env) (h : H) : Prop := nilDs g.ds (K h)
theorem D2_ok {K : T2} {g : Env} {h : H} (hq : D2 K g h) : E2 g  ∧ K  h := by
  obtain ⟨hd, hq⟩ := nilDs_ok hq
  skip
  exact ⟨hd, hq⟩
abbrev n4  (Kn : T0) (Kr : T0) (h : H) : Prop :=
  Kr true h
theorem n4_ok  (Kn : T0) (Kr : T0) (g : Env) (hg : E2 g ) (h : H) (hS : n4  Kn Kr h) : wpC none Try.prog 26 n3_c2 (Q0 Kn Kr) g h := by
  have hds : g.ds = [] := hg
  refine wpC_of_wpx (by kernel_rfl) (by kernel_rfl) (g' := ⟨g.v, []⟩) (by rw [env_ds hds]) ?_
  have e : (n4  Kn Kr h) = wpx none Try.prog 26 n3_c2 (Q0 Kn Kr) (⟨g.v, []⟩) h := by kernel_rfl
  exact e ▸ hS
def Q1 (Kn : T2) (Kr : T0) : XPost
  | .normal, g, h => D2 Kn g h
  | .ret, g, h => D0 Kr g h
  | _, _, _ => False
noncomputable def n5_c1 : Code := cFst n3_c1
noncomputable def n5_c2 : Code := cSnd n3_c1
abbrev T3 := (Option Addr) → Nat → Nat → (Option Addr) → Nat → Nat → Int → Int → H → Prop
def E3 (g : Env) (x0b : Option Addr) (x0n : Nat) (x0c : Nat) (x1b : Option Addr) (x1n : Nat) (x1c : Nat) (x12 : Int) (x13 : Int) : Prop := g.v 0 = (.slice x0b x0n x0c) ∧ g.v 1 = (.slice x1b x1n x1c) ∧ g.v 12 = (.int .i64 x12) ∧ g.v 13 = (.int .i64 x13) ∧ g.ds = []
def D3 (K : T3) (g : Env) (h : H) : Prop := nilDs g.ds (vSlice (g.v 0) fun s13b s13n s13c => vSlice (g.v 1) fun s14b s14n s14c => vInt .i64 (g.v 12) fun i15 => vInt .i64 (g.v 13) fun i16 => K s13b s13n s13c s14b s14n s14c i15 i16 h)
theorem D3_ok {K : T3} {g : Env} {h : H} (hq : D3 K g h) : ∃ (x0b : Option Addr) (x0n : Nat) (x0c : Nat) (x1b : Option Addr) (x1n : Nat) (x1c : Nat) (x12 : Int) (x13 : Int), E3 g x0b x0n x0c x1b x1n x1c x12 x13 ∧ K x0b x0n x0c x1b x1n x1c x12 x13 h := by
  obtain ⟨hd, hq⟩ := nilDs_ok hq
  obtain ⟨y18b, y18n, y18c, e17, q19⟩ := vSlice_ok hq
  obtain ⟨y21b, y21n, y21c, e20, q22⟩ := vSlice_ok q19
  obtain ⟨y24, e23, q25⟩ := vInt_ok q22
  obtain ⟨y27, e26, q28⟩ := vInt_ok q25
  exact ⟨y18b, y18n, y18c, y21b, y21n, y21c, y24, y27, ⟨e17, e20, e23, e26, hd⟩, q28⟩
noncomputable def n6_c1 : Code := cFst n5_c2
def Q2 (Kn : T2) (Ke0 : T2) (Kr : T0) : XPost
  | .normal, g, h => D2 Kn g h
  | .ret, g, h => D0 Kr g h
  | .exit id, g, h => cond (Nat.beq id 0) (D2 Ke0 g h) (False)
  | _, _, _ => False
noncomputable def n7_c1 : Code := cFst n6_c1
def Q3 (Kn : T3) (Ke0 : T2) (Kr : T0) : XPost
  | .normal, g, h => D3 Kn g h
  | .ret, g, h => D0 Kr g h
  | .exit id, g, h => cond (Nat.beq id 0) (D2 Ke0 g h) (False)
  | _, _, _ => False
def n7_L (Kn : T2) (Ke0 : T2) (Kr : T0) : Nat → (Option Addr) → Nat → Nat → (Option Addr) → Nat → Nat → Int → Int → H → Prop
  | 0 => fun _ _ _ _ _ _ _ _ _ => False
  | N + 1 => fun x0b x0n x0c x1b x1n x1c x12 x13 h => Spl (x13 < x12) ((0 ≤ x13 ∧ x13 < (x0n : Int)) ∧ (vSome x0b fun a29 => ∃ s30, cell h (((a29.add (Int.toNat x13 * 2))).add 0) = some (S s30) ∧ (∃ s31, cell h (((a29.add (Int.toNat x13 * 2))).add 1) = some (S s31) ∧ ((0 ≤ x13 ∧ x13 < (x1n : Int)) ∧ (vSome x1b fun a32 => ∃ s33, cell h (((a32.add (Int.toNat x13 * 2))).add 0) = some (S s33) ∧ (∃ s34, cell h (((a32.add (Int.toNat x13 * 2))).add 1) = some (S s34) ∧ (SemR Try.prog (binS .neq 59 (.tmp 19) (.tmp 23) (.agg ⟨[(S s30), (S s31)]⟩) (.agg ⟨[(S s33), (S s34)]⟩)) h fun v35 => vBool v35 fun b36 => cond b36 (Kr false h) (Rng .i64 (x13 + (1 : Int)) ∧ (n7_L Kn Ke0 Kr N x0b x0n x0c x1b x1n x1c x12 (x13 + (1 : Int)) h))))))))) (Ke0 h)
abbrev n7 (x0b : Option Addr) (x0n : Nat) (x0c : Nat) (x1b : Option Addr) (x1n : Nat) (x1c : Nat) (x12 : Int) (x13 : Int) (Kn : T2) (Ke0 : T2) (Kr : T0) (h : H) : Prop := ∃ N, n7_L Kn Ke0 Kr N x0b x0n x0c x1b x1n x1c x12 x13 h
theorem n7_ok (x0b : Option Addr) (x0n : Nat) (x0c : Nat) (x1b : Option Addr) (x1n : Nat) (x1c : Nat) (x12 : Int) (x13 : Int) (Kn : T2) (Ke0 : T2) (Kr : T0) (g : Env) (hg : E3 g x0b x0n x0c x1b x1n x1c x12 x13) (h : H) (hS : n7 x0b x0n x0c x1b x1n x1c x12 x13 Kn Ke0 Kr h) : wpC none Try.prog 26 n6_c1 (Q2 Kn Ke0 Kr) g h := by
  obtain ⟨N0, hS⟩ := hS
  refine wpC_loop' (x := n7_c1) (by kernel_rfl) (fun k g h => ∃ (x0b : Option Addr) (x0n : Nat) (x0c : Nat) (x1b : Option Addr) (x1n : Nat) (x1c : Nat) (x12 : Int) (x13 : Int), E3 g x0b x0n x0c x1b x1n x1c x12 x13 ∧ n7_L Kn Ke0 Kr k x0b x0n x0c x1b x1n x1c x12 x13 h) (fun g h hr => ?_) (fun N g h hr => ?_) N0 ⟨x0b, x0n, x0c, x1b, x1n, x1c, x12, x13, hg, hS⟩
  · obtain ⟨x0b, x0n, x0c, x1b, x1n, x1c, x12, x13, hg, hS⟩ := hr
    exact hS.elim
  · obtain ⟨x0b, x0n, x0c, x1b, x1n, x1c, x12, x13, hg, hS⟩ := hr
    have hw : wpC none Try.prog 26 n7_c1 (Q3 (fun z0b z0n z0c z1b z1n z1c z12 z13 h => n7_L Kn Ke0 Kr N z0b z0n z0c z1b z1n z1c z12 z13 h) Ke0 Kr) g h := by
      obtain ⟨hg0, hg1, hg12, hg13, hds⟩ := hg
      refine wpC_of_wpx (by kernel_rfl) (by kernel_rfl) (g' := ((((⟨g.v, []⟩ : Env).upd (some 0) (.slice x0b x0n x0c)).upd (some 1) (.slice x1b x1n x1c)).upd (some 12) (.int .i64 x12)).upd (some 13) (.int .i64 x13)) (by rw [env_ds hds, upd_self hg0, upd_self hg1, upd_self hg12, upd_self hg13]) ?_
      have e : (n7_L Kn Ke0 Kr (N + 1) x0b x0n x0c x1b x1n x1c x12 x13 h) = wpx none Try.prog 26 n7_c1 (Q3 (fun z0b z0n z0c z1b z1n z1c z12 z13 h => n7_L Kn Ke0 Kr N z0b z0n z0c z1b z1n z1c z12 z13 h) Ke0 Kr) (((((⟨g.v, []⟩ : Env).upd (some 0) (.slice x0b x0n x0c)).upd (some 1) (.slice x1b x1n x1c)).upd (some 12) (.int .i64 x12)).upd (some 13) (.int .i64 x13)) h := by kernel_rfl
      exact e ▸ hS
    refine hw.mono ?_
    intro e g' h' hq
    cases e with
    | normal => exact D3_ok (K := (fun z0b z0n z0c z1b z1n z1c z12 z13 h => n7_L Kn Ke0 Kr N z0b z0n z0c z1b z1n z1c z12 z13 h)) hq
    | _ => exact hq
abbrev n6 (x0b : Option Addr) (x0n : Nat) (x0c : Nat) (x1b : Option Addr) (x1n : Nat) (x1c : Nat) (x12 : Int) (x13 : Int) (Kn : T2) (Kr : T0) (h : H) : Prop := n7 x0b x0n x0c x1b x1n x1c x12 x13 Kn Kn Kr h
theorem n6_ok (x0b : Option Addr) (x0n : Nat) (x0c : Nat) (x1b : Option Addr) (x1n : Nat) (x1c : Nat) (x12 : Int) (x13 : Int) (Kn : T2) (Kr : T0) (g : Env) (hg : E3 g x0b x0n x0c x1b x1n x1c x12 x13) (h : H) (hS : n6 x0b x0n x0c x1b x1n x1c x12 x13 Kn Kr h) : wpC none Try.prog 26 n5_c2 (Q1 Kn Kr) g h := by
  refine wpC_block' (id := 0) (x := n6_c1) (by kernel_rfl) (n7_ok x0b x0n x0c x1b x1n x1c x12 x13 Kn Kn Kr g hg h hS) ?_
  intro e g' h' hq
  cases e <;> exact hq
def Q4 (Kn : T3) (Kr : T0) : XPost
  | .normal, g, h => D3 Kn g h
  | .ret, g, h => D0 Kr g h
  | _, _, _ => False
abbrev n5 (x0b : Option Addr) (x0n : Nat) (x0c : Nat) (x1b : Option Addr) (x1n : Nat) (x1c : Nat) (Kn : T2) (Kr : T0) (h : H) : Prop :=
  n6 x0b x0n x0c x1b x1n x1c (x0n : Int) (0 : Int) Kn Kr h
theorem n5_ok (x0b : Option Addr) (x0n : Nat) (x0c : Nat) (x1b : Option Addr) (x1n : Nat) (x1c : Nat) (Kn : T2) (Kr : T0) (g : Env) (hg : E1 g x0b x0n x0c x1b x1n x1c) (h : H) (hS : n5 x0b x0n x0c x1b x1n x1c Kn Kr h) : wpC none Try.prog 26 n3_c1 (Q1 Kn Kr) g h := by
  obtain ⟨hg0, hg1, hds⟩ := hg
  refine wpC_seq' (x := n5_c1) (y := n5_c2) (Q' := (Q4 (fun z0b z0n z0c z1b z1n z1c z12 z13 h => n6 z0b z0n z0c z1b z1n z1c z12 z13 Kn Kr h) Kr)) (by kernel_rfl) ?_ ?_
  · refine wpC_of_wpx (by kernel_rfl) (by kernel_rfl) (g' := ((⟨g.v, []⟩ : Env).upd (some 0) (.slice x0b x0n x0c)).upd (some 1) (.slice x1b x1n x1c)) (by rw [env_ds hds, upd_self hg0, upd_self hg1]) ?_
    have e : (n5 x0b x0n x0c x1b x1n x1c Kn Kr h) = wpx none Try.prog 26 n5_c1 (Q4 (fun z0b z0n z0c z1b z1n z1c z12 z13 h => n6 z0b z0n z0c z1b z1n z1c z12 z13 Kn Kr h) Kr) (((⟨g.v, []⟩ : Env).upd (some 0) (.slice x0b x0n x0c)).upd (some 1) (.slice x1b x1n x1c)) h := by kernel_rfl
    exact e ▸ hS
  · intro e g' h' hq
    cases e with
    | normal =>
      have hq : D3 (fun z0b z0n z0c z1b z1n z1c z12 z13 h => n6 z0b z0n z0c z1b z1n z1c z12 z13 Kn Kr h) g' h' := hq
      obtain ⟨y0b, y0n, y0c, y1b, y1n, y1c, y12, y13, hg', hq⟩ := D3_ok hq
      exact n6_ok y0b y0n y0c y1b y1n y1c y12 y13 Kn Kr g' hg' h' hq
    | _ => exact hq
abbrev n3 (x0b : Option Addr) (x0n : Nat) (x0c : Nat) (x1b : Option Addr) (x1n : Nat) (x1c : Nat) (Kn : T0) (Kr : T0) (h : H) : Prop := n5 x0b x0n x0c x1b x1n x1c (fun  h => n4 Kn Kr h) Kr h
theorem n3_ok (x0b : Option Addr) (x0n : Nat) (x0c : Nat) (x1b : Option Addr) (x1n : Nat) (x1c : Nat) (Kn : T0) (Kr : T0) (g : Env) (hg : E1 g x0b x0n x0c x1b x1n x1c) (h : H) (hS : n3 x0b x0n x0c x1b x1n x1c Kn Kr h) : wpC none Try.prog 26 n2_c2 (Q0 Kn Kr) g h := by
  refine wpC_seq' (x := n3_c1) (y := n3_c2) (by kernel_rfl) (n5_ok x0b x0n x0c x1b x1n x1c (fun  h => n4 Kn Kr h) Kr g hg h hS) ?_
  intro e g' h' hq
  cases e with
  | normal =>
    have hq : D2 (fun  h => n4 Kn Kr h) g' h' := hq
    obtain ⟨hg', hq⟩ := D2_ok hq
    exact n4_ok  Kn Kr g' hg' h' hq
  | _ => exact hq
def Q5 (Kn : T1) (Kr : T0) : XPost
  | .normal, g, h => D1 Kn g h
  | .ret, g, h => D0 Kr g h
  | _, _, _ => False
abbrev n2 (x0b : Option Addr) (x0n : Nat) (x0c : Nat) (x1b : Option Addr) (x1n : Nat) (x1c : Nat) (Kn : T0) (Kr : T0) (h : H) : Prop :=
  Spl ((x0n : Int) = (x1n : Int)) (n3 x0b x0n x0c x1b x1n x1c Kn Kr h) (Kr false h)
theorem n2_ok (x0b : Option Addr) (x0n : Nat) (x0c : Nat) (x1b : Option Addr) (x1n : Nat) (x1c : Nat) (Kn : T0) (Kr : T0) (g : Env) (hg : E1 g x0b x0n x0c x1b x1n x1c) (h : H) (hS : n2 x0b x0n x0c x1b x1n x1c Kn Kr h) : wpC none Try.prog 26 n1_c2 (Q0 Kn Kr) g h := by
  obtain ⟨hg0, hg1, hds⟩ := hg
  refine wpC_seq' (x := n2_c1) (y := n2_c2) (Q' := (Q5 (fun z0b z0n z0c z1b z1n z1c h => n3 z0b z0n z0c z1b z1n z1c Kn Kr h) Kr)) (by kernel_rfl) ?_ ?_
  · refine wpC_of_wpx (by kernel_rfl) (by kernel_rfl) (g' := ((⟨g.v, []⟩ : Env).upd (some 0) (.slice x0b x0n x0c)).upd (some 1) (.slice x1b x1n x1c)) (by rw [env_ds hds, upd_self hg0, upd_self hg1]) ?_
    have e : (n2 x0b x0n x0c x1b x1n x1c Kn Kr h) = wpx none Try.prog 26 n2_c1 (Q5 (fun z0b z0n z0c z1b z1n z1c h => n3 z0b z0n z0c z1b z1n z1c Kn Kr h) Kr) (((⟨g.v, []⟩ : Env).upd (some 0) (.slice x0b x0n x0c)).upd (some 1) (.slice x1b x1n x1c)) h := by kernel_rfl
    exact e ▸ hS
  · intro e g' h' hq
    cases e with
    | normal =>
      have hq : D1 (fun z0b z0n z0c z1b z1n z1c h => n3 z0b z0n z0c z1b z1n z1c Kn Kr h) g' h' := hq
      obtain ⟨y0b, y0n, y0c, y1b, y1n, y1c, hg', hq⟩ := D1_ok hq
      exact n3_ok y0b y0n y0c y1b y1n y1c Kn Kr g' hg' h' hq
    | _ => exact hq
abbrev n1 (x0b : Option Addr) (x0n : Nat) (x0c : Nat) (x1b : Option Addr) (x1n : Nat) (x1c : Nat) (Kn : T0) (Kr : T0) (h : H) : Prop :=
  n2 x0b x0n x0c x1b x1n x1c Kn Kr h
theorem n1_ok (x0b : Option Addr) (x0n : Nat) (x0c : Nat) (x1b : Option Addr) (x1n : Nat) (x1c : Nat) (Kn : T0) (Kr : T0) (g : Env) (hg : E1 g x0b x0n x0c x1b x1n x1c) (h : H) (hS : n1 x0b x0n x0c x1b x1n x1c Kn Kr h) : wpC none Try.prog 26 code (Q0 Kn Kr) g h := by
  obtain ⟨hg0, hg1, hds⟩ := hg
  refine wpC_seq' (x := n1_c1) (y := n1_c2) (Q' := (Q5 (fun z0b z0n z0c z1b z1n z1c h => n2 z0b z0n z0c z1b z1n z1c Kn Kr h) Kr)) (by kernel_rfl) ?_ ?_
  · refine wpC_of_wpx (by kernel_rfl) (by kernel_rfl) (g' := ((⟨g.v, []⟩ : Env).upd (some 0) (.slice x0b x0n x0c)).upd (some 1) (.slice x1b x1n x1c)) (by rw [env_ds hds, upd_self hg0, upd_self hg1]) ?_
    have e : (n1 x0b x0n x0c x1b x1n x1c Kn Kr h) = wpx none Try.prog 26 n1_c1 (Q5 (fun z0b z0n z0c z1b z1n z1c h => n2 z0b z0n z0c z1b z1n z1c Kn Kr h) Kr) (((⟨g.v, []⟩ : Env).upd (some 0) (.slice x0b x0n x0c)).upd (some 1) (.slice x1b x1n x1c)) h := by kernel_rfl
    exact e ▸ hS
  · intro e g' h' hq
    cases e with
    | normal =>
      have hq : D1 (fun z0b z0n z0c z1b z1n z1c h => n2 z0b z0n z0c z1b z1n z1c Kn Kr h) g' h' := hq
      obtain ⟨y0b, y0n, y0c, y1b, y1n, y1c, hg', hq⟩ := D1_ok hq
      exact n2_ok y0b y0n y0c y1b y1n y1c Kn Kr g' hg' h' hq
    | _ => exact hq
/-- WHAT slices.Equal[[]tympan/api.Attr,tympan/api.Attr] ASKS -/
abbrev asks (x0b : Option Addr) (x0n : Nat) (x0c : Nat) (x1b : Option Addr) (x1n : Nat) (x1c : Nat) (K : Value → H → Prop) (h : H) : Prop := n1 x0b x0n x0c x1b x1n x1c (fun y4 h => K (.bool y4) h) (fun y4 h => K (.bool y4) h) h
theorem ok (x0b : Option Addr) (x0n : Nat) (x0c : Nat) (x1b : Option Addr) (x1n : Nat) (x1c : Nat) (K : Value → H → Prop) (h : H) (hS : asks x0b x0n x0c x1b x1n x1c K h) : HCalls Try.prog 67 ⟨[(.slice x0b x0n x0c), (.slice x1b x1n x1c)]⟩ h K := by
  refine calls_of_wpC (c := code) Try.func67 (by kernel_rfl) (Nat.le_of_ble_eq_true (by kernel_rfl)) ?_
  refine (n1_ok x0b x0n x0c x1b x1n x1c (fun y4 h => K (.bool y4) h) (fun y4 h => K (.bool y4) h) (env0 [(.slice x0b x0n x0c), (.slice x1b x1n x1c)]) ⟨rfl, rfl, rfl⟩ h hS).mono ?_
  intro e g' h' hq
  cases e with
  | normal =>
    have hq : D0 (fun y4 h => K (.bool y4) h) g' h' := hq
    obtain ⟨y4, ⟨hg4, hd⟩, hq⟩ := D0_ok hq
    show leaveX g'.ds h' _
    rw [hd]
    show K (g'.v 4) h'
    rw [hg4]
    exact hq
  | ret =>
    have hq : D0 (fun y4 h => K (.bool y4) h) g' h' := hq
    obtain ⟨y4, ⟨hg4, hd⟩, hq⟩ := D0_ok hq
    show leaveX g'.ds h' _
    rw [hd]
    show K (g'.v 4) h'
    rw [hg4]
    exact hq
  | _ => exact hq
end Sx.slices_Equal_apiAttr

/-! ### tympan/tympanref10.Same -/
namespace Sx.r10_Same
noncomputable def code : Code := bodyOf Try.f31
abbrev T0 := Bool → H → Prop
def E0 (g : Env) (x4 : Bool) : Prop := g.v 4 = (.bool x4) ∧ g.ds = []
def D0 (K : T0) (g : Env) (h : H) : Prop := nilDs g.ds (vBool (g.v 4) fun b1 => K b1 h)
theorem D0_ok {K : T0} {g : Env} {h : H} (hq : D0 K g h) : ∃ (x4 : Bool), E0 g x4 ∧ K x4 h := by
  obtain ⟨hd, hq⟩ := nilDs_ok hq
  obtain ⟨y3, e2, q4⟩ := vBool_ok hq
  exact ⟨y3, ⟨e2, hd⟩, q4⟩
def Q0 (Kn : T0) (Kr : T0) : XPost
  | .normal, g, h => D0 Kn g h
  | .ret, g, h => D0 Kr g h
  | _, _, _ => False
abbrev T1 := (Option Addr) → Nat → Nat → (Option Addr) → Nat → Nat → H → Prop
def E1 (g : Env) (x0b : Option Addr) (x0n : Nat) (x0c : Nat) (x1b : Option Addr) (x1n : Nat) (x1c : Nat) : Prop := g.v 0 = (.slice x0b x0n x0c) ∧ g.v 1 = (.slice x1b x1n x1c) ∧ g.ds = []
def D1 (K : T1) (g : Env) (h : H) : Prop := nilDs g.ds (vSlice (g.v 0) fun s5b s5n s5c => vSlice (g.v 1) fun s6b s6n s6c => K s5b s5n s5c s6b s6n s6c h)
theorem D1_ok {K : T1} {g : Env} {h : H} (hq : D1 K g h) : ∃ (x0b : Option Addr) (x0n : Nat) (x0c : Nat) (x1b : Option Addr) (x1n : Nat) (x1c : Nat), E1 g x0b x0n x0c x1b x1n x1c ∧ K x0b x0n x0c x1b x1n x1c h := by
  obtain ⟨hd, hq⟩ := nilDs_ok hq
  obtain ⟨y8b, y8n, y8c, e7, q9⟩ := vSlice_ok hq
  obtain ⟨y11b, y11n, y11c, e10, q12⟩ := vSlice_ok q9
  exact ⟨y8b, y8n, y8c, y11b, y11n, y11c, ⟨e7, e10, hd⟩, q12⟩
noncomputable def n1_c1 : Code := cFst code
noncomputable def n1_c2 : Code := cSnd code
noncomputable def n2_c1 : Code := cFst n1_c2
noncomputable def n2_c2 : Code := cSnd n1_c2
noncomputable def n3_c1 : Code := cFst n2_c2
noncomputable def n3_c2 : Code := cSnd n2_c2
abbrev T2 := H → Prop
def E2 (g : Env)  : Prop := g.ds = []
def D2 (K : T2) (g : Env) (h : H) : Prop := nilDs g.ds (K h)
theorem D2_ok {K : T2} {g : Env} {h : H} (hq : D2 K g h) : E2 g  ∧ K  h := by
  obtain ⟨hd, hq⟩ := nilDs_ok hq
  skip
  exact ⟨hd, hq⟩
abbrev n4  (Kn : T0) (Kr : T0) (h : H) : Prop :=
  Kr true h
theorem n4_ok  (Kn : T0) (Kr : T0) (g : Env) (hg : E2 g ) (h : H) (hS : n4  Kn Kr h) : wpC none Try.prog 29 n3_c2 (Q0 Kn Kr) g h := by
  have hds : g.ds = [] := hg
  refine wpC_of_wpx (by kernel_rfl) (by kernel_rfl) (g' := ⟨g.v, []⟩) (by rw [env_ds hds]) ?_
  have e : (n4  Kn Kr h) = wpx none Try.prog 29 n3_c2 (Q0 Kn Kr) (⟨g.v, []⟩) h := by kernel_rfl
  exact e ▸ hS
def Q1 (Kn : T2) (Kr : T0) : XPost
  | .normal, g, h => D2 Kn g h
  | .ret, g, h => D0 Kr g h
  | _, _, _ => False
noncomputable def n5_c1 : Code := cFst n3_c1
noncomputable def n5_c2 : Code := cSnd n3_c1
abbrev T3 := (Option Addr) → Nat → Nat → (Option Addr) → Nat → Nat → Int → H → Prop
def E3 (g : Env) (x0b : Option Addr) (x0n : Nat) (x0c : Nat) (x1b : Option Addr) (x1n : Nat) (x1c : Nat) (x5 : Int) : Prop := g.v 0 = (.slice x0b x0n x0c) ∧ g.v 1 = (.slice x1b x1n x1c) ∧ g.v 5 = (.int .i64 x5) ∧ g.ds = []
def D3 (K : T3) (g : Env) (h : H) : Prop := nilDs g.ds (vSlice (g.v 0) fun s13b s13n s13c => vSlice (g.v 1) fun s14b s14n s14c => vInt .i64 (g.v 5) fun i15 => K s13b s13n s13c s14b s14n s14c i15 h)
theorem D3_ok {K : T3} {g : Env} {h : H} (hq : D3 K g h) : ∃ (x0b : Option Addr) (x0n : Nat) (x0c : Nat) (x1b : Option Addr) (x1n : Nat) (x1c : Nat) (x5 : Int), E3 g x0b x0n x0c x1b x1n x1c x5 ∧ K x0b x0n x0c x1b x1n x1c x5 h := by
  obtain ⟨hd, hq⟩ := nilDs_ok hq
  obtain ⟨y17b, y17n, y17c, e16, q18⟩ := vSlice_ok hq
  obtain ⟨y20b, y20n, y20c, e19, q21⟩ := vSlice_ok q18
  obtain ⟨y23, e22, q24⟩ := vInt_ok q21
  exact ⟨y17b, y17n, y17c, y20b, y20n, y20c, y23, ⟨e16, e19, e22, hd⟩, q24⟩
noncomputable def n6_c1 : Code := cFst n5_c2
def Q2 (Kn : T2) (Ke0 : T2) (Kr : T0) : XPost
  | .normal, g, h => D2 Kn g h
  | .ret, g, h => D0 Kr g h
  | .exit id, g, h => cond (Nat.beq id 0) (D2 Ke0 g h) (False)
  | _, _, _ => False
noncomputable def n7_c1 : Code := cFst n6_c1
def Q3 (Kn : T3) (Ke0 : T2) (Kr : T0) : XPost
  | .normal, g, h => D3 Kn g h
  | .ret, g, h => D0 Kr g h
  | .exit id, g, h => cond (Nat.beq id 0) (D2 Ke0 g h) (False)
  | _, _, _ => False
def n7_L (Kn : T2) (Ke0 : T2) (Kr : T0) : Nat → (Option Addr) → Nat → Nat → (Option Addr) → Nat → Nat → Int → H → Prop
  | 0 => fun _ _ _ _ _ _ _ _ => False
  | N + 1 => fun x0b x0n x0c x1b x1n x1c x5 h => Spl (x5 < (x0n : Int)) ((0 ≤ x5 ∧ x5 < (x0n : Int)) ∧ (vSome x0b fun a25 => ∃ i26, cell h (((a25.add (Int.toNat x5 * 6))).add 0) = some (.int .u8 i26) ∧ (∃ i27, cell h (((a25.add (Int.toNat x5 * 6))).add 1) = some (.int .u8 i27) ∧ (∃ s28, cell h (((a25.add (Int.toNat x5 * 6))).add 2) = some (S s28) ∧ (∃ s29b s29n s29c, cell h (((a25.add (Int.toNat x5 * 6))).add 3) = some (.slice s29b s29n s29c) ∧ (∃ s30, cell h (((a25.add (Int.toNat x5 * 6))).add 4) = some (S s30) ∧ (∃ s31b s31n s31c, cell h (((a25.add (Int.toNat x5 * 6))).add 5) = some (.slice s31b s31n s31c) ∧ ((0 ≤ x5 ∧ x5 < (x1n : Int)) ∧ (vSome x1b fun a32 => ∃ i33, cell h (((a32.add (Int.toNat x5 * 6))).add 0) = some (.int .u8 i33) ∧ (∃ i34, cell h (((a32.add (Int.toNat x5 * 6))).add 1) = some (.int .u8 i34) ∧ (∃ s35, cell h (((a32.add (Int.toNat x5 * 6))).add 2) = some (S s35) ∧ (∃ s36b s36n s36c, cell h (((a32.add (Int.toNat x5 * 6))).add 3) = some (.slice s36b s36n s36c) ∧ (∃ s37, cell h (((a32.add (Int.toNat x5 * 6))).add 4) = some (S s37) ∧ (∃ s38b s38n s38c, cell h (((a32.add (Int.toNat x5 * 6))).add 5) = some (.slice s38b s38n s38c) ∧ (HCalls Try.prog 56 ⟨[(.agg ⟨[(.int .u8 i26), (.int .u8 i27), (S s28), (.slice s29b s29n s29c), (S s30), (.slice s31b s31n s31c)]⟩), (.agg ⟨[(.int .u8 i33), (.int .u8 i34), (S s35), (.slice s36b s36n s36c), (S s37), (.slice s38b s38n s38c)]⟩)]⟩ h fun v39 h40 => vBool v39 fun b41 => cond b41 (Rng .i64 (x5 + (1 : Int)) ∧ (n7_L Kn Ke0 Kr N x0b x0n x0c x1b x1n x1c (x5 + (1 : Int)) h40)) (Kr false h40)))))))))))))))) (Ke0 h)
abbrev n7 (x0b : Option Addr) (x0n : Nat) (x0c : Nat) (x1b : Option Addr) (x1n : Nat) (x1c : Nat) (x5 : Int) (Kn : T2) (Ke0 : T2) (Kr : T0) (h : H) : Prop := ∃ N, n7_L Kn Ke0 Kr N x0b x0n x0c x1b x1n x1c x5 h
theorem n7_ok (x0b : Option Addr) (x0n : Nat) (x0c : Nat) (x1b : Option Addr) (x1n : Nat) (x1c : Nat) (x5 : Int) (Kn : T2) (Ke0 : T2) (Kr : T0) (g : Env) (hg : E3 g x0b x0n x0c x1b x1n x1c x5) (h : H) (hS : n7 x0b x0n x0c x1b x1n x1c x5 Kn Ke0 Kr h) : wpC none Try.prog 29 n6_c1 (Q2 Kn Ke0 Kr) g h := by
  obtain ⟨N0, hS⟩ := hS
  refine wpC_loop' (x := n7_c1) (by kernel_rfl) (fun k g h => ∃ (x0b : Option Addr) (x0n : Nat) (x0c : Nat) (x1b : Option Addr) (x1n : Nat) (x1c : Nat) (x5 : Int), E3 g x0b x0n x0c x1b x1n x1c x5 ∧ n7_L Kn Ke0 Kr k x0b x0n x0c x1b x1n x1c x5 h) (fun g h hr => ?_) (fun N g h hr => ?_) N0 ⟨x0b, x0n, x0c, x1b, x1n, x1c, x5, hg, hS⟩
  · obtain ⟨x0b, x0n, x0c, x1b, x1n, x1c, x5, hg, hS⟩ := hr
    exact hS.elim
  · obtain ⟨x0b, x0n, x0c, x1b, x1n, x1c, x5, hg, hS⟩ := hr
    have hw : wpC none Try.prog 29 n7_c1 (Q3 (fun z0b z0n z0c z1b z1n z1c z5 h => n7_L Kn Ke0 Kr N z0b z0n z0c z1b z1n z1c z5 h) Ke0 Kr) g h := by
      obtain ⟨hg0, hg1, hg5, hds⟩ := hg
      refine wpC_of_wpx (by kernel_rfl) (by kernel_rfl) (g' := (((⟨g.v, []⟩ : Env).upd (some 0) (.slice x0b x0n x0c)).upd (some 1) (.slice x1b x1n x1c)).upd (some 5) (.int .i64 x5)) (by rw [env_ds hds, upd_self hg0, upd_self hg1, upd_self hg5]) ?_
      have e : (n7_L Kn Ke0 Kr (N + 1) x0b x0n x0c x1b x1n x1c x5 h) = wpx none Try.prog 29 n7_c1 (Q3 (fun z0b z0n z0c z1b z1n z1c z5 h => n7_L Kn Ke0 Kr N z0b z0n z0c z1b z1n z1c z5 h) Ke0 Kr) ((((⟨g.v, []⟩ : Env).upd (some 0) (.slice x0b x0n x0c)).upd (some 1) (.slice x1b x1n x1c)).upd (some 5) (.int .i64 x5)) h := by kernel_rfl
      exact e ▸ hS
    refine hw.mono ?_
    intro e g' h' hq
    cases e with
    | normal => exact D3_ok (K := (fun z0b z0n z0c z1b z1n z1c z5 h => n7_L Kn Ke0 Kr N z0b z0n z0c z1b z1n z1c z5 h)) hq
    | _ => exact hq
abbrev n6 (x0b : Option Addr) (x0n : Nat) (x0c : Nat) (x1b : Option Addr) (x1n : Nat) (x1c : Nat) (x5 : Int) (Kn : T2) (Kr : T0) (h : H) : Prop := n7 x0b x0n x0c x1b x1n x1c x5 Kn Kn Kr h
theorem n6_ok (x0b : Option Addr) (x0n : Nat) (x0c : Nat) (x1b : Option Addr) (x1n : Nat) (x1c : Nat) (x5 : Int) (Kn : T2) (Kr : T0) (g : Env) (hg : E3 g x0b x0n x0c x1b x1n x1c x5) (h : H) (hS : n6 x0b x0n x0c x1b x1n x1c x5 Kn Kr h) : wpC none Try.prog 29 n5_c2 (Q1 Kn Kr) g h := by
  refine wpC_block' (id := 0) (x := n6_c1) (by kernel_rfl) (n7_ok x0b x0n x0c x1b x1n x1c x5 Kn Kn Kr g hg h hS) ?_
  intro e g' h' hq
  cases e <;> exact hq
def Q4 (Kn : T3) (Kr : T0) : XPost
  | .normal, g, h => D3 Kn g h
  | .ret, g, h => D0 Kr g h
  | _, _, _ => False
abbrev n5 (x0b : Option Addr) (x0n : Nat) (x0c : Nat) (x1b : Option Addr) (x1n : Nat) (x1c : Nat) (Kn : T2) (Kr : T0) (h : H) : Prop :=
  n6 x0b x0n x0c x1b x1n x1c (0 : Int) Kn Kr h
theorem n5_ok (x0b : Option Addr) (x0n : Nat) (x0c : Nat) (x1b : Option Addr) (x1n : Nat) (x1c : Nat) (Kn : T2) (Kr : T0) (g : Env) (hg : E1 g x0b x0n x0c x1b x1n x1c) (h : H) (hS : n5 x0b x0n x0c x1b x1n x1c Kn Kr h) : wpC none Try.prog 29 n3_c1 (Q1 Kn Kr) g h := by
  obtain ⟨hg0, hg1, hds⟩ := hg
  refine wpC_seq' (x := n5_c1) (y := n5_c2) (Q' := (Q4 (fun z0b z0n z0c z1b z1n z1c z5 h => n6 z0b z0n z0c z1b z1n z1c z5 Kn Kr h) Kr)) (by kernel_rfl) ?_ ?_
  · refine wpC_of_wpx (by kernel_rfl) (by kernel_rfl) (g' := ((⟨g.v, []⟩ : Env).upd (some 0) (.slice x0b x0n x0c)).upd (some 1) (.slice x1b x1n x1c)) (by rw [env_ds hds, upd_self hg0, upd_self hg1]) ?_
    have e : (n5 x0b x0n x0c x1b x1n x1c Kn Kr h) = wpx none Try.prog 29 n5_c1 (Q4 (fun z0b z0n z0c z1b z1n z1c z5 h => n6 z0b z0n z0c z1b z1n z1c z5 Kn Kr h) Kr) (((⟨g.v, []⟩ : Env).upd (some 0) (.slice x0b x0n x0c)).upd (some 1) (.slice x1b x1n x1c)) h := by kernel_rfl
    exact e ▸ hS
  · intro e g' h' hq
    cases e with
    | normal =>
      have hq : D3 (fun z0b z0n z0c z1b z1n z1c z5 h => n6 z0b z0n z0c z1b z1n z1c z5 Kn Kr h) g' h' := hq
      obtain ⟨y0b, y0n, y0c, y1b, y1n, y1c, y5, hg', hq⟩ := D3_ok hq
      exact n6_ok y0b y0n y0c y1b y1n y1c y5 Kn Kr g' hg' h' hq
    | _ => exact hq
abbrev n3 (x0b : Option Addr) (x0n : Nat) (x0c : Nat) (x1b : Option Addr) (x1n : Nat) (x1c : Nat) (Kn : T0) (Kr : T0) (h : H) : Prop := n5 x0b x0n x0c x1b x1n x1c (fun  h => n4 Kn Kr h) Kr h
theorem n3_ok (x0b : Option Addr) (x0n : Nat) (x0c : Nat) (x1b : Option Addr) (x1n : Nat) (x1c : Nat) (Kn : T0) (Kr : T0) (g : Env) (hg : E1 g x0b x0n x0c x1b x1n x1c) (h : H) (hS : n3 x0b x0n x0c x1b x1n x1c Kn Kr h) : wpC none Try.prog 29 n2_c2 (Q0 Kn Kr) g h := by
  refine wpC_seq' (x := n3_c1) (y := n3_c2) (by kernel_rfl) (n5_ok x0b x0n x0c x1b x1n x1c (fun  h => n4 Kn Kr h) Kr g hg h hS) ?_
  intro e g' h' hq
  cases e with
  | normal =>
    have hq : D2 (fun  h => n4 Kn Kr h) g' h' := hq
    obtain ⟨hg', hq⟩ := D2_ok hq
    exact n4_ok  Kn Kr g' hg' h' hq
  | _ => exact hq
def Q5 (Kn : T1) (Kr : T0) : XPost
  | .normal, g, h => D1 Kn g h
  | .ret, g, h => D0 Kr g h
  | _, _, _ => False
abbrev n2 (x0b : Option Addr) (x0n : Nat) (x0c : Nat) (x1b : Option Addr) (x1n : Nat) (x1c : Nat) (Kn : T0) (Kr : T0) (h : H) : Prop :=
  Spl ((x0n : Int) = (x1n : Int)) (n3 x0b x0n x0c x1b x1n x1c Kn Kr h) (Kr false h)
theorem n2_ok (x0b : Option Addr) (x0n : Nat) (x0c : Nat) (x1b : Option Addr) (x1n : Nat) (x1c : Nat) (Kn : T0) (Kr : T0) (g : Env) (hg : E1 g x0b x0n x0c x1b x1n x1c) (h : H) (hS : n2 x0b x0n x0c x1b x1n x1c Kn Kr h) : wpC none Try.prog 29 n1_c2 (Q0 Kn Kr) g h := by
  obtain ⟨hg0, hg1, hds⟩ := hg
  refine wpC_seq' (x := n2_c1) (y := n2_c2) (Q' := (Q5 (fun z0b z0n z0c z1b z1n z1c h => n3 z0b z0n z0c z1b z1n z1c Kn Kr h) Kr)) (by kernel_rfl) ?_ ?_
  · refine wpC_of_wpx (by kernel_rfl) (by kernel_rfl) (g' := ((⟨g.v, []⟩ : Env).upd (some 0) (.slice x0b x0n x0c)).upd (some 1) (.slice x1b x1n x1c)) (by rw [env_ds hds, upd_self hg0, upd_self hg1]) ?_
    have e : (n2 x0b x0n x0c x1b x1n x1c Kn Kr h) = wpx none Try.prog 29 n2_c1 (Q5 (fun z0b z0n z0c z1b z1n z1c h => n3 z0b z0n z0c z1b z1n z1c Kn Kr h) Kr) (((⟨g.v, []⟩ : Env).upd (some 0) (.slice x0b x0n x0c)).upd (some 1) (.slice x1b x1n x1c)) h := by kernel_rfl
    exact e ▸ hS
  · intro e g' h' hq
    cases e with
    | normal =>
      have hq : D1 (fun z0b z0n z0c z1b z1n z1c h => n3 z0b z0n z0c z1b z1n z1c Kn Kr h) g' h' := hq
      obtain ⟨y0b, y0n, y0c, y1b, y1n, y1c, hg', hq⟩ := D1_ok hq
      exact n3_ok y0b y0n y0c y1b y1n y1c Kn Kr g' hg' h' hq
    | _ => exact hq
abbrev n1 (x0b : Option Addr) (x0n : Nat) (x0c : Nat) (x1b : Option Addr) (x1n : Nat) (x1c : Nat) (Kn : T0) (Kr : T0) (h : H) : Prop :=
  n2 x0b x0n x0c x1b x1n x1c Kn Kr h
theorem n1_ok (x0b : Option Addr) (x0n : Nat) (x0c : Nat) (x1b : Option Addr) (x1n : Nat) (x1c : Nat) (Kn : T0) (Kr : T0) (g : Env) (hg : E1 g x0b x0n x0c x1b x1n x1c) (h : H) (hS : n1 x0b x0n x0c x1b x1n x1c Kn Kr h) : wpC none Try.prog 29 code (Q0 Kn Kr) g h := by
  obtain ⟨hg0, hg1, hds⟩ := hg
  refine wpC_seq' (x := n1_c1) (y := n1_c2) (Q' := (Q5 (fun z0b z0n z0c z1b z1n z1c h => n2 z0b z0n z0c z1b z1n z1c Kn Kr h) Kr)) (by kernel_rfl) ?_ ?_
  · refine wpC_of_wpx (by kernel_rfl) (by kernel_rfl) (g' := ((⟨g.v, []⟩ : Env).upd (some 0) (.slice x0b x0n x0c)).upd (some 1) (.slice x1b x1n x1c)) (by rw [env_ds hds, upd_self hg0, upd_self hg1]) ?_
    have e : (n1 x0b x0n x0c x1b x1n x1c Kn Kr h) = wpx none Try.prog 29 n1_c1 (Q5 (fun z0b z0n z0c z1b z1n z1c h => n2 z0b z0n z0c z1b z1n z1c Kn Kr h) Kr) (((⟨g.v, []⟩ : Env).upd (some 0) (.slice x0b x0n x0c)).upd (some 1) (.slice x1b x1n x1c)) h := by kernel_rfl
    exact e ▸ hS
  · intro e g' h' hq
    cases e with
    | normal =>
      have hq : D1 (fun z0b z0n z0c z1b z1n z1c h => n2 z0b z0n z0c z1b z1n z1c Kn Kr h) g' h' := hq
      obtain ⟨y0b, y0n, y0c, y1b, y1n, y1c, hg', hq⟩ := D1_ok hq
      exact n2_ok y0b y0n y0c y1b y1n y1c Kn Kr g' hg' h' hq
    | _ => exact hq
/-- WHAT tympan/tympanref10.Same ASKS -/
abbrev asks (x0b : Option Addr) (x0n : Nat) (x0c : Nat) (x1b : Option Addr) (x1n : Nat) (x1c : Nat) (K : Value → H → Prop) (h : H) : Prop := n1 x0b x0n x0c x1b x1n x1c (fun y4 h => K (.bool y4) h) (fun y4 h => K (.bool y4) h) h
theorem ok (x0b : Option Addr) (x0n : Nat) (x0c : Nat) (x1b : Option Addr) (x1n : Nat) (x1c : Nat) (K : Value → H → Prop) (h : H) (hS : asks x0b x0n x0c x1b x1n x1c K h) : HCalls Try.prog 31 ⟨[(.slice x0b x0n x0c), (.slice x1b x1n x1c)]⟩ h K := by
  refine calls_of_wpC (c := code) Try.func31 (by kernel_rfl) (Nat.le_of_ble_eq_true (by kernel_rfl)) ?_
  refine (n1_ok x0b x0n x0c x1b x1n x1c (fun y4 h => K (.bool y4) h) (fun y4 h => K (.bool y4) h) (env0 [(.slice x0b x0n x0c), (.slice x1b x1n x1c)]) ⟨rfl, rfl, rfl⟩ h hS).mono ?_
  intro e g' h' hq
  cases e with
  | normal =>
    have hq : D0 (fun y4 h => K (.bool y4) h) g' h' := hq
    obtain ⟨y4, ⟨hg4, hd⟩, hq⟩ := D0_ok hq
    show leaveX g'.ds h' _
    rw [hd]
    show K (g'.v 4) h'
    rw [hg4]
    exact hq
  | ret =>
    have hq : D0 (fun y4 h => K (.bool y4) h) g' h' := hq
    obtain ⟨y4, ⟨hg4, hd⟩, hq⟩ := D0_ok hq
    show leaveX g'.ds h' _
    rw [hd]
    show K (g'.v 4) h'
    rw [hg4]
    exact hq
  | _ => exact hq
end Sx.r10_Same

/-! ### tympan/tympanref10.one -/
namespace Sx.r10_one
noncomputable def code : Code := bodyOf Try.f56
abbrev T0 := Bool → H → Prop
def E0 (g : Env) (x4 : Bool) : Prop := g.v 4 = (.bool x4) ∧ g.ds = []
def D0 (K : T0) (g : Env) (h : H) : Prop := nilDs g.ds (vBool (g.v 4) fun b1 => K b1 h)
theorem D0_ok {K : T0} {g : Env} {h : H} (hq : D0 K g h) : ∃ (x4 : Bool), E0 g x4 ∧ K x4 h := by
  obtain ⟨hd, hq⟩ := nilDs_ok hq
  obtain ⟨y3, e2, q4⟩ := vBool_ok hq
  exact ⟨y3, ⟨e2, hd⟩, q4⟩
def Q0 (Kn : T0) (Kr : T0) : XPost
  | .normal, g, h => D0 Kn g h
  | .ret, g, h => D0 Kr g h
  | _, _, _ => False
abbrev T1 := Int → Int → (List UInt8) → (Option Addr) → Nat → Nat → (List UInt8) → (Option Addr) → Nat → Nat → Int → Int → (List UInt8) → (Option Addr) → Nat → Nat → (List UInt8) → (Option Addr) → Nat → Nat → H → Prop
def E1 (g : Env) (x0_0 : Int) (x0_1 : Int) (x0_2 : List UInt8) (x0_3b : Option Addr) (x0_3n : Nat) (x0_3c : Nat) (x0_4 : List UInt8) (x0_5b : Option Addr) (x0_5n : Nat) (x0_5c : Nat) (x1_0 : Int) (x1_1 : Int) (x1_2 : List UInt8) (x1_3b : Option Addr) (x1_3n : Nat) (x1_3c : Nat) (x1_4 : List UInt8) (x1_5b : Option Addr) (x1_5n : Nat) (x1_5c : Nat) : Prop := g.v 0 = (.agg ⟨[(.int .u8 x0_0), (.int .u8 x0_1), (S x0_2), (.slice x0_3b x0_3n x0_3c), (S x0_4), (.slice x0_5b x0_5n x0_5c)]⟩) ∧ g.v 1 = (.agg ⟨[(.int .u8 x1_0), (.int .u8 x1_1), (S x1_2), (.slice x1_3b x1_3n x1_3c), (S x1_4), (.slice x1_5b x1_5n x1_5c)]⟩) ∧ g.ds = []
def D1 (K : T1) (g : Env) (h : H) : Prop := nilDs g.ds (vAgg (g.v 0) fun l5 => uncons l5 fun e6 l7 => vInt .u8 e6 fun i8 => uncons l7 fun e9 l10 => vInt .u8 e9 fun i11 => uncons l10 fun e12 l13 => vStr e12 fun s14 => uncons l13 fun e15 l16 => vSlice e15 fun s17b s17n s17c => uncons l16 fun e18 l19 => vStr e18 fun s20 => uncons l19 fun e21 l22 => vSlice e21 fun s23b s23n s23c => unnil l22 (vAgg (g.v 1) fun l24 => uncons l24 fun e25 l26 => vInt .u8 e25 fun i27 => uncons l26 fun e28 l29 => vInt .u8 e28 fun i30 => uncons l29 fun e31 l32 => vStr e31 fun s33 => uncons l32 fun e34 l35 => vSlice e34 fun s36b s36n s36c => uncons l35 fun e37 l38 => vStr e37 fun s39 => uncons l38 fun e40 l41 => vSlice e40 fun s42b s42n s42c => unnil l41 (K i8 i11 s14 s17b s17n s17c s20 s23b s23n s23c i27 i30 s33 s36b s36n s36c s39 s42b s42n s42c h)))
theorem D1_ok {K : T1} {g : Env} {h : H} (hq : D1 K g h) : ∃ (x0_0 : Int) (x0_1 : Int) (x0_2 : List UInt8) (x0_3b : Option Addr) (x0_3n : Nat) (x0_3c : Nat) (x0_4 : List UInt8) (x0_5b : Option Addr) (x0_5n : Nat) (x0_5c : Nat) (x1_0 : Int) (x1_1 : Int) (x1_2 : List UInt8) (x1_3b : Option Addr) (x1_3n : Nat) (x1_3c : Nat) (x1_4 : List UInt8) (x1_5b : Option Addr) (x1_5n : Nat) (x1_5c : Nat), E1 g x0_0 x0_1 x0_2 x0_3b x0_3n x0_3c x0_4 x0_5b x0_5n x0_5c x1_0 x1_1 x1_2 x1_3b x1_3n x1_3c x1_4 x1_5b x1_5n x1_5c ∧ K x0_0 x0_1 x0_2 x0_3b x0_3n x0_3c x0_4 x0_5b x0_5n x0_5c x1_0 x1_1 x1_2 x1_3b x1_3n x1_3c x1_4 x1_5b x1_5n x1_5c h := by
  obtain ⟨hd, hq⟩ := nilDs_ok hq
  obtain ⟨l44, e43, q45⟩ := vAgg_ok hq
  obtain ⟨u46, l47, rfl, q48⟩ := uncons_ok q45
  obtain ⟨y49, rfl, q50⟩ := vInt_ok q48
  obtain ⟨u51, l52, rfl, q53⟩ := uncons_ok q50
  obtain ⟨y54, rfl, q55⟩ := vInt_ok q53
  obtain ⟨u56, l57, rfl, q58⟩ := uncons_ok q55
  obtain ⟨y59, rfl, q60⟩ := vStr_ok q58
  obtain ⟨u61, l62, rfl, q63⟩ := uncons_ok q60
  obtain ⟨y64b, y64n, y64c, rfl, q65⟩ := vSlice_ok q63
  obtain ⟨u66, l67, rfl, q68⟩ := uncons_ok q65
  obtain ⟨y69, rfl, q70⟩ := vStr_ok q68
  obtain ⟨u71, l72, rfl, q73⟩ := uncons_ok q70
  obtain ⟨y74b, y74n, y74c, rfl, q75⟩ := vSlice_ok q73
  obtain ⟨rfl, q76⟩ := unnil_ok q75
  obtain ⟨l78, e77, q79⟩ := vAgg_ok q76
  obtain ⟨u80, l81, rfl, q82⟩ := uncons_ok q79
  obtain ⟨y83, rfl, q84⟩ := vInt_ok q82
  obtain ⟨u85, l86, rfl, q87⟩ := uncons_ok q84
  obtain ⟨y88, rfl, q89⟩ := vInt_ok q87
  obtain ⟨u90, l91, rfl, q92⟩ := uncons_ok q89
  obtain ⟨y93, rfl, q94⟩ := vStr_ok q92
  obtain ⟨u95, l96, rfl, q97⟩ := uncons_ok q94
  obtain ⟨y98b, y98n, y98c, rfl, q99⟩ := vSlice_ok q97
  obtain ⟨u100, l101, rfl, q102⟩ := uncons_ok q99
  obtain ⟨y103, rfl, q104⟩ := vStr_ok q102
  obtain ⟨u105, l106, rfl, q107⟩ := uncons_ok q104
  obtain ⟨y108b, y108n, y108c, rfl, q109⟩ := vSlice_ok q107
  obtain ⟨rfl, q110⟩ := unnil_ok q109
  exact ⟨y49, y54, y59, y64b, y64n, y64c, y69, y74b, y74n, y74c, y83, y88, y93, y98b, y98n, y98c, y103, y108b, y108n, y108c, ⟨e43, e77, hd⟩, q110⟩
noncomputable def n1_c1 : Code := cFst code
noncomputable def n1_c2 : Code := cSnd code
abbrev T2 := Addr → Addr → H → Prop
def E2 (g : Env) (x2 : Addr) (x3 : Addr) : Prop := g.v 2 = (.pointer (some x2)) ∧ g.v 3 = (.pointer (some x3)) ∧ g.ds = []
def D2 (K : T2) (g : Env) (h : H) : Prop := nilDs g.ds (vAddr (g.v 2) fun a111 => vAddr (g.v 3) fun a112 => K a111 a112 h)
theorem D2_ok {K : T2} {g : Env} {h : H} (hq : D2 K g h) : ∃ (x2 : Addr) (x3 : Addr), E2 g x2 x3 ∧ K x2 x3 h := by
  obtain ⟨hd, hq⟩ := nilDs_ok hq
  obtain ⟨y114, e113, q115⟩ := vAddr_ok hq
  obtain ⟨y117, e116, q118⟩ := vAddr_ok q115
  exact ⟨y114, y117, ⟨e113, e116, hd⟩, q118⟩
noncomputable def n2_c1 : Code := cFst n1_c2
noncomputable def n2_c2 : Code := cSnd n1_c2
noncomputable def n3_c1 : Code := cFst n2_c2
noncomputable def n3_c2 : Code := cSnd n2_c2
abbrev T3 := H → Prop
def E3 (g : Env)  : Prop := g.ds = []
def D3 (K : T3) (g : Env) (h : H) : Prop := nilDs g.ds (K h)
theorem D3_ok {K : T3} {g : Env} {h : H} (hq : D3 K g h) : E3 g  ∧ K  h := by
  obtain ⟨hd, hq⟩ := nilDs_ok hq
  skip
  exact ⟨hd, hq⟩
abbrev n4  (Kn : T0) (Kr : T0) (h : H) : Prop :=
  Kr true h
theorem n4_ok  (Kn : T0) (Kr : T0) (g : Env) (hg : E3 g ) (h : H) (hS : n4  Kn Kr h) : wpC none Try.prog 67 n3_c2 (Q0 Kn Kr) g h := by
  have hds : g.ds = [] := hg
  refine wpC_of_wpx (by kernel_rfl) (by kernel_rfl) (g' := ⟨g.v, []⟩) (by rw [env_ds hds]) ?_
  have e : (n4  Kn Kr h) = wpx none Try.prog 67 n3_c2 (Q0 Kn Kr) (⟨g.v, []⟩) h := by kernel_rfl
  exact e ▸ hS
def Q1 (Kn : T3) (Kr : T0) : XPost
  | .normal, g, h => D3 Kn g h
  | .ret, g, h => D0 Kr g h
  | _, _, _ => False
noncomputable def n5_c1 : Code := cFst n3_c1
noncomputable def n5_c2 : Code := cSnd n3_c1
abbrev T4 := Addr → Addr → Int → H → Prop
def E4 (g : Env) (x2 : Addr) (x3 : Addr) (x12 : Int) : Prop := g.v 2 = (.pointer (some x2)) ∧ g.v 3 = (.pointer (some x3)) ∧ g.v 12 = (.int .u8 x12) ∧ g.ds = []
def D4 (K : T4) (g : Env) (h : H) : Prop := nilDs g.ds (vAddr (g.v 2) fun a119 => vAddr (g.v 3) fun a120 => vInt .u8 (g.v 12) fun i121 => K a119 a120 i121 h)
theorem D4_ok {K : T4} {g : Env} {h : H} (hq : D4 K g h) : ∃ (x2 : Addr) (x3 : Addr) (x12 : Int), E4 g x2 x3 x12 ∧ K x2 x3 x12 h := by
  obtain ⟨hd, hq⟩ := nilDs_ok hq
  obtain ⟨y123, e122, q124⟩ := vAddr_ok hq
  obtain ⟨y126, e125, q127⟩ := vAddr_ok q124
  obtain ⟨y129, e128, q130⟩ := vInt_ok q127
  exact ⟨y123, y126, y129, ⟨e122, e125, e128, hd⟩, q130⟩
noncomputable def n6_c1 : Code := cFst n5_c2
def Q2 (Kn : T3) (Ke0 : T3) (Kr : T0) : XPost
  | .normal, g, h => D3 Kn g h
  | .ret, g, h => D0 Kr g h
  | .exit id, g, h => cond (Nat.beq id 0) (D3 Ke0 g h) (False)
  | _, _, _ => False
noncomputable def n7_c1 : Code := cFst n6_c1
noncomputable def n7_c2 : Code := cSnd n6_c1
abbrev T5 := Addr → Addr → Int → Bool → H → Prop
def E5 (g : Env) (x2 : Addr) (x3 : Addr) (x12 : Int) (x13 : Bool) : Prop := g.v 2 = (.pointer (some x2)) ∧ g.v 3 = (.pointer (some x3)) ∧ g.v 12 = (.int .u8 x12) ∧ g.v 13 = (.bool x13) ∧ g.ds = []
def D5 (K : T5) (g : Env) (h : H) : Prop := nilDs g.ds (vAddr (g.v 2) fun a131 => vAddr (g.v 3) fun a132 => vInt .u8 (g.v 12) fun i133 => vBool (g.v 13) fun b134 => K a131 a132 i133 b134 h)
theorem D5_ok {K : T5} {g : Env} {h : H} (hq : D5 K g h) : ∃ (x2 : Addr) (x3 : Addr) (x12 : Int) (x13 : Bool), E5 g x2 x3 x12 x13 ∧ K x2 x3 x12 x13 h := by
  obtain ⟨hd, hq⟩ := nilDs_ok hq
  obtain ⟨y136, e135, q137⟩ := vAddr_ok hq
  obtain ⟨y139, e138, q140⟩ := vAddr_ok q137
  obtain ⟨y142, e141, q143⟩ := vInt_ok q140
  obtain ⟨y145, e144, q146⟩ := vBool_ok q143
  exact ⟨y136, y139, y142, y145, ⟨e135, e138, e141, e144, hd⟩, q146⟩
noncomputable def n8_c1 : Code := cFst n7_c2
noncomputable def n8_c2 : Code := cSnd n7_c2
abbrev n9 (x2 : Addr) (x3 : Addr) (Kn : T3) (Ke0 : T3) (Kr : T0) (h : H) : Prop :=
  ∃ s147, cell h (x2.add 4) = some (S s147) ∧ (∃ s148, cell h (x3.add 4) = some (S s148) ∧ (Spl (s147 = s148) (Kr true h) (Kr false h)))
theorem n9_ok (x2 : Addr) (x3 : Addr) (Kn : T3) (Ke0 : T3) (Kr : T0) (g : Env) (hg : E2 g x2 x3) (h : H) (hS : n9 x2 x3 Kn Ke0 Kr h) : wpC none Try.prog 67 n8_c1 (Q2 Kn Ke0 Kr) g h := by
  obtain ⟨hg2, hg3, hds⟩ := hg
  refine wpC_of_wpx (by kernel_rfl) (by kernel_rfl) (g' := ((⟨g.v, []⟩ : Env).upd (some 2) (.pointer (some x2))).upd (some 3) (.pointer (some x3))) (by rw [env_ds hds, upd_self hg2, upd_self hg3]) ?_
  have e : (n9 x2 x3 Kn Ke0 Kr h) = wpx none Try.prog 67 n8_c1 (Q2 Kn Ke0 Kr) (((⟨g.v, []⟩ : Env).upd (some 2) (.pointer (some x2))).upd (some 3) (.pointer (some x3))) h := by kernel_rfl
  exact e ▸ hS
noncomputable def n10_c1 : Code := cFst n8_c2
noncomputable def n10_c2 : Code := cSnd n8_c2
abbrev T6 := Addr → Addr → Bool → H → Prop
def E6 (g : Env) (x2 : Addr) (x3 : Addr) (x21 : Bool) : Prop := g.v 2 = (.pointer (some x2)) ∧ g.v 3 = (.pointer (some x3)) ∧ g.v 21 = (.bool x21) ∧ g.ds = []
def D6 (K : T6) (g : Env) (h : H) : Prop := nilDs g.ds (vAddr (g.v 2) fun a149 => vAddr (g.v 3) fun a150 => vBool (g.v 21) fun b151 => K a149 a150 b151 h)
theorem D6_ok {K : T6} {g : Env} {h : H} (hq : D6 K g h) : ∃ (x2 : Addr) (x3 : Addr) (x21 : Bool), E6 g x2 x3 x21 ∧ K x2 x3 x21 h := by
  obtain ⟨hd, hq⟩ := nilDs_ok hq
  obtain ⟨y153, e152, q154⟩ := vAddr_ok hq
  obtain ⟨y156, e155, q157⟩ := vAddr_ok q154
  obtain ⟨y159, e158, q160⟩ := vBool_ok q157
  exact ⟨y153, y156, y159, ⟨e152, e155, e158, hd⟩, q160⟩
noncomputable def n11_c1 : Code := cFst n10_c2
noncomputable def n11_c2 : Code := cSnd n10_c2
noncomputable def n12_c1 : Code := cFst n11_c1
noncomputable def n12_c2 : Code := cSnd n11_c1
noncomputable def n13_c1 : Code := cFst n12_c2
noncomputable def n13_c2 : Code := cSnd n12_c2
abbrev n14 (x2 : Addr) (x3 : Addr) (Kn : T3) (Ke0 : T3) (Kr : T0) (h : H) : Prop :=
  ∃ s161b s161n s161c, cell h (x2.add 5) = some (.slice s161b s161n s161c) ∧ (∃ s162b s162n s162c, cell h (x3.add 5) = some (.slice s162b s162n s162c) ∧ (HCalls Try.prog 31 ⟨[(.slice s161b s161n s161c), (.slice s162b s162n s162c)]⟩ h fun v163 h164 => vBool v163 fun b165 => cond b165 (Kr true h164) (Kr false h164)))
theorem n14_ok (x2 : Addr) (x3 : Addr) (Kn : T3) (Ke0 : T3) (Kr : T0) (g : Env) (hg : E2 g x2 x3) (h : H) (hS : n14 x2 x3 Kn Ke0 Kr h) : wpC none Try.prog 67 n13_c2 (Q2 Kn Ke0 Kr) g h := by
  obtain ⟨hg2, hg3, hds⟩ := hg
  refine wpC_of_wpx (by kernel_rfl) (by kernel_rfl) (g' := ((⟨g.v, []⟩ : Env).upd (some 2) (.pointer (some x2))).upd (some 3) (.pointer (some x3))) (by rw [env_ds hds, upd_self hg2, upd_self hg3]) ?_
  have e : (n14 x2 x3 Kn Ke0 Kr h) = wpx none Try.prog 67 n13_c2 (Q2 Kn Ke0 Kr) (((⟨g.v, []⟩ : Env).upd (some 2) (.pointer (some x2))).upd (some 3) (.pointer (some x3))) h := by kernel_rfl
  exact e ▸ hS
def Q3 (Kn : T2) (Ke0 : T3) (Kr : T0) : XPost
  | .normal, g, h => D2 Kn g h
  | .ret, g, h => D0 Kr g h
  | .exit id, g, h => cond (Nat.beq id 0) (D3 Ke0 g h) (False)
  | _, _, _ => False
noncomputable def n15_c1 : Code := cFst n13_c1
noncomputable def n15_c2 : Code := cSnd n13_c1
abbrev T7 := Addr → Addr → Int → H → Prop
def E7 (g : Env) (x2 : Addr) (x3 : Addr) (x5 : Int) : Prop := g.v 2 = (.pointer (some x2)) ∧ g.v 3 = (.pointer (some x3)) ∧ g.v 5 = (.int .i64 x5) ∧ g.ds = []
def D7 (K : T7) (g : Env) (h : H) : Prop := nilDs g.ds (vAddr (g.v 2) fun a166 => vAddr (g.v 3) fun a167 => vInt .i64 (g.v 5) fun i168 => K a166 a167 i168 h)
theorem D7_ok {K : T7} {g : Env} {h : H} (hq : D7 K g h) : ∃ (x2 : Addr) (x3 : Addr) (x5 : Int), E7 g x2 x3 x5 ∧ K x2 x3 x5 h := by
  obtain ⟨hd, hq⟩ := nilDs_ok hq
  obtain ⟨y170, e169, q171⟩ := vAddr_ok hq
  obtain ⟨y173, e172, q174⟩ := vAddr_ok q171
  obtain ⟨y176, e175, q177⟩ := vInt_ok q174
  exact ⟨y170, y173, y176, ⟨e169, e172, e175, hd⟩, q177⟩
noncomputable def n16_c1 : Code := cFst n15_c2
def Q4 (Kn : T2) (Ke1 : T2) (Ke0 : T3) (Kr : T0) : XPost
  | .normal, g, h => D2 Kn g h
  | .ret, g, h => D0 Kr g h
  | .exit id, g, h => cond (Nat.beq id 1) (D2 Ke1 g h) (cond (Nat.beq id 0) (D3 Ke0 g h) (False))
  | _, _, _ => False
noncomputable def n17_c1 : Code := cFst n16_c1
def Q5 (Kn : T7) (Ke1 : T2) (Ke0 : T3) (Kr : T0) : XPost
  | .normal, g, h => D7 Kn g h
  | .ret, g, h => D0 Kr g h
  | .exit id, g, h => cond (Nat.beq id 1) (D2 Ke1 g h) (cond (Nat.beq id 0) (D3 Ke0 g h) (False))
  | _, _, _ => False
def n17_L (Kn : T2) (Ke1 : T2) (Ke0 : T3) (Kr : T0) : Nat → Addr → Addr → Int → H → Prop
  | 0 => fun _ _ _ _ => False
  | N + 1 => fun x2 x3 x5 h => ∃ s178b s178n s178c, cell h (x2.add 3) = some (.slice s178b s178n s178c) ∧ (Spl (x5 < (s178n : Int)) (∃ s179b s179n s179c, cell h (x2.add 3) = some (.slice s179b s179n s179c) ∧ ((0 ≤ x5 ∧ x5 < (s179n : Int)) ∧ (vSome s179b fun a180 => ∃ s181, cell h (((a180.add (Int.toNat x5 * 2))).add 0) = some (S s181) ∧ (∃ s182, cell h (((a180.add (Int.toNat x5 * 2))).add 1) = some (S s182) ∧ (∃ s183b s183n s183c, cell h (x3.add 3) = some (.slice s183b s183n s183c) ∧ ((0 ≤ x5 ∧ x5 < (s183n : Int)) ∧ (vSome s183b fun a184 => ∃ s185, cell h (((a184.add (Int.toNat x5 * 2))).add 0) = some (S s185) ∧ (∃ s186, cell h (((a184.add (Int.toNat x5 * 2))).add 1) = some (S s186) ∧ (SemR Try.prog (binS .neq 59 (.tmp 55) (.tmp 60) (.agg ⟨[(S s181), (S s182)]⟩) (.agg ⟨[(S s185), (S s186)]⟩)) h fun v187 => vBool v187 fun b188 => cond b188 (Kr false h) (Rng .i64 (x5 + (1 : Int)) ∧ (n17_L Kn Ke1 Ke0 Kr N x2 x3 (x5 + (1 : Int)) h))))))))))) (Ke1 x2 x3 h))
abbrev n17 (x2 : Addr) (x3 : Addr) (x5 : Int) (Kn : T2) (Ke1 : T2) (Ke0 : T3) (Kr : T0) (h : H) : Prop := ∃ N, n17_L Kn Ke1 Ke0 Kr N x2 x3 x5 h
theorem n17_ok (x2 : Addr) (x3 : Addr) (x5 : Int) (Kn : T2) (Ke1 : T2) (Ke0 : T3) (Kr : T0) (g : Env) (hg : E7 g x2 x3 x5) (h : H) (hS : n17 x2 x3 x5 Kn Ke1 Ke0 Kr h) : wpC none Try.prog 67 n16_c1 (Q4 Kn Ke1 Ke0 Kr) g h := by
  obtain ⟨N0, hS⟩ := hS
  refine wpC_loop' (x := n17_c1) (by kernel_rfl) (fun k g h => ∃ (x2 : Addr) (x3 : Addr) (x5 : Int), E7 g x2 x3 x5 ∧ n17_L Kn Ke1 Ke0 Kr k x2 x3 x5 h) (fun g h hr => ?_) (fun N g h hr => ?_) N0 ⟨x2, x3, x5, hg, hS⟩
  · obtain ⟨x2, x3, x5, hg, hS⟩ := hr
    exact hS.elim
  · obtain ⟨x2, x3, x5, hg, hS⟩ := hr
    have hw : wpC none Try.prog 67 n17_c1 (Q5 (fun z2 z3 z5 h => n17_L Kn Ke1 Ke0 Kr N z2 z3 z5 h) Ke1 Ke0 Kr) g h := by
      obtain ⟨hg2, hg3, hg5, hds⟩ := hg
      refine wpC_of_wpx (by kernel_rfl) (by kernel_rfl) (g' := (((⟨g.v, []⟩ : Env).upd (some 2) (.pointer (some x2))).upd (some 3) (.pointer (some x3))).upd (some 5) (.int .i64 x5)) (by rw [env_ds hds, upd_self hg2, upd_self hg3, upd_self hg5]) ?_
      have e : (n17_L Kn Ke1 Ke0 Kr (N + 1) x2 x3 x5 h) = wpx none Try.prog 67 n17_c1 (Q5 (fun z2 z3 z5 h => n17_L Kn Ke1 Ke0 Kr N z2 z3 z5 h) Ke1 Ke0 Kr) ((((⟨g.v, []⟩ : Env).upd (some 2) (.pointer (some x2))).upd (some 3) (.pointer (some x3))).upd (some 5) (.int .i64 x5)) h := by kernel_rfl
      exact e ▸ hS
    refine hw.mono ?_
    intro e g' h' hq
    cases e with
    | normal => exact D7_ok (K := (fun z2 z3 z5 h => n17_L Kn Ke1 Ke0 Kr N z2 z3 z5 h)) hq
    | _ => exact hq
abbrev n16 (x2 : Addr) (x3 : Addr) (x5 : Int) (Kn : T2) (Ke0 : T3) (Kr : T0) (h : H) : Prop := n17 x2 x3 x5 Kn Kn Ke0 Kr h
theorem n16_ok (x2 : Addr) (x3 : Addr) (x5 : Int) (Kn : T2) (Ke0 : T3) (Kr : T0) (g : Env) (hg : E7 g x2 x3 x5) (h : H) (hS : n16 x2 x3 x5 Kn Ke0 Kr h) : wpC none Try.prog 67 n15_c2 (Q3 Kn Ke0 Kr) g h := by
  refine wpC_block' (id := 1) (x := n16_c1) (by kernel_rfl) (n17_ok x2 x3 x5 Kn Kn Ke0 Kr g hg h hS) ?_
  intro e g' h' hq
  cases e <;> exact hq
def Q6 (Kn : T7) (Ke0 : T3) (Kr : T0) : XPost
  | .normal, g, h => D7 Kn g h
  | .ret, g, h => D0 Kr g h
  | .exit id, g, h => cond (Nat.beq id 0) (D3 Ke0 g h) (False)
  | _, _, _ => False
abbrev n15 (x2 : Addr) (x3 : Addr) (Kn : T2) (Ke0 : T3) (Kr : T0) (h : H) : Prop :=
  n16 x2 x3 (0 : Int) Kn Ke0 Kr h
theorem n15_ok (x2 : Addr) (x3 : Addr) (Kn : T2) (Ke0 : T3) (Kr : T0) (g : Env) (hg : E2 g x2 x3) (h : H) (hS : n15 x2 x3 Kn Ke0 Kr h) : wpC none Try.prog 67 n13_c1 (Q3 Kn Ke0 Kr) g h := by
  obtain ⟨hg2, hg3, hds⟩ := hg
  refine wpC_seq' (x := n15_c1) (y := n15_c2) (Q' := (Q6 (fun z2 z3 z5 h => n16 z2 z3 z5 Kn Ke0 Kr h) Ke0 Kr)) (by kernel_rfl) ?_ ?_
  · refine wpC_of_wpx (by kernel_rfl) (by kernel_rfl) (g' := ((⟨g.v, []⟩ : Env).upd (some 2) (.pointer (some x2))).upd (some 3) (.pointer (some x3))) (by rw [env_ds hds, upd_self hg2, upd_self hg3]) ?_
    have e : (n15 x2 x3 Kn Ke0 Kr h) = wpx none Try.prog 67 n15_c1 (Q6 (fun z2 z3 z5 h => n16 z2 z3 z5 Kn Ke0 Kr h) Ke0 Kr) (((⟨g.v, []⟩ : Env).upd (some 2) (.pointer (some x2))).upd (some 3) (.pointer (some x3))) h := by kernel_rfl
    exact e ▸ hS
  · intro e g' h' hq
    cases e with
    | normal =>
      have hq : D7 (fun z2 z3 z5 h => n16 z2 z3 z5 Kn Ke0 Kr h) g' h' := hq
      obtain ⟨y2, y3, y5, hg', hq⟩ := D7_ok hq
      exact n16_ok y2 y3 y5 Kn Ke0 Kr g' hg' h' hq
    | _ => exact hq
abbrev n13 (x2 : Addr) (x3 : Addr) (Kn : T3) (Ke0 : T3) (Kr : T0) (h : H) : Prop := n15 x2 x3 (fun z2 z3 h => n14 z2 z3 Kn Ke0 Kr h) Ke0 Kr h
theorem n13_ok (x2 : Addr) (x3 : Addr) (Kn : T3) (Ke0 : T3) (Kr : T0) (g : Env) (hg : E2 g x2 x3) (h : H) (hS : n13 x2 x3 Kn Ke0 Kr h) : wpC none Try.prog 67 n12_c2 (Q2 Kn Ke0 Kr) g h := by
  refine wpC_seq' (x := n13_c1) (y := n13_c2) (by kernel_rfl) (n15_ok x2 x3 (fun z2 z3 h => n14 z2 z3 Kn Ke0 Kr h) Ke0 Kr g hg h hS) ?_
  intro e g' h' hq
  cases e with
  | normal =>
    have hq : D2 (fun z2 z3 h => n14 z2 z3 Kn Ke0 Kr h) g' h' := hq
    obtain ⟨y2, y3, hg', hq⟩ := D2_ok hq
    exact n14_ok y2 y3 Kn Ke0 Kr g' hg' h' hq
  | _ => exact hq
abbrev n12 (x2 : Addr) (x3 : Addr) (Kn : T3) (Ke0 : T3) (Kr : T0) (h : H) : Prop :=
  ∃ i189, cell h (x2.add 1) = some (.int .u8 i189) ∧ (∃ i190, cell h (x3.add 1) = some (.int .u8 i190) ∧ (Spl (i189 = i190) (∃ s191, cell h (x2.add 2) = some (S s191) ∧ (∃ s192, cell h (x3.add 2) = some (S s192) ∧ (Spl (s191 = s192) (∃ s193b s193n s193c, cell h (x2.add 3) = some (.slice s193b s193n s193c) ∧ (∃ s194b s194n s194c, cell h (x3.add 3) = some (.slice s194b s194n s194c) ∧ (Spl ((s193n : Int) = (s194n : Int)) (n13 x2 x3 Kn Ke0 Kr h) (Kr false h)))) (Kr false h)))) (Kr false h)))
theorem n12_ok (x2 : Addr) (x3 : Addr) (Kn : T3) (Ke0 : T3) (Kr : T0) (g : Env) (hg : E2 g x2 x3) (h : H) (hS : n12 x2 x3 Kn Ke0 Kr h) : wpC none Try.prog 67 n11_c1 (Q2 Kn Ke0 Kr) g h := by
  obtain ⟨hg2, hg3, hds⟩ := hg
  refine wpC_seq' (x := n12_c1) (y := n12_c2) (Q' := (Q3 (fun z2 z3 h => n13 z2 z3 Kn Ke0 Kr h) Ke0 Kr)) (by kernel_rfl) ?_ ?_
  · refine wpC_of_wpx (by kernel_rfl) (by kernel_rfl) (g' := ((⟨g.v, []⟩ : Env).upd (some 2) (.pointer (some x2))).upd (some 3) (.pointer (some x3))) (by rw [env_ds hds, upd_self hg2, upd_self hg3]) ?_
    have e : (n12 x2 x3 Kn Ke0 Kr h) = wpx none Try.prog 67 n12_c1 (Q3 (fun z2 z3 h => n13 z2 z3 Kn Ke0 Kr h) Ke0 Kr) (((⟨g.v, []⟩ : Env).upd (some 2) (.pointer (some x2))).upd (some 3) (.pointer (some x3))) h := by kernel_rfl
    exact e ▸ hS
  · intro e g' h' hq
    cases e with
    | normal =>
      have hq : D2 (fun z2 z3 h => n13 z2 z3 Kn Ke0 Kr h) g' h' := hq
      obtain ⟨y2, y3, hg', hq⟩ := D2_ok hq
      exact n13_ok y2 y3 Kn Ke0 Kr g' hg' h' hq
    | _ => exact hq
abbrev n18  (Kn : T3) (Ke0 : T3) (Kr : T0) (h : H) : Prop :=
  Kn h
theorem n18_ok  (Kn : T3) (Ke0 : T3) (Kr : T0) (g : Env) (hg : E3 g ) (h : H) (hS : n18  Kn Ke0 Kr h) : wpC none Try.prog 67 n11_c2 (Q2 Kn Ke0 Kr) g h := by
  have hds : g.ds = [] := hg
  refine wpC_of_wpx (by kernel_rfl) (by kernel_rfl) (g' := ⟨g.v, []⟩) (by rw [env_ds hds]) ?_
  have e : (n18  Kn Ke0 Kr h) = wpx none Try.prog 67 n11_c2 (Q2 Kn Ke0 Kr) (⟨g.v, []⟩) h := by kernel_rfl
  exact e ▸ hS
abbrev n11 (x2 : Addr) (x3 : Addr) (x21 : Bool) (Kn : T3) (Ke0 : T3) (Kr : T0) (h : H) : Prop := cond x21 (n12 x2 x3 Kn Ke0 Kr h) (n18  Kn Ke0 Kr h)
theorem n11_ok (x2 : Addr) (x3 : Addr) (x21 : Bool) (Kn : T3) (Ke0 : T3) (Kr : T0) (g : Env) (hg : E6 g x2 x3 x21) (h : H) (hS : n11 x2 x3 x21 Kn Ke0 Kr h) : wpC none Try.prog 67 n10_c2 (Q2 Kn Ke0 Kr) g h := by
  obtain ⟨hg2, hg3, hg21, hds⟩ := hg
  have hx : evalE 67 g (.tmp 21) = .bool x21 := by
    show cond (Nat.blt 21 67) (g.v 21) undef = _
    rw [hg21]; rfl
  unfold n11 at hS
  refine wpC_cond' (o := .tmp 21) (x := n11_c1) (y := n11_c2) (by kernel_rfl) hx (fun hb => ?_) (fun hb => ?_)
  · subst hb
    exact n12_ok x2 x3 Kn Ke0 Kr g ⟨hg2, hg3, hds⟩ h hS
  · subst hb
    exact n18_ok  Kn Ke0 Kr g hds h hS
def Q7 (Kn : T6) (Ke0 : T3) (Kr : T0) : XPost
  | .normal, g, h => D6 Kn g h
  | .ret, g, h => D0 Kr g h
  | .exit id, g, h => cond (Nat.beq id 0) (D3 Ke0 g h) (False)
  | _, _, _ => False
abbrev n10 (x2 : Addr) (x3 : Addr) (x12 : Int) (Kn : T3) (Ke0 : T3) (Kr : T0) (h : H) : Prop :=
  Spl (x12 = (1 : Int)) (n11 x2 x3 true Kn Ke0 Kr h) (n11 x2 x3 false Kn Ke0 Kr h)
theorem n10_ok (x2 : Addr) (x3 : Addr) (x12 : Int) (Kn : T3) (Ke0 : T3) (Kr : T0) (g : Env) (hg : E4 g x2 x3 x12) (h : H) (hS : n10 x2 x3 x12 Kn Ke0 Kr h) : wpC none Try.prog 67 n8_c2 (Q2 Kn Ke0 Kr) g h := by
  obtain ⟨hg2, hg3, hg12, hds⟩ := hg
  refine wpC_seq' (x := n10_c1) (y := n10_c2) (Q' := (Q7 (fun z2 z3 z21 h => n11 z2 z3 z21 Kn Ke0 Kr h) Ke0 Kr)) (by kernel_rfl) ?_ ?_
  · refine wpC_of_wpx (by kernel_rfl) (by kernel_rfl) (g' := (((⟨g.v, []⟩ : Env).upd (some 2) (.pointer (some x2))).upd (some 3) (.pointer (some x3))).upd (some 12) (.int .u8 x12)) (by rw [env_ds hds, upd_self hg2, upd_self hg3, upd_self hg12]) ?_
    have e : (n10 x2 x3 x12 Kn Ke0 Kr h) = wpx none Try.prog 67 n10_c1 (Q7 (fun z2 z3 z21 h => n11 z2 z3 z21 Kn Ke0 Kr h) Ke0 Kr) ((((⟨g.v, []⟩ : Env).upd (some 2) (.pointer (some x2))).upd (some 3) (.pointer (some x3))).upd (some 12) (.int .u8 x12)) h := by kernel_rfl
    exact e ▸ hS
  · intro e g' h' hq
    cases e with
    | normal =>
      have hq : D6 (fun z2 z3 z21 h => n11 z2 z3 z21 Kn Ke0 Kr h) g' h' := hq
      obtain ⟨y2, y3, y21, hg', hq⟩ := D6_ok hq
      exact n11_ok y2 y3 y21 Kn Ke0 Kr g' hg' h' hq
    | _ => exact hq
abbrev n8 (x2 : Addr) (x3 : Addr) (x12 : Int) (x13 : Bool) (Kn : T3) (Ke0 : T3) (Kr : T0) (h : H) : Prop := cond x13 (n9 x2 x3 Kn Ke0 Kr h) (n10 x2 x3 x12 Kn Ke0 Kr h)
theorem n8_ok (x2 : Addr) (x3 : Addr) (x12 : Int) (x13 : Bool) (Kn : T3) (Ke0 : T3) (Kr : T0) (g : Env) (hg : E5 g x2 x3 x12 x13) (h : H) (hS : n8 x2 x3 x12 x13 Kn Ke0 Kr h) : wpC none Try.prog 67 n7_c2 (Q2 Kn Ke0 Kr) g h := by
  obtain ⟨hg2, hg3, hg12, hg13, hds⟩ := hg
  have hx : evalE 67 g (.tmp 13) = .bool x13 := by
    show cond (Nat.blt 13 67) (g.v 13) undef = _
    rw [hg13]; rfl
  unfold n8 at hS
  refine wpC_cond' (o := .tmp 13) (x := n8_c1) (y := n8_c2) (by kernel_rfl) hx (fun hb => ?_) (fun hb => ?_)
  · subst hb
    exact n9_ok x2 x3 Kn Ke0 Kr g ⟨hg2, hg3, hds⟩ h hS
  · subst hb
    exact n10_ok x2 x3 x12 Kn Ke0 Kr g ⟨hg2, hg3, hg12, hds⟩ h hS
def Q8 (Kn : T5) (Ke0 : T3) (Kr : T0) : XPost
  | .normal, g, h => D5 Kn g h
  | .ret, g, h => D0 Kr g h
  | .exit id, g, h => cond (Nat.beq id 0) (D3 Ke0 g h) (False)
  | _, _, _ => False
abbrev n7 (x2 : Addr) (x3 : Addr) (x12 : Int) (Kn : T3) (Ke0 : T3) (Kr : T0) (h : H) : Prop :=
  Spl (x12 = (2 : Int)) (n8 x2 x3 x12 true Kn Ke0 Kr h) (Spl (x12 = (3 : Int)) (n8 x2 x3 x12 true Kn Ke0 Kr h) (n8 x2 x3 x12 false Kn Ke0 Kr h))
theorem n7_ok (x2 : Addr) (x3 : Addr) (x12 : Int) (Kn : T3) (Ke0 : T3) (Kr : T0) (g : Env) (hg : E4 g x2 x3 x12) (h : H) (hS : n7 x2 x3 x12 Kn Ke0 Kr h) : wpC none Try.prog 67 n6_c1 (Q2 Kn Ke0 Kr) g h := by
  obtain ⟨hg2, hg3, hg12, hds⟩ := hg
  refine wpC_seq' (x := n7_c1) (y := n7_c2) (Q' := (Q8 (fun z2 z3 z12 z13 h => n8 z2 z3 z12 z13 Kn Ke0 Kr h) Ke0 Kr)) (by kernel_rfl) ?_ ?_
  · refine wpC_of_wpx (by kernel_rfl) (by kernel_rfl) (g' := (((⟨g.v, []⟩ : Env).upd (some 2) (.pointer (some x2))).upd (some 3) (.pointer (some x3))).upd (some 12) (.int .u8 x12)) (by rw [env_ds hds, upd_self hg2, upd_self hg3, upd_self hg12]) ?_
    have e : (n7 x2 x3 x12 Kn Ke0 Kr h) = wpx none Try.prog 67 n7_c1 (Q8 (fun z2 z3 z12 z13 h => n8 z2 z3 z12 z13 Kn Ke0 Kr h) Ke0 Kr) ((((⟨g.v, []⟩ : Env).upd (some 2) (.pointer (some x2))).upd (some 3) (.pointer (some x3))).upd (some 12) (.int .u8 x12)) h := by kernel_rfl
    exact e ▸ hS
  · intro e g' h' hq
    cases e with
    | normal =>
      have hq : D5 (fun z2 z3 z12 z13 h => n8 z2 z3 z12 z13 Kn Ke0 Kr h) g' h' := hq
      obtain ⟨y2, y3, y12, y13, hg', hq⟩ := D5_ok hq
      exact n8_ok y2 y3 y12 y13 Kn Ke0 Kr g' hg' h' hq
    | _ => exact hq
abbrev n6 (x2 : Addr) (x3 : Addr) (x12 : Int) (Kn : T3) (Kr : T0) (h : H) : Prop := n7 x2 x3 x12 Kn Kn Kr h
theorem n6_ok (x2 : Addr) (x3 : Addr) (x12 : Int) (Kn : T3) (Kr : T0) (g : Env) (hg : E4 g x2 x3 x12) (h : H) (hS : n6 x2 x3 x12 Kn Kr h) : wpC none Try.prog 67 n5_c2 (Q1 Kn Kr) g h := by
  refine wpC_block' (id := 0) (x := n6_c1) (by kernel_rfl) (n7_ok x2 x3 x12 Kn Kn Kr g hg h hS) ?_
  intro e g' h' hq
  cases e <;> exact hq
def Q9 (Kn : T4) (Kr : T0) : XPost
  | .normal, g, h => D4 Kn g h
  | .ret, g, h => D0 Kr g h
  | _, _, _ => False
abbrev n5 (x2 : Addr) (x3 : Addr) (Kn : T3) (Kr : T0) (h : H) : Prop :=
  ∃ i195, cell h (x2.add 0) = some (.int .u8 i195) ∧ (n6 x2 x3 i195 Kn Kr h)
theorem n5_ok (x2 : Addr) (x3 : Addr) (Kn : T3) (Kr : T0) (g : Env) (hg : E2 g x2 x3) (h : H) (hS : n5 x2 x3 Kn Kr h) : wpC none Try.prog 67 n3_c1 (Q1 Kn Kr) g h := by
  obtain ⟨hg2, hg3, hds⟩ := hg
  refine wpC_seq' (x := n5_c1) (y := n5_c2) (Q' := (Q9 (fun z2 z3 z12 h => n6 z2 z3 z12 Kn Kr h) Kr)) (by kernel_rfl) ?_ ?_
  · refine wpC_of_wpx (by kernel_rfl) (by kernel_rfl) (g' := ((⟨g.v, []⟩ : Env).upd (some 2) (.pointer (some x2))).upd (some 3) (.pointer (some x3))) (by rw [env_ds hds, upd_self hg2, upd_self hg3]) ?_
    have e : (n5 x2 x3 Kn Kr h) = wpx none Try.prog 67 n5_c1 (Q9 (fun z2 z3 z12 h => n6 z2 z3 z12 Kn Kr h) Kr) (((⟨g.v, []⟩ : Env).upd (some 2) (.pointer (some x2))).upd (some 3) (.pointer (some x3))) h := by kernel_rfl
    exact e ▸ hS
  · intro e g' h' hq
    cases e with
    | normal =>
      have hq : D4 (fun z2 z3 z12 h => n6 z2 z3 z12 Kn Kr h) g' h' := hq
      obtain ⟨y2, y3, y12, hg', hq⟩ := D4_ok hq
      exact n6_ok y2 y3 y12 Kn Kr g' hg' h' hq
    | _ => exact hq
abbrev n3 (x2 : Addr) (x3 : Addr) (Kn : T0) (Kr : T0) (h : H) : Prop := n5 x2 x3 (fun  h => n4 Kn Kr h) Kr h
theorem n3_ok (x2 : Addr) (x3 : Addr) (Kn : T0) (Kr : T0) (g : Env) (hg : E2 g x2 x3) (h : H) (hS : n3 x2 x3 Kn Kr h) : wpC none Try.prog 67 n2_c2 (Q0 Kn Kr) g h := by
  refine wpC_seq' (x := n3_c1) (y := n3_c2) (by kernel_rfl) (n5_ok x2 x3 (fun  h => n4 Kn Kr h) Kr g hg h hS) ?_
  intro e g' h' hq
  cases e with
  | normal =>
    have hq : D3 (fun  h => n4 Kn Kr h) g' h' := hq
    obtain ⟨hg', hq⟩ := D3_ok hq
    exact n4_ok  Kn Kr g' hg' h' hq
  | _ => exact hq
def Q10 (Kn : T2) (Kr : T0) : XPost
  | .normal, g, h => D2 Kn g h
  | .ret, g, h => D0 Kr g h
  | _, _, _ => False
abbrev n2 (x2 : Addr) (x3 : Addr) (Kn : T0) (Kr : T0) (h : H) : Prop :=
  ∃ i196, cell h (x2.add 0) = some (.int .u8 i196) ∧ (∃ i197, cell h (x3.add 0) = some (.int .u8 i197) ∧ (Spl (i196 = i197) (n3 x2 x3 Kn Kr h) (Kr false h)))
theorem n2_ok (x2 : Addr) (x3 : Addr) (Kn : T0) (Kr : T0) (g : Env) (hg : E2 g x2 x3) (h : H) (hS : n2 x2 x3 Kn Kr h) : wpC none Try.prog 67 n1_c2 (Q0 Kn Kr) g h := by
  obtain ⟨hg2, hg3, hds⟩ := hg
  refine wpC_seq' (x := n2_c1) (y := n2_c2) (Q' := (Q10 (fun z2 z3 h => n3 z2 z3 Kn Kr h) Kr)) (by kernel_rfl) ?_ ?_
  · refine wpC_of_wpx (by kernel_rfl) (by kernel_rfl) (g' := ((⟨g.v, []⟩ : Env).upd (some 2) (.pointer (some x2))).upd (some 3) (.pointer (some x3))) (by rw [env_ds hds, upd_self hg2, upd_self hg3]) ?_
    have e : (n2 x2 x3 Kn Kr h) = wpx none Try.prog 67 n2_c1 (Q10 (fun z2 z3 h => n3 z2 z3 Kn Kr h) Kr) (((⟨g.v, []⟩ : Env).upd (some 2) (.pointer (some x2))).upd (some 3) (.pointer (some x3))) h := by kernel_rfl
    exact e ▸ hS
  · intro e g' h' hq
    cases e with
    | normal =>
      have hq : D2 (fun z2 z3 h => n3 z2 z3 Kn Kr h) g' h' := hq
      obtain ⟨y2, y3, hg', hq⟩ := D2_ok hq
      exact n3_ok y2 y3 Kn Kr g' hg' h' hq
    | _ => exact hq
abbrev n1 (x0_0 : Int) (x0_1 : Int) (x0_2 : List UInt8) (x0_3b : Option Addr) (x0_3n : Nat) (x0_3c : Nat) (x0_4 : List UInt8) (x0_5b : Option Addr) (x0_5n : Nat) (x0_5c : Nat) (x1_0 : Int) (x1_1 : Int) (x1_2 : List UInt8) (x1_3b : Option Addr) (x1_3n : Nat) (x1_3c : Nat) (x1_4 : List UInt8) (x1_5b : Option Addr) (x1_5n : Nat) (x1_5c : Nat) (Kn : T0) (Kr : T0) (h : H) : Prop :=
  newx h ⟨[(.int .u8 x0_0), (.int .u8 x0_1), (S x0_2), (.slice x0_3b x0_3n x0_3c), (S x0_4), (.slice x0_5b x0_5n x0_5c)]⟩ 31 fun a198 h199 => newx h199 ⟨[(.int .u8 x1_0), (.int .u8 x1_1), (S x1_2), (.slice x1_3b x1_3n x1_3c), (S x1_4), (.slice x1_5b x1_5n x1_5c)]⟩ 31 fun a200 h201 => n2 a198 a200 Kn Kr h201
theorem n1_ok (x0_0 : Int) (x0_1 : Int) (x0_2 : List UInt8) (x0_3b : Option Addr) (x0_3n : Nat) (x0_3c : Nat) (x0_4 : List UInt8) (x0_5b : Option Addr) (x0_5n : Nat) (x0_5c : Nat) (x1_0 : Int) (x1_1 : Int) (x1_2 : List UInt8) (x1_3b : Option Addr) (x1_3n : Nat) (x1_3c : Nat) (x1_4 : List UInt8) (x1_5b : Option Addr) (x1_5n : Nat) (x1_5c : Nat) (Kn : T0) (Kr : T0) (g : Env) (hg : E1 g x0_0 x0_1 x0_2 x0_3b x0_3n x0_3c x0_4 x0_5b x0_5n x0_5c x1_0 x1_1 x1_2 x1_3b x1_3n x1_3c x1_4 x1_5b x1_5n x1_5c) (h : H) (hS : n1 x0_0 x0_1 x0_2 x0_3b x0_3n x0_3c x0_4 x0_5b x0_5n x0_5c x1_0 x1_1 x1_2 x1_3b x1_3n x1_3c x1_4 x1_5b x1_5n x1_5c Kn Kr h) : wpC none Try.prog 67 code (Q0 Kn Kr) g h := by
  obtain ⟨hg0, hg1, hds⟩ := hg
  refine wpC_seq' (x := n1_c1) (y := n1_c2) (Q' := (Q10 (fun z2 z3 h => n2 z2 z3 Kn Kr h) Kr)) (by kernel_rfl) ?_ ?_
  · refine wpC_of_wpx (by kernel_rfl) (by kernel_rfl) (g' := ((⟨g.v, []⟩ : Env).upd (some 0) (.agg ⟨[(.int .u8 x0_0), (.int .u8 x0_1), (S x0_2), (.slice x0_3b x0_3n x0_3c), (S x0_4), (.slice x0_5b x0_5n x0_5c)]⟩)).upd (some 1) (.agg ⟨[(.int .u8 x1_0), (.int .u8 x1_1), (S x1_2), (.slice x1_3b x1_3n x1_3c), (S x1_4), (.slice x1_5b x1_5n x1_5c)]⟩)) (by rw [env_ds hds, upd_self hg0, upd_self hg1]) ?_
    have e : (n1 x0_0 x0_1 x0_2 x0_3b x0_3n x0_3c x0_4 x0_5b x0_5n x0_5c x1_0 x1_1 x1_2 x1_3b x1_3n x1_3c x1_4 x1_5b x1_5n x1_5c Kn Kr h) = wpx none Try.prog 67 n1_c1 (Q10 (fun z2 z3 h => n2 z2 z3 Kn Kr h) Kr) (((⟨g.v, []⟩ : Env).upd (some 0) (.agg ⟨[(.int .u8 x0_0), (.int .u8 x0_1), (S x0_2), (.slice x0_3b x0_3n x0_3c), (S x0_4), (.slice x0_5b x0_5n x0_5c)]⟩)).upd (some 1) (.agg ⟨[(.int .u8 x1_0), (.int .u8 x1_1), (S x1_2), (.slice x1_3b x1_3n x1_3c), (S x1_4), (.slice x1_5b x1_5n x1_5c)]⟩)) h := by kernel_rfl
    exact e ▸ hS
  · intro e g' h' hq
    cases e with
    | normal =>
      have hq : D2 (fun z2 z3 h => n2 z2 z3 Kn Kr h) g' h' := hq
      obtain ⟨y2, y3, hg', hq⟩ := D2_ok hq
      exact n2_ok y2 y3 Kn Kr g' hg' h' hq
    | _ => exact hq
/-- WHAT tympan/tympanref10.one ASKS -/
abbrev asks (x0_0 : Int) (x0_1 : Int) (x0_2 : List UInt8) (x0_3b : Option Addr) (x0_3n : Nat) (x0_3c : Nat) (x0_4 : List UInt8) (x0_5b : Option Addr) (x0_5n : Nat) (x0_5c : Nat) (x1_0 : Int) (x1_1 : Int) (x1_2 : List UInt8) (x1_3b : Option Addr) (x1_3n : Nat) (x1_3c : Nat) (x1_4 : List UInt8) (x1_5b : Option Addr) (x1_5n : Nat) (x1_5c : Nat) (K : Value → H → Prop) (h : H) : Prop := n1 x0_0 x0_1 x0_2 x0_3b x0_3n x0_3c x0_4 x0_5b x0_5n x0_5c x1_0 x1_1 x1_2 x1_3b x1_3n x1_3c x1_4 x1_5b x1_5n x1_5c (fun y4 h => K (.bool y4) h) (fun y4 h => K (.bool y4) h) h
theorem ok (x0_0 : Int) (x0_1 : Int) (x0_2 : List UInt8) (x0_3b : Option Addr) (x0_3n : Nat) (x0_3c : Nat) (x0_4 : List UInt8) (x0_5b : Option Addr) (x0_5n : Nat) (x0_5c : Nat) (x1_0 : Int) (x1_1 : Int) (x1_2 : List UInt8) (x1_3b : Option Addr) (x1_3n : Nat) (x1_3c : Nat) (x1_4 : List UInt8) (x1_5b : Option Addr) (x1_5n : Nat) (x1_5c : Nat) (K : Value → H → Prop) (h : H) (hS : asks x0_0 x0_1 x0_2 x0_3b x0_3n x0_3c x0_4 x0_5b x0_5n x0_5c x1_0 x1_1 x1_2 x1_3b x1_3n x1_3c x1_4 x1_5b x1_5n x1_5c K h) : HCalls Try.prog 56 ⟨[(.agg ⟨[(.int .u8 x0_0), (.int .u8 x0_1), (S x0_2), (.slice x0_3b x0_3n x0_3c), (S x0_4), (.slice x0_5b x0_5n x0_5c)]⟩), (.agg ⟨[(.int .u8 x1_0), (.int .u8 x1_1), (S x1_2), (.slice x1_3b x1_3n x1_3c), (S x1_4), (.slice x1_5b x1_5n x1_5c)]⟩)]⟩ h K := by
  refine calls_of_wpC (c := code) Try.func56 (by kernel_rfl) (Nat.le_of_ble_eq_true (by kernel_rfl)) ?_
  refine (n1_ok x0_0 x0_1 x0_2 x0_3b x0_3n x0_3c x0_4 x0_5b x0_5n x0_5c x1_0 x1_1 x1_2 x1_3b x1_3n x1_3c x1_4 x1_5b x1_5n x1_5c (fun y4 h => K (.bool y4) h) (fun y4 h => K (.bool y4) h) (env0 [(.agg ⟨[(.int .u8 x0_0), (.int .u8 x0_1), (S x0_2), (.slice x0_3b x0_3n x0_3c), (S x0_4), (.slice x0_5b x0_5n x0_5c)]⟩), (.agg ⟨[(.int .u8 x1_0), (.int .u8 x1_1), (S x1_2), (.slice x1_3b x1_3n x1_3c), (S x1_4), (.slice x1_5b x1_5n x1_5c)]⟩)]) ⟨rfl, rfl, rfl⟩ h hS).mono ?_
  intro e g' h' hq
  cases e with
  | normal =>
    have hq : D0 (fun y4 h => K (.bool y4) h) g' h' := hq
    obtain ⟨y4, ⟨hg4, hd⟩, hq⟩ := D0_ok hq
    show leaveX g'.ds h' _
    rw [hd]
    show K (g'.v 4) h'
    rw [hg4]
    exact hq
  | ret =>
    have hq : D0 (fun y4 h => K (.bool y4) h) g' h' := hq
    obtain ⟨y4, ⟨hg4, hd⟩, hq⟩ := D0_ok hq
    show leaveX g'.ds h' _
    rw [hd]
    show K (g'.v 4) h'
    rw [hg4]
    exact hq
  | _ => exact hq
end Sx.r10_one

/-! ### tympan/tympanref10.Print -/
namespace Sx.r10_Print
noncomputable def code : Code := bodyOf Try.f33
abbrev T0 := (List UInt8) → H → Prop
def E0 (g : Env) (x2 : List UInt8) : Prop := g.v 2 = (S x2) ∧ g.ds = []
def D0 (K : T0) (g : Env) (h : H) : Prop := nilDs g.ds (vStr (g.v 2) fun s1 => K s1 h)
theorem D0_ok {K : T0} {g : Env} {h : H} (hq : D0 K g h) : ∃ (x2 : List UInt8), E0 g x2 ∧ K x2 h := by
  obtain ⟨hd, hq⟩ := nilDs_ok hq
  obtain ⟨y3, e2, q4⟩ := vStr_ok hq
  exact ⟨y3, ⟨e2, hd⟩, q4⟩
def Q0 (Kn : T0) (Kr : T0) : XPost
  | .normal, g, h => D0 Kn g h
  | .ret, g, h => D0 Kr g h
  | _, _, _ => False
abbrev T1 := (Option Addr) → Nat → Nat → H → Prop
def E1 (g : Env) (x0b : Option Addr) (x0n : Nat) (x0c : Nat) : Prop := g.v 0 = (.slice x0b x0n x0c) ∧ g.ds = []
def D1 (K : T1) (g : Env) (h : H) : Prop := nilDs g.ds (vSlice (g.v 0) fun s5b s5n s5c => K s5b s5n s5c h)
theorem D1_ok {K : T1} {g : Env} {h : H} (hq : D1 K g h) : ∃ (x0b : Option Addr) (x0n : Nat) (x0c : Nat), E1 g x0b x0n x0c ∧ K x0b x0n x0c h := by
  obtain ⟨hd, hq⟩ := nilDs_ok hq
  obtain ⟨y7b, y7n, y7c, e6, q8⟩ := vSlice_ok hq
  exact ⟨y7b, y7n, y7c, ⟨e6, hd⟩, q8⟩
abbrev n1 (x0b : Option Addr) (x0n : Nat) (x0c : Nat) (Kn : T0) (Kr : T0) (h : H) : Prop :=
  HCalls Try.prog 62 ⟨[(.slice x0b x0n x0c), (S ([] : List UInt8))]⟩ h fun v9 h10 => vStr v9 fun s11 => Kr s11 h10
theorem n1_ok (x0b : Option Addr) (x0n : Nat) (x0c : Nat) (Kn : T0) (Kr : T0) (g : Env) (hg : E1 g x0b x0n x0c) (h : H) (hS : n1 x0b x0n x0c Kn Kr h) : wpC none Try.prog 5 code (Q0 Kn Kr) g h := by
  obtain ⟨hg0, hds⟩ := hg
  refine wpC_of_wpx (by kernel_rfl) (by kernel_rfl) (g' := (⟨g.v, []⟩ : Env).upd (some 0) (.slice x0b x0n x0c)) (by rw [env_ds hds, upd_self hg0]) ?_
  have e : (n1 x0b x0n x0c Kn Kr h) = wpx none Try.prog 5 code (Q0 Kn Kr) ((⟨g.v, []⟩ : Env).upd (some 0) (.slice x0b x0n x0c)) h := by kernel_rfl
  exact e ▸ hS
/-- WHAT tympan/tympanref10.Print ASKS -/
abbrev asks (x0b : Option Addr) (x0n : Nat) (x0c : Nat) (K : Value → H → Prop) (h : H) : Prop := n1 x0b x0n x0c (fun y2 h => K (S y2) h) (fun y2 h => K (S y2) h) h
theorem ok (x0b : Option Addr) (x0n : Nat) (x0c : Nat) (K : Value → H → Prop) (h : H) (hS : asks x0b x0n x0c K h) : HCalls Try.prog 33 ⟨[(.slice x0b x0n x0c)]⟩ h K := by
  refine calls_of_wpC (c := code) Try.func33 (by kernel_rfl) (Nat.le_of_ble_eq_true (by kernel_rfl)) ?_
  refine (n1_ok x0b x0n x0c (fun y2 h => K (S y2) h) (fun y2 h => K (S y2) h) (env0 [(.slice x0b x0n x0c)]) ⟨rfl, rfl⟩ h hS).mono ?_
  intro e g' h' hq
  cases e with
  | normal =>
    have hq : D0 (fun y2 h => K (S y2) h) g' h' := hq
    obtain ⟨y2, ⟨hg2, hd⟩, hq⟩ := D0_ok hq
    show leaveX g'.ds h' _
    rw [hd]
    show K (g'.v 2) h'
    rw [hg2]
    exact hq
  | ret =>
    have hq : D0 (fun y2 h => K (S y2) h) g' h' := hq
    obtain ⟨y2, ⟨hg2, hd⟩, hq⟩ := D0_ok hq
    show leaveX g'.ds h' _
    rw [hd]
    show K (g'.v 2) h'
    rw [hg2]
    exact hq
  | _ => exact hq
end Sx.r10_Print

/-! ### tympan/tympanref10.lines -/
namespace Sx.r10_lines
noncomputable def code : Code := bodyOf Try.f62
abbrev T0 := (List UInt8) → H → Prop
def E0 (g : Env) (x4 : List UInt8) : Prop := g.v 4 = (S x4) ∧ g.ds = []
def D0 (K : T0) (g : Env) (h : H) : Prop := nilDs g.ds (vStr (g.v 4) fun s1 => K s1 h)
theorem D0_ok {K : T0} {g : Env} {h : H} (hq : D0 K g h) : ∃ (x4 : List UInt8), E0 g x4 ∧ K x4 h := by
  obtain ⟨hd, hq⟩ := nilDs_ok hq
  obtain ⟨y3, e2, q4⟩ := vStr_ok hq
  exact ⟨y3, ⟨e2, hd⟩, q4⟩
def Q0 (Kn : T0) (Kr : T0) : XPost
  | .normal, g, h => D0 Kn g h
  | .ret, g, h => D0 Kr g h
  | _, _, _ => False
abbrev T1 := (Option Addr) → Nat → Nat → (List UInt8) → H → Prop
def E1 (g : Env) (x0b : Option Addr) (x0n : Nat) (x0c : Nat) (x1 : List UInt8) : Prop := g.v 0 = (.slice x0b x0n x0c) ∧ g.v 1 = (S x1) ∧ g.ds = []
def D1 (K : T1) (g : Env) (h : H) : Prop := nilDs g.ds (vSlice (g.v 0) fun s5b s5n s5c => vStr (g.v 1) fun s6 => K s5b s5n s5c s6 h)
theorem D1_ok {K : T1} {g : Env} {h : H} (hq : D1 K g h) : ∃ (x0b : Option Addr) (x0n : Nat) (x0c : Nat) (x1 : List UInt8), E1 g x0b x0n x0c x1 ∧ K x0b x0n x0c x1 h := by
  obtain ⟨hd, hq⟩ := nilDs_ok hq
  obtain ⟨y8b, y8n, y8c, e7, q9⟩ := vSlice_ok hq
  obtain ⟨y11, e10, q12⟩ := vStr_ok q9
  exact ⟨y8b, y8n, y8c, y11, ⟨e7, e10, hd⟩, q12⟩
noncomputable def n1_c1 : Code := cFst code
noncomputable def n1_c2 : Code := cSnd code
noncomputable def n2_c1 : Code := cFst n1_c2
noncomputable def n2_c2 : Code := cSnd n1_c2
abbrev T2 := (Option Addr) → Nat → Nat → (List UInt8) → (List UInt8) → H → Prop
def E2 (g : Env) (x0b : Option Addr) (x0n : Nat) (x0c : Nat) (x1 : List UInt8) (x5 : List UInt8) : Prop := g.v 0 = (.slice x0b x0n x0c) ∧ g.v 1 = (S x1) ∧ g.v 5 = (S x5) ∧ g.ds = []
def D2 (K : T2) (g : Env) (h : H) : Prop := nilDs g.ds (vSlice (g.v 0) fun s13b s13n s13c => vStr (g.v 1) fun s14 => vStr (g.v 5) fun s15 => K s13b s13n s13c s14 s15 h)
theorem D2_ok {K : T2} {g : Env} {h : H} (hq : D2 K g h) : ∃ (x0b : Option Addr) (x0n : Nat) (x0c : Nat) (x1 : List UInt8) (x5 : List UInt8), E2 g x0b x0n x0c x1 x5 ∧ K x0b x0n x0c x1 x5 h := by
  obtain ⟨hd, hq⟩ := nilDs_ok hq
  obtain ⟨y17b, y17n, y17c, e16, q18⟩ := vSlice_ok hq
  obtain ⟨y20, e19, q21⟩ := vStr_ok q18
  obtain ⟨y23, e22, q24⟩ := vStr_ok q21
  exact ⟨y17b, y17n, y17c, y20, y23, ⟨e16, e19, e22, hd⟩, q24⟩
noncomputable def n3_c1 : Code := cFst n2_c2
noncomputable def n3_c2 : Code := cSnd n2_c2
abbrev T3 := (List UInt8) → H → Prop
def E3 (g : Env) (x5 : List UInt8) : Prop := g.v 5 = (S x5) ∧ g.ds = []
def D3 (K : T3) (g : Env) (h : H) : Prop := nilDs g.ds (vStr (g.v 5) fun s25 => K s25 h)
theorem D3_ok {K : T3} {g : Env} {h : H} (hq : D3 K g h) : ∃ (x5 : List UInt8), E3 g x5 ∧ K x5 h := by
  obtain ⟨hd, hq⟩ := nilDs_ok hq
  obtain ⟨y27, e26, q28⟩ := vStr_ok hq
  exact ⟨y27, ⟨e26, hd⟩, q28⟩
abbrev n4 (x5 : List UInt8) (Kn : T0) (Kr : T0) (h : H) : Prop :=
  Kr x5 h
theorem n4_ok (x5 : List UInt8) (Kn : T0) (Kr : T0) (g : Env) (hg : E3 g x5) (h : H) (hS : n4 x5 Kn Kr h) : wpC none Try.prog 95 n3_c2 (Q0 Kn Kr) g h := by
  obtain ⟨hg5, hds⟩ := hg
  refine wpC_of_wpx (by kernel_rfl) (by kernel_rfl) (g' := (⟨g.v, []⟩ : Env).upd (some 5) (S x5)) (by rw [env_ds hds, upd_self hg5]) ?_
  have e : (n4 x5 Kn Kr h) = wpx none Try.prog 95 n3_c2 (Q0 Kn Kr) ((⟨g.v, []⟩ : Env).upd (some 5) (S x5)) h := by kernel_rfl
  exact e ▸ hS
def Q1 (Kn : T3) (Kr : T0) : XPost
  | .normal, g, h => D3 Kn g h
  | .ret, g, h => D0 Kr g h
  | _, _, _ => False
noncomputable def n5_c1 : Code := cFst n3_c1
noncomputable def n5_c2 : Code := cSnd n3_c1
abbrev T4 := (Option Addr) → Nat → Nat → (List UInt8) → (List UInt8) → Int → H → Prop
def E4 (g : Env) (x0b : Option Addr) (x0n : Nat) (x0c : Nat) (x1 : List UInt8) (x5 : List UInt8) (x6 : Int) : Prop := g.v 0 = (.slice x0b x0n x0c) ∧ g.v 1 = (S x1) ∧ g.v 5 = (S x5) ∧ g.v 6 = (.int .i64 x6) ∧ g.ds = []
def D4 (K : T4) (g : Env) (h : H) : Prop := nilDs g.ds (vSlice (g.v 0) fun s29b s29n s29c => vStr (g.v 1) fun s30 => vStr (g.v 5) fun s31 => vInt .i64 (g.v 6) fun i32 => K s29b s29n s29c s30 s31 i32 h)
theorem D4_ok {K : T4} {g : Env} {h : H} (hq : D4 K g h) : ∃ (x0b : Option Addr) (x0n : Nat) (x0c : Nat) (x1 : List UInt8) (x5 : List UInt8) (x6 : Int), E4 g x0b x0n x0c x1 x5 x6 ∧ K x0b x0n x0c x1 x5 x6 h := by
  obtain ⟨hd, hq⟩ := nilDs_ok hq
  obtain ⟨y34b, y34n, y34c, e33, q35⟩ := vSlice_ok hq
  obtain ⟨y37, e36, q38⟩ := vStr_ok q35
  obtain ⟨y40, e39, q41⟩ := vStr_ok q38
  obtain ⟨y43, e42, q44⟩ := vInt_ok q41
  exact ⟨y34b, y34n, y34c, y37, y40, y43, ⟨e33, e36, e39, e42, hd⟩, q44⟩
noncomputable def n6_c1 : Code := cFst n5_c2
def Q2 (Kn : T3) (Ke0 : T3) (Kr : T0) : XPost
  | .normal, g, h => D3 Kn g h
  | .ret, g, h => D0 Kr g h
  | .exit id, g, h => cond (Nat.beq id 0) (D3 Ke0 g h) (False)
  | _, _, _ => False
noncomputable def n7_c1 : Code := cFst n6_c1
def Q3 (Kn : T4) (Ke0 : T3) (Kr : T0) : XPost
  | .normal, g, h => D4 Kn g h
  | .ret, g, h => D0 Kr g h
  | .exit id, g, h => cond (Nat.beq id 0) (D3 Ke0 g h) (False)
  | _, _, _ => False
noncomputable def n8_c1 : Code := cFst n7_c1
noncomputable def n8_c2 : Code := cSnd n7_c1
noncomputable def n9_c1 : Code := cFst n8_c2
noncomputable def n9_c2 : Code := cSnd n8_c2
abbrev n10 (x0b : Option Addr) (x0n : Nat) (x0c : Nat) (x1 : List UInt8) (x5 : List UInt8) (x6 : Int) (Kn : T4) (Ke0 : T3) (Kr : T0) (h : H) : Prop :=
  Rng .i64 (x6 + (1 : Int)) ∧ (Kn x0b x0n x0c x1 x5 (x6 + (1 : Int)) h)
theorem n10_ok (x0b : Option Addr) (x0n : Nat) (x0c : Nat) (x1 : List UInt8) (x5 : List UInt8) (x6 : Int) (Kn : T4) (Ke0 : T3) (Kr : T0) (g : Env) (hg : E4 g x0b x0n x0c x1 x5 x6) (h : H) (hS : n10 x0b x0n x0c x1 x5 x6 Kn Ke0 Kr h) : wpC none Try.prog 95 n9_c2 (Q3 Kn Ke0 Kr) g h := by
  obtain ⟨hg0, hg1, hg5, hg6, hds⟩ := hg
  refine wpC_of_wpx (by kernel_rfl) (by kernel_rfl) (g' := ((((⟨g.v, []⟩ : Env).upd (some 0) (.slice x0b x0n x0c)).upd (some 1) (S x1)).upd (some 5) (S x5)).upd (some 6) (.int .i64 x6)) (by rw [env_ds hds, upd_self hg0, upd_self hg1, upd_self hg5, upd_self hg6]) ?_
  have e : (n10 x0b x0n x0c x1 x5 x6 Kn Ke0 Kr h) = wpx none Try.prog 95 n9_c2 (Q3 Kn Ke0 Kr) (((((⟨g.v, []⟩ : Env).upd (some 0) (.slice x0b x0n x0c)).upd (some 1) (S x1)).upd (some 5) (S x5)).upd (some 6) (.int .i64 x6)) h := by kernel_rfl
  exact e ▸ hS
noncomputable def n11_c1 : Code := cFst n9_c1
def Q4 (Kn : T4) (Ke1 : T4) (Ke0 : T3) (Kr : T0) : XPost
  | .normal, g, h => D4 Kn g h
  | .ret, g, h => D0 Kr g h
  | .exit id, g, h => cond (Nat.beq id 1) (D4 Ke1 g h) (cond (Nat.beq id 0) (D3 Ke0 g h) (False))
  | _, _, _ => False
noncomputable def n12_c1 : Code := cFst n11_c1
noncomputable def n12_c2 : Code := cSnd n11_c1
abbrev T5 := (Option Addr) → Nat → Nat → (List UInt8) → (List UInt8) → Int → Addr → H → Prop
def E5 (g : Env) (x0b : Option Addr) (x0n : Nat) (x0c : Nat) (x1 : List UInt8) (x5 : List UInt8) (x6 : Int) (x7 : Addr) : Prop := g.v 0 = (.slice x0b x0n x0c) ∧ g.v 1 = (S x1) ∧ g.v 5 = (S x5) ∧ g.v 6 = (.int .i64 x6) ∧ g.v 7 = (.pointer (some x7)) ∧ g.ds = []
def D5 (K : T5) (g : Env) (h : H) : Prop := nilDs g.ds (vSlice (g.v 0) fun s45b s45n s45c => vStr (g.v 1) fun s46 => vStr (g.v 5) fun s47 => vInt .i64 (g.v 6) fun i48 => vAddr (g.v 7) fun a49 => K s45b s45n s45c s46 s47 i48 a49 h)
theorem D5_ok {K : T5} {g : Env} {h : H} (hq : D5 K g h) : ∃ (x0b : Option Addr) (x0n : Nat) (x0c : Nat) (x1 : List UInt8) (x5 : List UInt8) (x6 : Int) (x7 : Addr), E5 g x0b x0n x0c x1 x5 x6 x7 ∧ K x0b x0n x0c x1 x5 x6 x7 h := by
  obtain ⟨hd, hq⟩ := nilDs_ok hq
  obtain ⟨y51b, y51n, y51c, e50, q52⟩ := vSlice_ok hq
  obtain ⟨y54, e53, q55⟩ := vStr_ok q52
  obtain ⟨y57, e56, q58⟩ := vStr_ok q55
  obtain ⟨y60, e59, q61⟩ := vInt_ok q58
  obtain ⟨y63, e62, q64⟩ := vAddr_ok q61
  exact ⟨y51b, y51n, y51c, y54, y57, y60, y63, ⟨e50, e53, e56, e59, e62, hd⟩, q64⟩
noncomputable def n13_c1 : Code := cFst n12_c2
noncomputable def n13_c2 : Code := cSnd n12_c2
abbrev T6 := (Option Addr) → Nat → Nat → (List UInt8) → (List UInt8) → Int → Addr → Int → H → Prop
def E6 (g : Env) (x0b : Option Addr) (x0n : Nat) (x0c : Nat) (x1 : List UInt8) (x5 : List UInt8) (x6 : Int) (x7 : Addr) (x21 : Int) : Prop := g.v 0 = (.slice x0b x0n x0c) ∧ g.v 1 = (S x1) ∧ g.v 5 = (S x5) ∧ g.v 6 = (.int .i64 x6) ∧ g.v 7 = (.pointer (some x7)) ∧ g.v 21 = (.int .u8 x21) ∧ g.ds = []
def D6 (K : T6) (g : Env) (h : H) : Prop := nilDs g.ds (vSlice (g.v 0) fun s65b s65n s65c => vStr (g.v 1) fun s66 => vStr (g.v 5) fun s67 => vInt .i64 (g.v 6) fun i68 => vAddr (g.v 7) fun a69 => vInt .u8 (g.v 21) fun i70 => K s65b s65n s65c s66 s67 i68 a69 i70 h)
theorem D6_ok {K : T6} {g : Env} {h : H} (hq : D6 K g h) : ∃ (x0b : Option Addr) (x0n : Nat) (x0c : Nat) (x1 : List UInt8) (x5 : List UInt8) (x6 : Int) (x7 : Addr) (x21 : Int), E6 g x0b x0n x0c x1 x5 x6 x7 x21 ∧ K x0b x0n x0c x1 x5 x6 x7 x21 h := by
  obtain ⟨hd, hq⟩ := nilDs_ok hq
  obtain ⟨y72b, y72n, y72c, e71, q73⟩ := vSlice_ok hq
  obtain ⟨y75, e74, q76⟩ := vStr_ok q73
  obtain ⟨y78, e77, q79⟩ := vStr_ok q76
  obtain ⟨y81, e80, q82⟩ := vInt_ok q79
  obtain ⟨y84, e83, q85⟩ := vAddr_ok q82
  obtain ⟨y87, e86, q88⟩ := vInt_ok q85
  exact ⟨y72b, y72n, y72c, y75, y78, y81, y84, y87, ⟨e71, e74, e77, e80, e83, e86, hd⟩, q88⟩
noncomputable def n14_c1 : Code := cFst n13_c2
def Q5 (Kn : T4) (Ke2 : T4) (Ke1 : T4) (Ke0 : T3) (Kr : T0) : XPost
  | .normal, g, h => D4 Kn g h
  | .ret, g, h => D0 Kr g h
  | .exit id, g, h => cond (Nat.beq id 2) (D4 Ke2 g h) (cond (Nat.beq id 1) (D4 Ke1 g h) (cond (Nat.beq id 0) (D3 Ke0 g h) (False)))
  | _, _, _ => False
noncomputable def n15_c1 : Code := cFst n14_c1
noncomputable def n15_c2 : Code := cSnd n14_c1
abbrev T7 := (Option Addr) → Nat → Nat → (List UInt8) → (List UInt8) → Int → Addr → Int → Bool → H → Prop
def E7 (g : Env) (x0b : Option Addr) (x0n : Nat) (x0c : Nat) (x1 : List UInt8) (x5 : List UInt8) (x6 : Int) (x7 : Addr) (x21 : Int) (x22 : Bool) : Prop := g.v 0 = (.slice x0b x0n x0c) ∧ g.v 1 = (S x1) ∧ g.v 5 = (S x5) ∧ g.v 6 = (.int .i64 x6) ∧ g.v 7 = (.pointer (some x7)) ∧ g.v 21 = (.int .u8 x21) ∧ g.v 22 = (.bool x22) ∧ g.ds = []
def D7 (K : T7) (g : Env) (h : H) : Prop := nilDs g.ds (vSlice (g.v 0) fun s89b s89n s89c => vStr (g.v 1) fun s90 => vStr (g.v 5) fun s91 => vInt .i64 (g.v 6) fun i92 => vAddr (g.v 7) fun a93 => vInt .u8 (g.v 21) fun i94 => vBool (g.v 22) fun b95 => K s89b s89n s89c s90 s91 i92 a93 i94 b95 h)
theorem D7_ok {K : T7} {g : Env} {h : H} (hq : D7 K g h) : ∃ (x0b : Option Addr) (x0n : Nat) (x0c : Nat) (x1 : List UInt8) (x5 : List UInt8) (x6 : Int) (x7 : Addr) (x21 : Int) (x22 : Bool), E7 g x0b x0n x0c x1 x5 x6 x7 x21 x22 ∧ K x0b x0n x0c x1 x5 x6 x7 x21 x22 h := by
  obtain ⟨hd, hq⟩ := nilDs_ok hq
  obtain ⟨y97b, y97n, y97c, e96, q98⟩ := vSlice_ok hq
  obtain ⟨y100, e99, q101⟩ := vStr_ok q98
  obtain ⟨y103, e102, q104⟩ := vStr_ok q101
  obtain ⟨y106, e105, q107⟩ := vInt_ok q104
  obtain ⟨y109, e108, q110⟩ := vAddr_ok q107
  obtain ⟨y112, e111, q113⟩ := vInt_ok q110
  obtain ⟨y115, e114, q116⟩ := vBool_ok q113
  exact ⟨y97b, y97n, y97c, y100, y103, y106, y109, y112, y115, ⟨e96, e99, e102, e105, e108, e111, e114, hd⟩, q116⟩
noncomputable def n16_c1 : Code := cFst n15_c2
noncomputable def n16_c2 : Code := cSnd n15_c2
abbrev n17 (x0b : Option Addr) (x0n : Nat) (x0c : Nat) (x1 : List UInt8) (x5 : List UInt8) (x6 : Int) (x7 : Addr) (Kn : T4) (Ke2 : T4) (Ke1 : T4) (Ke0 : T3) (Kr : T0) (h : H) : Prop :=
  ((x5.length + x1.length : Nat) : Int) ≤ 9223372036854775807 ∧ ((((x5 ++ x1).length + ([34] : List UInt8).length : Nat) : Int) ≤ 9223372036854775807 ∧ (∃ s117, cell h (x7.add 4) = some (S s117) ∧ (((((x5 ++ x1) ++ ([34] : List UInt8)).length + s117.length : Nat) : Int) ≤ 9223372036854775807 ∧ ((((((x5 ++ x1) ++ ([34] : List UInt8)) ++ s117).length + ([34, 10] : List UInt8).length : Nat) : Int) ≤ 9223372036854775807 ∧ (Kn x0b x0n x0c x1 ((((x5 ++ x1) ++ ([34] : List UInt8)) ++ s117) ++ ([34, 10] : List UInt8)) x6 h)))))
theorem n17_ok (x0b : Option Addr) (x0n : Nat) (x0c : Nat) (x1 : List UInt8) (x5 : List UInt8) (x6 : Int) (x7 : Addr) (Kn : T4) (Ke2 : T4) (Ke1 : T4) (Ke0 : T3) (Kr : T0) (g : Env) (hg : E5 g x0b x0n x0c x1 x5 x6 x7) (h : H) (hS : n17 x0b x0n x0c x1 x5 x6 x7 Kn Ke2 Ke1 Ke0 Kr h) : wpC none Try.prog 95 n16_c1 (Q5 Kn Ke2 Ke1 Ke0 Kr) g h := by
  obtain ⟨hg0, hg1, hg5, hg6, hg7, hds⟩ := hg
  refine wpC_of_wpx (by kernel_rfl) (by kernel_rfl) (g' := (((((⟨g.v, []⟩ : Env).upd (some 0) (.slice x0b x0n x0c)).upd (some 1) (S x1)).upd (some 5) (S x5)).upd (some 6) (.int .i64 x6)).upd (some 7) (.pointer (some x7))) (by rw [env_ds hds, upd_self hg0, upd_self hg1, upd_self hg5, upd_self hg6, upd_self hg7]) ?_
  have e : (n17 x0b x0n x0c x1 x5 x6 x7 Kn Ke2 Ke1 Ke0 Kr h) = wpx none Try.prog 95 n16_c1 (Q5 Kn Ke2 Ke1 Ke0 Kr) ((((((⟨g.v, []⟩ : Env).upd (some 0) (.slice x0b x0n x0c)).upd (some 1) (S x1)).upd (some 5) (S x5)).upd (some 6) (.int .i64 x6)).upd (some 7) (.pointer (some x7))) h := by kernel_rfl
  exact e ▸ hS
noncomputable def n18_c1 : Code := cFst n16_c2
noncomputable def n18_c2 : Code := cSnd n16_c2
abbrev T8 := (Option Addr) → Nat → Nat → (List UInt8) → (List UInt8) → Int → Addr → Int → Bool → H → Prop
def E8 (g : Env) (x0b : Option Addr) (x0n : Nat) (x0c : Nat) (x1 : List UInt8) (x5 : List UInt8) (x6 : Int) (x7 : Addr) (x21 : Int) (x32 : Bool) : Prop := g.v 0 = (.slice x0b x0n x0c) ∧ g.v 1 = (S x1) ∧ g.v 5 = (S x5) ∧ g.v 6 = (.int .i64 x6) ∧ g.v 7 = (.pointer (some x7)) ∧ g.v 21 = (.int .u8 x21) ∧ g.v 32 = (.bool x32) ∧ g.ds = []
def D8 (K : T8) (g : Env) (h : H) : Prop := nilDs g.ds (vSlice (g.v 0) fun s118b s118n s118c => vStr (g.v 1) fun s119 => vStr (g.v 5) fun s120 => vInt .i64 (g.v 6) fun i121 => vAddr (g.v 7) fun a122 => vInt .u8 (g.v 21) fun i123 => vBool (g.v 32) fun b124 => K s118b s118n s118c s119 s120 i121 a122 i123 b124 h)
theorem D8_ok {K : T8} {g : Env} {h : H} (hq : D8 K g h) : ∃ (x0b : Option Addr) (x0n : Nat) (x0c : Nat) (x1 : List UInt8) (x5 : List UInt8) (x6 : Int) (x7 : Addr) (x21 : Int) (x32 : Bool), E8 g x0b x0n x0c x1 x5 x6 x7 x21 x32 ∧ K x0b x0n x0c x1 x5 x6 x7 x21 x32 h := by
  obtain ⟨hd, hq⟩ := nilDs_ok hq
  obtain ⟨y126b, y126n, y126c, e125, q127⟩ := vSlice_ok hq
  obtain ⟨y129, e128, q130⟩ := vStr_ok q127
  obtain ⟨y132, e131, q133⟩ := vStr_ok q130
  obtain ⟨y135, e134, q136⟩ := vInt_ok q133
  obtain ⟨y138, e137, q139⟩ := vAddr_ok q136
  obtain ⟨y141, e140, q142⟩ := vInt_ok q139
  obtain ⟨y144, e143, q145⟩ := vBool_ok q142
  exact ⟨y126b, y126n, y126c, y129, y132, y135, y138, y141, y144, ⟨e125, e128, e131, e134, e137, e140, e143, hd⟩, q145⟩
noncomputable def n19_c1 : Code := cFst n18_c2
noncomputable def n19_c2 : Code := cSnd n18_c2
abbrev n20 (x0b : Option Addr) (x0n : Nat) (x0c : Nat) (x1 : List UInt8) (x5 : List UInt8) (x6 : Int) (x7 : Addr) (Kn : T4) (Ke2 : T4) (Ke1 : T4) (Ke0 : T3) (Kr : T0) (h : H) : Prop :=
  ((x5.length + x1.length : Nat) : Int) ≤ 9223372036854775807 ∧ ((((x5 ++ x1).length + ([60, 33, 45, 45, 32] : List UInt8).length : Nat) : Int) ≤ 9223372036854775807 ∧ (∃ s146, cell h (x7.add 4) = some (S s146) ∧ (((((x5 ++ x1) ++ ([60, 33, 45, 45, 32] : List UInt8)).length + s146.length : Nat) : Int) ≤ 9223372036854775807 ∧ ((((((x5 ++ x1) ++ ([60, 33, 45, 45, 32] : List UInt8)) ++ s146).length + ([32, 45, 45, 62, 10] : List UInt8).length : Nat) : Int) ≤ 9223372036854775807 ∧ (Kn x0b x0n x0c x1 ((((x5 ++ x1) ++ ([60, 33, 45, 45, 32] : List UInt8)) ++ s146) ++ ([32, 45, 45, 62, 10] : List UInt8)) x6 h)))))
theorem n20_ok (x0b : Option Addr) (x0n : Nat) (x0c : Nat) (x1 : List UInt8) (x5 : List UInt8) (x6 : Int) (x7 : Addr) (Kn : T4) (Ke2 : T4) (Ke1 : T4) (Ke0 : T3) (Kr : T0) (g : Env) (hg : E5 g x0b x0n x0c x1 x5 x6 x7) (h : H) (hS : n20 x0b x0n x0c x1 x5 x6 x7 Kn Ke2 Ke1 Ke0 Kr h) : wpC none Try.prog 95 n19_c1 (Q5 Kn Ke2 Ke1 Ke0 Kr) g h := by
  obtain ⟨hg0, hg1, hg5, hg6, hg7, hds⟩ := hg
  refine wpC_of_wpx (by kernel_rfl) (by kernel_rfl) (g' := (((((⟨g.v, []⟩ : Env).upd (some 0) (.slice x0b x0n x0c)).upd (some 1) (S x1)).upd (some 5) (S x5)).upd (some 6) (.int .i64 x6)).upd (some 7) (.pointer (some x7))) (by rw [env_ds hds, upd_self hg0, upd_self hg1, upd_self hg5, upd_self hg6, upd_self hg7]) ?_
  have e : (n20 x0b x0n x0c x1 x5 x6 x7 Kn Ke2 Ke1 Ke0 Kr h) = wpx none Try.prog 95 n19_c1 (Q5 Kn Ke2 Ke1 Ke0 Kr) ((((((⟨g.v, []⟩ : Env).upd (some 0) (.slice x0b x0n x0c)).upd (some 1) (S x1)).upd (some 5) (S x5)).upd (some 6) (.int .i64 x6)).upd (some 7) (.pointer (some x7))) h := by kernel_rfl
  exact e ▸ hS
noncomputable def n21_c1 : Code := cFst n19_c2
noncomputable def n21_c2 : Code := cSnd n19_c2
abbrev T9 := (Option Addr) → Nat → Nat → (List UInt8) → (List UInt8) → Int → Addr → Bool → H → Prop
def E9 (g : Env) (x0b : Option Addr) (x0n : Nat) (x0c : Nat) (x1 : List UInt8) (x5 : List UInt8) (x6 : Int) (x7 : Addr) (x42 : Bool) : Prop := g.v 0 = (.slice x0b x0n x0c) ∧ g.v 1 = (S x1) ∧ g.v 5 = (S x5) ∧ g.v 6 = (.int .i64 x6) ∧ g.v 7 = (.pointer (some x7)) ∧ g.v 42 = (.bool x42) ∧ g.ds = []
def D9 (K : T9) (g : Env) (h : H) : Prop := nilDs g.ds (vSlice (g.v 0) fun s147b s147n s147c => vStr (g.v 1) fun s148 => vStr (g.v 5) fun s149 => vInt .i64 (g.v 6) fun i150 => vAddr (g.v 7) fun a151 => vBool (g.v 42) fun b152 => K s147b s147n s147c s148 s149 i150 a151 b152 h)
theorem D9_ok {K : T9} {g : Env} {h : H} (hq : D9 K g h) : ∃ (x0b : Option Addr) (x0n : Nat) (x0c : Nat) (x1 : List UInt8) (x5 : List UInt8) (x6 : Int) (x7 : Addr) (x42 : Bool), E9 g x0b x0n x0c x1 x5 x6 x7 x42 ∧ K x0b x0n x0c x1 x5 x6 x7 x42 h := by
  obtain ⟨hd, hq⟩ := nilDs_ok hq
  obtain ⟨y154b, y154n, y154c, e153, q155⟩ := vSlice_ok hq
  obtain ⟨y157, e156, q158⟩ := vStr_ok q155
  obtain ⟨y160, e159, q161⟩ := vStr_ok q158
  obtain ⟨y163, e162, q164⟩ := vInt_ok q161
  obtain ⟨y166, e165, q167⟩ := vAddr_ok q164
  obtain ⟨y169, e168, q170⟩ := vBool_ok q167
  exact ⟨y154b, y154n, y154c, y157, y160, y163, y166, y169, ⟨e153, e156, e159, e162, e165, e168, hd⟩, q170⟩
noncomputable def n22_c1 : Code := cFst n21_c2
noncomputable def n22_c2 : Code := cSnd n21_c2
noncomputable def n23_c1 : Code := cFst n22_c1
noncomputable def n23_c2 : Code := cSnd n22_c1
abbrev T10 := (Option Addr) → Nat → Nat → (List UInt8) → (List UInt8) → Int → Addr → (List UInt8) → H → Prop
def E10 (g : Env) (x0b : Option Addr) (x0n : Nat) (x0c : Nat) (x1 : List UInt8) (x5 : List UInt8) (x6 : Int) (x7 : Addr) (x8 : List UInt8) : Prop := g.v 0 = (.slice x0b x0n x0c) ∧ g.v 1 = (S x1) ∧ g.v 5 = (S x5) ∧ g.v 6 = (.int .i64 x6) ∧ g.v 7 = (.pointer (some x7)) ∧ g.v 8 = (S x8) ∧ g.ds = []
def D10 (K : T10) (g : Env) (h : H) : Prop := nilDs g.ds (vSlice (g.v 0) fun s171b s171n s171c => vStr (g.v 1) fun s172 => vStr (g.v 5) fun s173 => vInt .i64 (g.v 6) fun i174 => vAddr (g.v 7) fun a175 => vStr (g.v 8) fun s176 => K s171b s171n s171c s172 s173 i174 a175 s176 h)
theorem D10_ok {K : T10} {g : Env} {h : H} (hq : D10 K g h) : ∃ (x0b : Option Addr) (x0n : Nat) (x0c : Nat) (x1 : List UInt8) (x5 : List UInt8) (x6 : Int) (x7 : Addr) (x8 : List UInt8), E10 g x0b x0n x0c x1 x5 x6 x7 x8 ∧ K x0b x0n x0c x1 x5 x6 x7 x8 h := by
  obtain ⟨hd, hq⟩ := nilDs_ok hq
  obtain ⟨y178b, y178n, y178c, e177, q179⟩ := vSlice_ok hq
  obtain ⟨y181, e180, q182⟩ := vStr_ok q179
  obtain ⟨y184, e183, q185⟩ := vStr_ok q182
  obtain ⟨y187, e186, q188⟩ := vInt_ok q185
  obtain ⟨y190, e189, q191⟩ := vAddr_ok q188
  obtain ⟨y193, e192, q194⟩ := vStr_ok q191
  exact ⟨y178b, y178n, y178c, y181, y184, y187, y190, y193, ⟨e177, e180, e183, e186, e189, e192, hd⟩, q194⟩
noncomputable def n24_c1 : Code := cFst n23_c2
noncomputable def n24_c2 : Code := cSnd n23_c2
noncomputable def n25_c1 : Code := cFst n24_c2
noncomputable def n25_c2 : Code := cSnd n24_c2
noncomputable def n26_c1 : Code := cFst n25_c2
noncomputable def n26_c2 : Code := cSnd n25_c2
noncomputable def n27_c1 : Code := cFst n26_c2
noncomputable def n27_c2 : Code := cSnd n26_c2
abbrev n28 (x0b : Option Addr) (x0n : Nat) (x0c : Nat) (x1 : List UInt8) (x5 : List UInt8) (x6 : Int) (x7 : Addr) (Kn : T4) (Ke2 : T4) (Ke1 : T4) (Ke0 : T3) (Kr : T0) (h : H) : Prop :=
  ∃ s195b s195n s195c, cell h (x7.add 5) = some (.slice s195b s195n s195c) ∧ (((x1.length + ([32, 32] : List UInt8).length : Nat) : Int) ≤ 9223372036854775807 ∧ (HCalls Try.prog 62 ⟨[(.slice s195b s195n s195c), (S (x1 ++ ([32, 32] : List UInt8)))]⟩ h fun v196 h197 => vStr v196 fun s198 => ((x5.length + s198.length : Nat) : Int) ≤ 9223372036854775807 ∧ (Kn x0b x0n x0c x1 (x5 ++ s198) x6 h197)))
theorem n28_ok (x0b : Option Addr) (x0n : Nat) (x0c : Nat) (x1 : List UInt8) (x5 : List UInt8) (x6 : Int) (x7 : Addr) (Kn : T4) (Ke2 : T4) (Ke1 : T4) (Ke0 : T3) (Kr : T0) (g : Env) (hg : E5 g x0b x0n x0c x1 x5 x6 x7) (h : H) (hS : n28 x0b x0n x0c x1 x5 x6 x7 Kn Ke2 Ke1 Ke0 Kr h) : wpC none Try.prog 95 n27_c2 (Q5 Kn Ke2 Ke1 Ke0 Kr) g h := by
  obtain ⟨hg0, hg1, hg5, hg6, hg7, hds⟩ := hg
  refine wpC_of_wpx (by kernel_rfl) (by kernel_rfl) (g' := (((((⟨g.v, []⟩ : Env).upd (some 0) (.slice x0b x0n x0c)).upd (some 1) (S x1)).upd (some 5) (S x5)).upd (some 6) (.int .i64 x6)).upd (some 7) (.pointer (some x7))) (by rw [env_ds hds, upd_self hg0, upd_self hg1, upd_self hg5, upd_self hg6, upd_self hg7]) ?_
  have e : (n28 x0b x0n x0c x1 x5 x6 x7 Kn Ke2 Ke1 Ke0 Kr h) = wpx none Try.prog 95 n27_c2 (Q5 Kn Ke2 Ke1 Ke0 Kr) ((((((⟨g.v, []⟩ : Env).upd (some 0) (.slice x0b x0n x0c)).upd (some 1) (S x1)).upd (some 5) (S x5)).upd (some 6) (.int .i64 x6)).upd (some 7) (.pointer (some x7))) h := by kernel_rfl
  exact e ▸ hS
def Q6 (Kn : T5) (Ke2 : T4) (Ke1 : T4) (Ke0 : T3) (Kr : T0) : XPost
  | .normal, g, h => D5 Kn g h
  | .ret, g, h => D0 Kr g h
  | .exit id, g, h => cond (Nat.beq id 2) (D4 Ke2 g h) (cond (Nat.beq id 1) (D4 Ke1 g h) (cond (Nat.beq id 0) (D3 Ke0 g h) (False)))
  | _, _, _ => False
noncomputable def n29_c1 : Code := cFst n27_c1
noncomputable def n29_c2 : Code := cSnd n27_c1
abbrev T11 := (Option Addr) → Nat → Nat → (List UInt8) → (List UInt8) → Int → Addr → Int → H → Prop
def E11 (g : Env) (x0b : Option Addr) (x0n : Nat) (x0c : Nat) (x1 : List UInt8) (x5 : List UInt8) (x6 : Int) (x7 : Addr) (x9 : Int) : Prop := g.v 0 = (.slice x0b x0n x0c) ∧ g.v 1 = (S x1) ∧ g.v 5 = (S x5) ∧ g.v 6 = (.int .i64 x6) ∧ g.v 7 = (.pointer (some x7)) ∧ g.v 9 = (.int .i64 x9) ∧ g.ds = []
def D11 (K : T11) (g : Env) (h : H) : Prop := nilDs g.ds (vSlice (g.v 0) fun s199b s199n s199c => vStr (g.v 1) fun s200 => vStr (g.v 5) fun s201 => vInt .i64 (g.v 6) fun i202 => vAddr (g.v 7) fun a203 => vInt .i64 (g.v 9) fun i204 => K s199b s199n s199c s200 s201 i202 a203 i204 h)
theorem D11_ok {K : T11} {g : Env} {h : H} (hq : D11 K g h) : ∃ (x0b : Option Addr) (x0n : Nat) (x0c : Nat) (x1 : List UInt8) (x5 : List UInt8) (x6 : Int) (x7 : Addr) (x9 : Int), E11 g x0b x0n x0c x1 x5 x6 x7 x9 ∧ K x0b x0n x0c x1 x5 x6 x7 x9 h := by
  obtain ⟨hd, hq⟩ := nilDs_ok hq
  obtain ⟨y206b, y206n, y206c, e205, q207⟩ := vSlice_ok hq
  obtain ⟨y209, e208, q210⟩ := vStr_ok q207
  obtain ⟨y212, e211, q213⟩ := vStr_ok q210
  obtain ⟨y215, e214, q216⟩ := vInt_ok q213
  obtain ⟨y218, e217, q219⟩ := vAddr_ok q216
  obtain ⟨y221, e220, q222⟩ := vInt_ok q219
  exact ⟨y206b, y206n, y206c, y209, y212, y215, y218, y221, ⟨e205, e208, e211, e214, e217, e220, hd⟩, q222⟩
noncomputable def n30_c1 : Code := cFst n29_c2
def Q7 (Kn : T5) (Ke3 : T5) (Ke2 : T4) (Ke1 : T4) (Ke0 : T3) (Kr : T0) : XPost
  | .normal, g, h => D5 Kn g h
  | .ret, g, h => D0 Kr g h
  | .exit id, g, h => cond (Nat.beq id 3) (D5 Ke3 g h) (cond (Nat.beq id 2) (D4 Ke2 g h) (cond (Nat.beq id 1) (D4 Ke1 g h) (cond (Nat.beq id 0) (D3 Ke0 g h) (False))))
  | _, _, _ => False
noncomputable def n31_c1 : Code := cFst n30_c1
def Q8 (Kn : T11) (Ke3 : T5) (Ke2 : T4) (Ke1 : T4) (Ke0 : T3) (Kr : T0) : XPost
  | .normal, g, h => D11 Kn g h
  | .ret, g, h => D0 Kr g h
  | .exit id, g, h => cond (Nat.beq id 3) (D5 Ke3 g h) (cond (Nat.beq id 2) (D4 Ke2 g h) (cond (Nat.beq id 1) (D4 Ke1 g h) (cond (Nat.beq id 0) (D3 Ke0 g h) (False))))
  | _, _, _ => False
def n31_L (Kn : T5) (Ke3 : T5) (Ke2 : T4) (Ke1 : T4) (Ke0 : T3) (Kr : T0) : Nat → (Option Addr) → Nat → Nat → (List UInt8) → (List UInt8) → Int → Addr → Int → H → Prop
  | 0 => fun _ _ _ _ _ _ _ _ _ => False
  | N + 1 => fun x0b x0n x0c x1 x5 x6 x7 x9 h => ∃ s223b s223n s223c, cell h (x7.add 3) = some (.slice s223b s223n s223c) ∧ (Spl (x9 < (s223n : Int)) (((x5.length + x1.length : Nat) : Int) ≤ 9223372036854775807 ∧ ((((x5 ++ x1).length + ([32, 32] : List UInt8).length : Nat) : Int) ≤ 9223372036854775807 ∧ (∃ s224b s224n s224c, cell h (x7.add 3) = some (.slice s224b s224n s224c) ∧ ((0 ≤ x9 ∧ x9 < (s224n : Int)) ∧ (vSome s224b fun a225 => ∃ s226, cell h ((a225.add (Int.toNat x9 * 2)).add 0) = some (S s226) ∧ (((((x5 ++ x1) ++ ([32, 32] : List UInt8)).length + s226.length : Nat) : Int) ≤ 9223372036854775807 ∧ ((((((x5 ++ x1) ++ ([32, 32] : List UInt8)) ++ s226).length + ([61, 34] : List UInt8).length : Nat) : Int) ≤ 9223372036854775807 ∧ (∃ s227b s227n s227c, cell h (x7.add 3) = some (.slice s227b s227n s227c) ∧ ((0 ≤ x9 ∧ x9 < (s227n : Int)) ∧ (vSome s227b fun a228 => ∃ s229, cell h ((a228.add (Int.toNat x9 * 2)).add 1) = some (S s229) ∧ (((((((x5 ++ x1) ++ ([32, 32] : List UInt8)) ++ s226) ++ ([61, 34] : List UInt8)).length + s229.length : Nat) : Int) ≤ 9223372036854775807 ∧ ((((((((x5 ++ x1) ++ ([32, 32] : List UInt8)) ++ s226) ++ ([61, 34] : List UInt8)) ++ s229).length + ([34, 10] : List UInt8).length : Nat) : Int) ≤ 9223372036854775807 ∧ (Rng .i64 (x9 + (1 : Int)) ∧ (n31_L Kn Ke3 Ke2 Ke1 Ke0 Kr N x0b x0n x0c x1 ((((((x5 ++ x1) ++ ([32, 32] : List UInt8)) ++ s226) ++ ([61, 34] : List UInt8)) ++ s229) ++ ([34, 10] : List UInt8)) x6 x7 (x9 + (1 : Int)) h)))))))))))))) (Ke3 x0b x0n x0c x1 x5 x6 x7 h))
abbrev n31 (x0b : Option Addr) (x0n : Nat) (x0c : Nat) (x1 : List UInt8) (x5 : List UInt8) (x6 : Int) (x7 : Addr) (x9 : Int) (Kn : T5) (Ke3 : T5) (Ke2 : T4) (Ke1 : T4) (Ke0 : T3) (Kr : T0) (h : H) : Prop := ∃ N, n31_L Kn Ke3 Ke2 Ke1 Ke0 Kr N x0b x0n x0c x1 x5 x6 x7 x9 h
theorem n31_ok (x0b : Option Addr) (x0n : Nat) (x0c : Nat) (x1 : List UInt8) (x5 : List UInt8) (x6 : Int) (x7 : Addr) (x9 : Int) (Kn : T5) (Ke3 : T5) (Ke2 : T4) (Ke1 : T4) (Ke0 : T3) (Kr : T0) (g : Env) (hg : E11 g x0b x0n x0c x1 x5 x6 x7 x9) (h : H) (hS : n31 x0b x0n x0c x1 x5 x6 x7 x9 Kn Ke3 Ke2 Ke1 Ke0 Kr h) : wpC none Try.prog 95 n30_c1 (Q7 Kn Ke3 Ke2 Ke1 Ke0 Kr) g h := by
  obtain ⟨N0, hS⟩ := hS
  refine wpC_loop' (x := n31_c1) (by kernel_rfl) (fun k g h => ∃ (x0b : Option Addr) (x0n : Nat) (x0c : Nat) (x1 : List UInt8) (x5 : List UInt8) (x6 : Int) (x7 : Addr) (x9 : Int), E11 g x0b x0n x0c x1 x5 x6 x7 x9 ∧ n31_L Kn Ke3 Ke2 Ke1 Ke0 Kr k x0b x0n x0c x1 x5 x6 x7 x9 h) (fun g h hr => ?_) (fun N g h hr => ?_) N0 ⟨x0b, x0n, x0c, x1, x5, x6, x7, x9, hg, hS⟩
  · obtain ⟨x0b, x0n, x0c, x1, x5, x6, x7, x9, hg, hS⟩ := hr
    exact hS.elim
  · obtain ⟨x0b, x0n, x0c, x1, x5, x6, x7, x9, hg, hS⟩ := hr
    have hw : wpC none Try.prog 95 n31_c1 (Q8 (fun z0b z0n z0c z1 z5 z6 z7 z9 h => n31_L Kn Ke3 Ke2 Ke1 Ke0 Kr N z0b z0n z0c z1 z5 z6 z7 z9 h) Ke3 Ke2 Ke1 Ke0 Kr) g h := by
      obtain ⟨hg0, hg1, hg5, hg6, hg7, hg9, hds⟩ := hg
      refine wpC_of_wpx (by kernel_rfl) (by kernel_rfl) (g' := ((((((⟨g.v, []⟩ : Env).upd (some 0) (.slice x0b x0n x0c)).upd (some 1) (S x1)).upd (some 5) (S x5)).upd (some 6) (.int .i64 x6)).upd (some 7) (.pointer (some x7))).upd (some 9) (.int .i64 x9)) (by rw [env_ds hds, upd_self hg0, upd_self hg1, upd_self hg5, upd_self hg6, upd_self hg7, upd_self hg9]) ?_
      have e : (n31_L Kn Ke3 Ke2 Ke1 Ke0 Kr (N + 1) x0b x0n x0c x1 x5 x6 x7 x9 h) = wpx none Try.prog 95 n31_c1 (Q8 (fun z0b z0n z0c z1 z5 z6 z7 z9 h => n31_L Kn Ke3 Ke2 Ke1 Ke0 Kr N z0b z0n z0c z1 z5 z6 z7 z9 h) Ke3 Ke2 Ke1 Ke0 Kr) (((((((⟨g.v, []⟩ : Env).upd (some 0) (.slice x0b x0n x0c)).upd (some 1) (S x1)).upd (some 5) (S x5)).upd (some 6) (.int .i64 x6)).upd (some 7) (.pointer (some x7))).upd (some 9) (.int .i64 x9)) h := by kernel_rfl
      exact e ▸ hS
    refine hw.mono ?_
    intro e g' h' hq
    cases e with
    | normal => exact D11_ok (K := (fun z0b z0n z0c z1 z5 z6 z7 z9 h => n31_L Kn Ke3 Ke2 Ke1 Ke0 Kr N z0b z0n z0c z1 z5 z6 z7 z9 h)) hq
    | _ => exact hq
abbrev n30 (x0b : Option Addr) (x0n : Nat) (x0c : Nat) (x1 : List UInt8) (x5 : List UInt8) (x6 : Int) (x7 : Addr) (x9 : Int) (Kn : T5) (Ke2 : T4) (Ke1 : T4) (Ke0 : T3) (Kr : T0) (h : H) : Prop := n31 x0b x0n x0c x1 x5 x6 x7 x9 Kn Kn Ke2 Ke1 Ke0 Kr h
theorem n30_ok (x0b : Option Addr) (x0n : Nat) (x0c : Nat) (x1 : List UInt8) (x5 : List UInt8) (x6 : Int) (x7 : Addr) (x9 : Int) (Kn : T5) (Ke2 : T4) (Ke1 : T4) (Ke0 : T3) (Kr : T0) (g : Env) (hg : E11 g x0b x0n x0c x1 x5 x6 x7 x9) (h : H) (hS : n30 x0b x0n x0c x1 x5 x6 x7 x9 Kn Ke2 Ke1 Ke0 Kr h) : wpC none Try.prog 95 n29_c2 (Q6 Kn Ke2 Ke1 Ke0 Kr) g h := by
  refine wpC_block' (id := 3) (x := n30_c1) (by kernel_rfl) (n31_ok x0b x0n x0c x1 x5 x6 x7 x9 Kn Kn Ke2 Ke1 Ke0 Kr g hg h hS) ?_
  intro e g' h' hq
  cases e <;> exact hq
def Q9 (Kn : T11) (Ke2 : T4) (Ke1 : T4) (Ke0 : T3) (Kr : T0) : XPost
  | .normal, g, h => D11 Kn g h
  | .ret, g, h => D0 Kr g h
  | .exit id, g, h => cond (Nat.beq id 2) (D4 Ke2 g h) (cond (Nat.beq id 1) (D4 Ke1 g h) (cond (Nat.beq id 0) (D3 Ke0 g h) (False)))
  | _, _, _ => False
abbrev n29 (x0b : Option Addr) (x0n : Nat) (x0c : Nat) (x1 : List UInt8) (x5 : List UInt8) (x6 : Int) (x7 : Addr) (Kn : T5) (Ke2 : T4) (Ke1 : T4) (Ke0 : T3) (Kr : T0) (h : H) : Prop :=
  n30 x0b x0n x0c x1 x5 x6 x7 (0 : Int) Kn Ke2 Ke1 Ke0 Kr h
theorem n29_ok (x0b : Option Addr) (x0n : Nat) (x0c : Nat) (x1 : List UInt8) (x5 : List UInt8) (x6 : Int) (x7 : Addr) (Kn : T5) (Ke2 : T4) (Ke1 : T4) (Ke0 : T3) (Kr : T0) (g : Env) (hg : E5 g x0b x0n x0c x1 x5 x6 x7) (h : H) (hS : n29 x0b x0n x0c x1 x5 x6 x7 Kn Ke2 Ke1 Ke0 Kr h) : wpC none Try.prog 95 n27_c1 (Q6 Kn Ke2 Ke1 Ke0 Kr) g h := by
  obtain ⟨hg0, hg1, hg5, hg6, hg7, hds⟩ := hg
  refine wpC_seq' (x := n29_c1) (y := n29_c2) (Q' := (Q9 (fun z0b z0n z0c z1 z5 z6 z7 z9 h => n30 z0b z0n z0c z1 z5 z6 z7 z9 Kn Ke2 Ke1 Ke0 Kr h) Ke2 Ke1 Ke0 Kr)) (by kernel_rfl) ?_ ?_
  · refine wpC_of_wpx (by kernel_rfl) (by kernel_rfl) (g' := (((((⟨g.v, []⟩ : Env).upd (some 0) (.slice x0b x0n x0c)).upd (some 1) (S x1)).upd (some 5) (S x5)).upd (some 6) (.int .i64 x6)).upd (some 7) (.pointer (some x7))) (by rw [env_ds hds, upd_self hg0, upd_self hg1, upd_self hg5, upd_self hg6, upd_self hg7]) ?_
    have e : (n29 x0b x0n x0c x1 x5 x6 x7 Kn Ke2 Ke1 Ke0 Kr h) = wpx none Try.prog 95 n29_c1 (Q9 (fun z0b z0n z0c z1 z5 z6 z7 z9 h => n30 z0b z0n z0c z1 z5 z6 z7 z9 Kn Ke2 Ke1 Ke0 Kr h) Ke2 Ke1 Ke0 Kr) ((((((⟨g.v, []⟩ : Env).upd (some 0) (.slice x0b x0n x0c)).upd (some 1) (S x1)).upd (some 5) (S x5)).upd (some 6) (.int .i64 x6)).upd (some 7) (.pointer (some x7))) h := by kernel_rfl
    exact e ▸ hS
  · intro e g' h' hq
    cases e with
    | normal =>
      have hq : D11 (fun z0b z0n z0c z1 z5 z6 z7 z9 h => n30 z0b z0n z0c z1 z5 z6 z7 z9 Kn Ke2 Ke1 Ke0 Kr h) g' h' := hq
      obtain ⟨y0b, y0n, y0c, y1, y5, y6, y7, y9, hg', hq⟩ := D11_ok hq
      exact n30_ok y0b y0n y0c y1 y5 y6 y7 y9 Kn Ke2 Ke1 Ke0 Kr g' hg' h' hq
    | _ => exact hq
abbrev n27 (x0b : Option Addr) (x0n : Nat) (x0c : Nat) (x1 : List UInt8) (x5 : List UInt8) (x6 : Int) (x7 : Addr) (Kn : T4) (Ke2 : T4) (Ke1 : T4) (Ke0 : T3) (Kr : T0) (h : H) : Prop := n29 x0b x0n x0c x1 x5 x6 x7 (fun z0b z0n z0c z1 z5 z6 z7 h => n28 z0b z0n z0c z1 z5 z6 z7 Kn Ke2 Ke1 Ke0 Kr h) Ke2 Ke1 Ke0 Kr h
theorem n27_ok (x0b : Option Addr) (x0n : Nat) (x0c : Nat) (x1 : List UInt8) (x5 : List UInt8) (x6 : Int) (x7 : Addr) (Kn : T4) (Ke2 : T4) (Ke1 : T4) (Ke0 : T3) (Kr : T0) (g : Env) (hg : E5 g x0b x0n x0c x1 x5 x6 x7) (h : H) (hS : n27 x0b x0n x0c x1 x5 x6 x7 Kn Ke2 Ke1 Ke0 Kr h) : wpC none Try.prog 95 n26_c2 (Q5 Kn Ke2 Ke1 Ke0 Kr) g h := by
  refine wpC_seq' (x := n27_c1) (y := n27_c2) (by kernel_rfl) (n29_ok x0b x0n x0c x1 x5 x6 x7 (fun z0b z0n z0c z1 z5 z6 z7 h => n28 z0b z0n z0c z1 z5 z6 z7 Kn Ke2 Ke1 Ke0 Kr h) Ke2 Ke1 Ke0 Kr g hg h hS) ?_
  intro e g' h' hq
  cases e with
  | normal =>
    have hq : D5 (fun z0b z0n z0c z1 z5 z6 z7 h => n28 z0b z0n z0c z1 z5 z6 z7 Kn Ke2 Ke1 Ke0 Kr h) g' h' := hq
    obtain ⟨y0b, y0n, y0c, y1, y5, y6, y7, hg', hq⟩ := D5_ok hq
    exact n28_ok y0b y0n y0c y1 y5 y6 y7 Kn Ke2 Ke1 Ke0 Kr g' hg' h' hq
  | _ => exact hq
abbrev n26 (x0b : Option Addr) (x0n : Nat) (x0c : Nat) (x1 : List UInt8) (x5 : List UInt8) (x6 : Int) (x7 : Addr) (x8 : List UInt8) (Kn : T4) (Ke2 : T4) (Ke1 : T4) (Ke0 : T3) (Kr : T0) (h : H) : Prop :=
  ((x5.length + x1.length : Nat) : Int) ≤ 9223372036854775807 ∧ ((((x5 ++ x1).length + ([60] : List UInt8).length : Nat) : Int) ≤ 9223372036854775807 ∧ (((((x5 ++ x1) ++ ([60] : List UInt8)).length + x8.length : Nat) : Int) ≤ 9223372036854775807 ∧ (∃ s230, cell h (x7.add 2) = some (S s230) ∧ ((((((x5 ++ x1) ++ ([60] : List UInt8)) ++ x8).length + s230.length : Nat) : Int) ≤ 9223372036854775807 ∧ (((((((x5 ++ x1) ++ ([60] : List UInt8)) ++ x8) ++ s230).length + ([62, 10] : List UInt8).length : Nat) : Int) ≤ 9223372036854775807 ∧ (n27 x0b x0n x0c x1 (((((x5 ++ x1) ++ ([60] : List UInt8)) ++ x8) ++ s230) ++ ([62, 10] : List UInt8)) x6 x7 Kn Ke2 Ke1 Ke0 Kr h))))))
theorem n26_ok (x0b : Option Addr) (x0n : Nat) (x0c : Nat) (x1 : List UInt8) (x5 : List UInt8) (x6 : Int) (x7 : Addr) (x8 : List UInt8) (Kn : T4) (Ke2 : T4) (Ke1 : T4) (Ke0 : T3) (Kr : T0) (g : Env) (hg : E10 g x0b x0n x0c x1 x5 x6 x7 x8) (h : H) (hS : n26 x0b x0n x0c x1 x5 x6 x7 x8 Kn Ke2 Ke1 Ke0 Kr h) : wpC none Try.prog 95 n25_c2 (Q5 Kn Ke2 Ke1 Ke0 Kr) g h := by
  obtain ⟨hg0, hg1, hg5, hg6, hg7, hg8, hds⟩ := hg
  refine wpC_seq' (x := n26_c1) (y := n26_c2) (Q' := (Q6 (fun z0b z0n z0c z1 z5 z6 z7 h => n27 z0b z0n z0c z1 z5 z6 z7 Kn Ke2 Ke1 Ke0 Kr h) Ke2 Ke1 Ke0 Kr)) (by kernel_rfl) ?_ ?_
  · refine wpC_of_wpx (by kernel_rfl) (by kernel_rfl) (g' := ((((((⟨g.v, []⟩ : Env).upd (some 0) (.slice x0b x0n x0c)).upd (some 1) (S x1)).upd (some 5) (S x5)).upd (some 6) (.int .i64 x6)).upd (some 7) (.pointer (some x7))).upd (some 8) (S x8)) (by rw [env_ds hds, upd_self hg0, upd_self hg1, upd_self hg5, upd_self hg6, upd_self hg7, upd_self hg8]) ?_
    have e : (n26 x0b x0n x0c x1 x5 x6 x7 x8 Kn Ke2 Ke1 Ke0 Kr h) = wpx none Try.prog 95 n26_c1 (Q6 (fun z0b z0n z0c z1 z5 z6 z7 h => n27 z0b z0n z0c z1 z5 z6 z7 Kn Ke2 Ke1 Ke0 Kr h) Ke2 Ke1 Ke0 Kr) (((((((⟨g.v, []⟩ : Env).upd (some 0) (.slice x0b x0n x0c)).upd (some 1) (S x1)).upd (some 5) (S x5)).upd (some 6) (.int .i64 x6)).upd (some 7) (.pointer (some x7))).upd (some 8) (S x8)) h := by kernel_rfl
    exact e ▸ hS
  · intro e g' h' hq
    cases e with
    | normal =>
      have hq : D5 (fun z0b z0n z0c z1 z5 z6 z7 h => n27 z0b z0n z0c z1 z5 z6 z7 Kn Ke2 Ke1 Ke0 Kr h) g' h' := hq
      obtain ⟨y0b, y0n, y0c, y1, y5, y6, y7, hg', hq⟩ := D5_ok hq
      exact n27_ok y0b y0n y0c y1 y5 y6 y7 Kn Ke2 Ke1 Ke0 Kr g' hg' h' hq
    | _ => exact hq
def Q10 (Kn : T10) (Ke2 : T4) (Ke1 : T4) (Ke0 : T3) (Kr : T0) : XPost
  | .normal, g, h => D10 Kn g h
  | .ret, g, h => D0 Kr g h
  | .exit id, g, h => cond (Nat.beq id 2) (D4 Ke2 g h) (cond (Nat.beq id 1) (D4 Ke1 g h) (cond (Nat.beq id 0) (D3 Ke0 g h) (False)))
  | _, _, _ => False
abbrev n25 (x0b : Option Addr) (x0n : Nat) (x0c : Nat) (x1 : List UInt8) (x5 : List UInt8) (x6 : Int) (x7 : Addr) (x8 : List UInt8) (Kn : T4) (Ke2 : T4) (Ke1 : T4) (Ke0 : T3) (Kr : T0) (h : H) : Prop :=
  ∃ i231, cell h (x7.add 1) = some (.int .u8 i231) ∧ (Spl (i231 = (2 : Int)) (n26 x0b x0n x0c x1 x5 x6 x7 ([109, 97, 116, 104, 32] : List UInt8) Kn Ke2 Ke1 Ke0 Kr h) (n26 x0b x0n x0c x1 x5 x6 x7 x8 Kn Ke2 Ke1 Ke0 Kr h))
theorem n25_ok (x0b : Option Addr) (x0n : Nat) (x0c : Nat) (x1 : List UInt8) (x5 : List UInt8) (x6 : Int) (x7 : Addr) (x8 : List UInt8) (Kn : T4) (Ke2 : T4) (Ke1 : T4) (Ke0 : T3) (Kr : T0) (g : Env) (hg : E10 g x0b x0n x0c x1 x5 x6 x7 x8) (h : H) (hS : n25 x0b x0n x0c x1 x5 x6 x7 x8 Kn Ke2 Ke1 Ke0 Kr h) : wpC none Try.prog 95 n24_c2 (Q5 Kn Ke2 Ke1 Ke0 Kr) g h := by
  obtain ⟨hg0, hg1, hg5, hg6, hg7, hg8, hds⟩ := hg
  refine wpC_seq' (x := n25_c1) (y := n25_c2) (Q' := (Q10 (fun z0b z0n z0c z1 z5 z6 z7 z8 h => n26 z0b z0n z0c z1 z5 z6 z7 z8 Kn Ke2 Ke1 Ke0 Kr h) Ke2 Ke1 Ke0 Kr)) (by kernel_rfl) ?_ ?_
  · refine wpC_of_wpx (by kernel_rfl) (by kernel_rfl) (g' := ((((((⟨g.v, []⟩ : Env).upd (some 0) (.slice x0b x0n x0c)).upd (some 1) (S x1)).upd (some 5) (S x5)).upd (some 6) (.int .i64 x6)).upd (some 7) (.pointer (some x7))).upd (some 8) (S x8)) (by rw [env_ds hds, upd_self hg0, upd_self hg1, upd_self hg5, upd_self hg6, upd_self hg7, upd_self hg8]) ?_
    have e : (n25 x0b x0n x0c x1 x5 x6 x7 x8 Kn Ke2 Ke1 Ke0 Kr h) = wpx none Try.prog 95 n25_c1 (Q10 (fun z0b z0n z0c z1 z5 z6 z7 z8 h => n26 z0b z0n z0c z1 z5 z6 z7 z8 Kn Ke2 Ke1 Ke0 Kr h) Ke2 Ke1 Ke0 Kr) (((((((⟨g.v, []⟩ : Env).upd (some 0) (.slice x0b x0n x0c)).upd (some 1) (S x1)).upd (some 5) (S x5)).upd (some 6) (.int .i64 x6)).upd (some 7) (.pointer (some x7))).upd (some 8) (S x8)) h := by kernel_rfl
    exact e ▸ hS
  · intro e g' h' hq
    cases e with
    | normal =>
      have hq : D10 (fun z0b z0n z0c z1 z5 z6 z7 z8 h => n26 z0b z0n z0c z1 z5 z6 z7 z8 Kn Ke2 Ke1 Ke0 Kr h) g' h' := hq
      obtain ⟨y0b, y0n, y0c, y1, y5, y6, y7, y8, hg', hq⟩ := D10_ok hq
      exact n26_ok y0b y0n y0c y1 y5 y6 y7 y8 Kn Ke2 Ke1 Ke0 Kr g' hg' h' hq
    | _ => exact hq
abbrev n24 (x0b : Option Addr) (x0n : Nat) (x0c : Nat) (x1 : List UInt8) (x5 : List UInt8) (x6 : Int) (x7 : Addr) (x8 : List UInt8) (Kn : T4) (Ke2 : T4) (Ke1 : T4) (Ke0 : T3) (Kr : T0) (h : H) : Prop :=
  ∃ i232, cell h (x7.add 1) = some (.int .u8 i232) ∧ (Spl (i232 = (1 : Int)) (n25 x0b x0n x0c x1 x5 x6 x7 ([115, 118, 103, 32] : List UInt8) Kn Ke2 Ke1 Ke0 Kr h) (n25 x0b x0n x0c x1 x5 x6 x7 x8 Kn Ke2 Ke1 Ke0 Kr h))
theorem n24_ok (x0b : Option Addr) (x0n : Nat) (x0c : Nat) (x1 : List UInt8) (x5 : List UInt8) (x6 : Int) (x7 : Addr) (x8 : List UInt8) (Kn : T4) (Ke2 : T4) (Ke1 : T4) (Ke0 : T3) (Kr : T0) (g : Env) (hg : E10 g x0b x0n x0c x1 x5 x6 x7 x8) (h : H) (hS : n24 x0b x0n x0c x1 x5 x6 x7 x8 Kn Ke2 Ke1 Ke0 Kr h) : wpC none Try.prog 95 n23_c2 (Q5 Kn Ke2 Ke1 Ke0 Kr) g h := by
  obtain ⟨hg0, hg1, hg5, hg6, hg7, hg8, hds⟩ := hg
  refine wpC_seq' (x := n24_c1) (y := n24_c2) (Q' := (Q10 (fun z0b z0n z0c z1 z5 z6 z7 z8 h => n25 z0b z0n z0c z1 z5 z6 z7 z8 Kn Ke2 Ke1 Ke0 Kr h) Ke2 Ke1 Ke0 Kr)) (by kernel_rfl) ?_ ?_
  · refine wpC_of_wpx (by kernel_rfl) (by kernel_rfl) (g' := ((((((⟨g.v, []⟩ : Env).upd (some 0) (.slice x0b x0n x0c)).upd (some 1) (S x1)).upd (some 5) (S x5)).upd (some 6) (.int .i64 x6)).upd (some 7) (.pointer (some x7))).upd (some 8) (S x8)) (by rw [env_ds hds, upd_self hg0, upd_self hg1, upd_self hg5, upd_self hg6, upd_self hg7, upd_self hg8]) ?_
    have e : (n24 x0b x0n x0c x1 x5 x6 x7 x8 Kn Ke2 Ke1 Ke0 Kr h) = wpx none Try.prog 95 n24_c1 (Q10 (fun z0b z0n z0c z1 z5 z6 z7 z8 h => n25 z0b z0n z0c z1 z5 z6 z7 z8 Kn Ke2 Ke1 Ke0 Kr h) Ke2 Ke1 Ke0 Kr) (((((((⟨g.v, []⟩ : Env).upd (some 0) (.slice x0b x0n x0c)).upd (some 1) (S x1)).upd (some 5) (S x5)).upd (some 6) (.int .i64 x6)).upd (some 7) (.pointer (some x7))).upd (some 8) (S x8)) h := by kernel_rfl
    exact e ▸ hS
  · intro e g' h' hq
    cases e with
    | normal =>
      have hq : D10 (fun z0b z0n z0c z1 z5 z6 z7 z8 h => n25 z0b z0n z0c z1 z5 z6 z7 z8 Kn Ke2 Ke1 Ke0 Kr h) g' h' := hq
      obtain ⟨y0b, y0n, y0c, y1, y5, y6, y7, y8, hg', hq⟩ := D10_ok hq
      exact n25_ok y0b y0n y0c y1 y5 y6 y7 y8 Kn Ke2 Ke1 Ke0 Kr g' hg' h' hq
    | _ => exact hq
abbrev n23 (x0b : Option Addr) (x0n : Nat) (x0c : Nat) (x1 : List UInt8) (x5 : List UInt8) (x6 : Int) (x7 : Addr) (Kn : T4) (Ke2 : T4) (Ke1 : T4) (Ke0 : T3) (Kr : T0) (h : H) : Prop :=
  n24 x0b x0n x0c x1 x5 x6 x7 ([] : List UInt8) Kn Ke2 Ke1 Ke0 Kr h
theorem n23_ok (x0b : Option Addr) (x0n : Nat) (x0c : Nat) (x1 : List UInt8) (x5 : List UInt8) (x6 : Int) (x7 : Addr) (Kn : T4) (Ke2 : T4) (Ke1 : T4) (Ke0 : T3) (Kr : T0) (g : Env) (hg : E5 g x0b x0n x0c x1 x5 x6 x7) (h : H) (hS : n23 x0b x0n x0c x1 x5 x6 x7 Kn Ke2 Ke1 Ke0 Kr h) : wpC none Try.prog 95 n22_c1 (Q5 Kn Ke2 Ke1 Ke0 Kr) g h := by
  obtain ⟨hg0, hg1, hg5, hg6, hg7, hds⟩ := hg
  refine wpC_seq' (x := n23_c1) (y := n23_c2) (Q' := (Q10 (fun z0b z0n z0c z1 z5 z6 z7 z8 h => n24 z0b z0n z0c z1 z5 z6 z7 z8 Kn Ke2 Ke1 Ke0 Kr h) Ke2 Ke1 Ke0 Kr)) (by kernel_rfl) ?_ ?_
  · refine wpC_of_wpx (by kernel_rfl) (by kernel_rfl) (g' := (((((⟨g.v, []⟩ : Env).upd (some 0) (.slice x0b x0n x0c)).upd (some 1) (S x1)).upd (some 5) (S x5)).upd (some 6) (.int .i64 x6)).upd (some 7) (.pointer (some x7))) (by rw [env_ds hds, upd_self hg0, upd_self hg1, upd_self hg5, upd_self hg6, upd_self hg7]) ?_
    have e : (n23 x0b x0n x0c x1 x5 x6 x7 Kn Ke2 Ke1 Ke0 Kr h) = wpx none Try.prog 95 n23_c1 (Q10 (fun z0b z0n z0c z1 z5 z6 z7 z8 h => n24 z0b z0n z0c z1 z5 z6 z7 z8 Kn Ke2 Ke1 Ke0 Kr h) Ke2 Ke1 Ke0 Kr) ((((((⟨g.v, []⟩ : Env).upd (some 0) (.slice x0b x0n x0c)).upd (some 1) (S x1)).upd (some 5) (S x5)).upd (some 6) (.int .i64 x6)).upd (some 7) (.pointer (some x7))) h := by kernel_rfl
    exact e ▸ hS
  · intro e g' h' hq
    cases e with
    | normal =>
      have hq : D10 (fun z0b z0n z0c z1 z5 z6 z7 z8 h => n24 z0b z0n z0c z1 z5 z6 z7 z8 Kn Ke2 Ke1 Ke0 Kr h) g' h' := hq
      obtain ⟨y0b, y0n, y0c, y1, y5, y6, y7, y8, hg', hq⟩ := D10_ok hq
      exact n24_ok y0b y0n y0c y1 y5 y6 y7 y8 Kn Ke2 Ke1 Ke0 Kr g' hg' h' hq
    | _ => exact hq
abbrev n32 (x0b : Option Addr) (x0n : Nat) (x0c : Nat) (x1 : List UInt8) (x5 : List UInt8) (x6 : Int) (Kn : T4) (Ke2 : T4) (Ke1 : T4) (Ke0 : T3) (Kr : T0) (h : H) : Prop :=
  Kn x0b x0n x0c x1 x5 x6 h
theorem n32_ok (x0b : Option Addr) (x0n : Nat) (x0c : Nat) (x1 : List UInt8) (x5 : List UInt8) (x6 : Int) (Kn : T4) (Ke2 : T4) (Ke1 : T4) (Ke0 : T3) (Kr : T0) (g : Env) (hg : E4 g x0b x0n x0c x1 x5 x6) (h : H) (hS : n32 x0b x0n x0c x1 x5 x6 Kn Ke2 Ke1 Ke0 Kr h) : wpC none Try.prog 95 n22_c2 (Q5 Kn Ke2 Ke1 Ke0 Kr) g h := by
  obtain ⟨hg0, hg1, hg5, hg6, hds⟩ := hg
  refine wpC_of_wpx (by kernel_rfl) (by kernel_rfl) (g' := ((((⟨g.v, []⟩ : Env).upd (some 0) (.slice x0b x0n x0c)).upd (some 1) (S x1)).upd (some 5) (S x5)).upd (some 6) (.int .i64 x6)) (by rw [env_ds hds, upd_self hg0, upd_self hg1, upd_self hg5, upd_self hg6]) ?_
  have e : (n32 x0b x0n x0c x1 x5 x6 Kn Ke2 Ke1 Ke0 Kr h) = wpx none Try.prog 95 n22_c2 (Q5 Kn Ke2 Ke1 Ke0 Kr) (((((⟨g.v, []⟩ : Env).upd (some 0) (.slice x0b x0n x0c)).upd (some 1) (S x1)).upd (some 5) (S x5)).upd (some 6) (.int .i64 x6)) h := by kernel_rfl
  exact e ▸ hS
abbrev n22 (x0b : Option Addr) (x0n : Nat) (x0c : Nat) (x1 : List UInt8) (x5 : List UInt8) (x6 : Int) (x7 : Addr) (x42 : Bool) (Kn : T4) (Ke2 : T4) (Ke1 : T4) (Ke0 : T3) (Kr : T0) (h : H) : Prop := cond x42 (n23 x0b x0n x0c x1 x5 x6 x7 Kn Ke2 Ke1 Ke0 Kr h) (n32 x0b x0n x0c x1 x5 x6 Kn Ke2 Ke1 Ke0 Kr h)
theorem n22_ok (x0b : Option Addr) (x0n : Nat) (x0c : Nat) (x1 : List UInt8) (x5 : List UInt8) (x6 : Int) (x7 : Addr) (x42 : Bool) (Kn : T4) (Ke2 : T4) (Ke1 : T4) (Ke0 : T3) (Kr : T0) (g : Env) (hg : E9 g x0b x0n x0c x1 x5 x6 x7 x42) (h : H) (hS : n22 x0b x0n x0c x1 x5 x6 x7 x42 Kn Ke2 Ke1 Ke0 Kr h) : wpC none Try.prog 95 n21_c2 (Q5 Kn Ke2 Ke1 Ke0 Kr) g h := by
  obtain ⟨hg0, hg1, hg5, hg6, hg7, hg42, hds⟩ := hg
  have hx : evalE 95 g (.tmp 42) = .bool x42 := by
    show cond (Nat.blt 42 95) (g.v 42) undef = _
    rw [hg42]; rfl
  unfold n22 at hS
  refine wpC_cond' (o := .tmp 42) (x := n22_c1) (y := n22_c2) (by kernel_rfl) hx (fun hb => ?_) (fun hb => ?_)
  · subst hb
    exact n23_ok x0b x0n x0c x1 x5 x6 x7 Kn Ke2 Ke1 Ke0 Kr g ⟨hg0, hg1, hg5, hg6, hg7, hds⟩ h hS
  · subst hb
    exact n32_ok x0b x0n x0c x1 x5 x6 Kn Ke2 Ke1 Ke0 Kr g ⟨hg0, hg1, hg5, hg6, hds⟩ h hS
def Q11 (Kn : T9) (Ke2 : T4) (Ke1 : T4) (Ke0 : T3) (Kr : T0) : XPost
  | .normal, g, h => D9 Kn g h
  | .ret, g, h => D0 Kr g h
  | .exit id, g, h => cond (Nat.beq id 2) (D4 Ke2 g h) (cond (Nat.beq id 1) (D4 Ke1 g h) (cond (Nat.beq id 0) (D3 Ke0 g h) (False)))
  | _, _, _ => False
abbrev n21 (x0b : Option Addr) (x0n : Nat) (x0c : Nat) (x1 : List UInt8) (x5 : List UInt8) (x6 : Int) (x7 : Addr) (x21 : Int) (Kn : T4) (Ke2 : T4) (Ke1 : T4) (Ke0 : T3) (Kr : T0) (h : H) : Prop :=
  Spl (x21 = (1 : Int)) (n22 x0b x0n x0c x1 x5 x6 x7 true Kn Ke2 Ke1 Ke0 Kr h) (n22 x0b x0n x0c x1 x5 x6 x7 false Kn Ke2 Ke1 Ke0 Kr h)
theorem n21_ok (x0b : Option Addr) (x0n : Nat) (x0c : Nat) (x1 : List UInt8) (x5 : List UInt8) (x6 : Int) (x7 : Addr) (x21 : Int) (Kn : T4) (Ke2 : T4) (Ke1 : T4) (Ke0 : T3) (Kr : T0) (g : Env) (hg : E6 g x0b x0n x0c x1 x5 x6 x7 x21) (h : H) (hS : n21 x0b x0n x0c x1 x5 x6 x7 x21 Kn Ke2 Ke1 Ke0 Kr h) : wpC none Try.prog 95 n19_c2 (Q5 Kn Ke2 Ke1 Ke0 Kr) g h := by
  obtain ⟨hg0, hg1, hg5, hg6, hg7, hg21, hds⟩ := hg
  refine wpC_seq' (x := n21_c1) (y := n21_c2) (Q' := (Q11 (fun z0b z0n z0c z1 z5 z6 z7 z42 h => n22 z0b z0n z0c z1 z5 z6 z7 z42 Kn Ke2 Ke1 Ke0 Kr h) Ke2 Ke1 Ke0 Kr)) (by kernel_rfl) ?_ ?_
  · refine wpC_of_wpx (by kernel_rfl) (by kernel_rfl) (g' := ((((((⟨g.v, []⟩ : Env).upd (some 0) (.slice x0b x0n x0c)).upd (some 1) (S x1)).upd (some 5) (S x5)).upd (some 6) (.int .i64 x6)).upd (some 7) (.pointer (some x7))).upd (some 21) (.int .u8 x21)) (by rw [env_ds hds, upd_self hg0, upd_self hg1, upd_self hg5, upd_self hg6, upd_self hg7, upd_self hg21]) ?_
    have e : (n21 x0b x0n x0c x1 x5 x6 x7 x21 Kn Ke2 Ke1 Ke0 Kr h) = wpx none Try.prog 95 n21_c1 (Q11 (fun z0b z0n z0c z1 z5 z6 z7 z42 h => n22 z0b z0n z0c z1 z5 z6 z7 z42 Kn Ke2 Ke1 Ke0 Kr h) Ke2 Ke1 Ke0 Kr) (((((((⟨g.v, []⟩ : Env).upd (some 0) (.slice x0b x0n x0c)).upd (some 1) (S x1)).upd (some 5) (S x5)).upd (some 6) (.int .i64 x6)).upd (some 7) (.pointer (some x7))).upd (some 21) (.int .u8 x21)) h := by kernel_rfl
    exact e ▸ hS
  · intro e g' h' hq
    cases e with
    | normal =>
      have hq : D9 (fun z0b z0n z0c z1 z5 z6 z7 z42 h => n22 z0b z0n z0c z1 z5 z6 z7 z42 Kn Ke2 Ke1 Ke0 Kr h) g' h' := hq
      obtain ⟨y0b, y0n, y0c, y1, y5, y6, y7, y42, hg', hq⟩ := D9_ok hq
      exact n22_ok y0b y0n y0c y1 y5 y6 y7 y42 Kn Ke2 Ke1 Ke0 Kr g' hg' h' hq
    | _ => exact hq
abbrev n19 (x0b : Option Addr) (x0n : Nat) (x0c : Nat) (x1 : List UInt8) (x5 : List UInt8) (x6 : Int) (x7 : Addr) (x21 : Int) (x32 : Bool) (Kn : T4) (Ke2 : T4) (Ke1 : T4) (Ke0 : T3) (Kr : T0) (h : H) : Prop := cond x32 (n20 x0b x0n x0c x1 x5 x6 x7 Kn Ke2 Ke1 Ke0 Kr h) (n21 x0b x0n x0c x1 x5 x6 x7 x21 Kn Ke2 Ke1 Ke0 Kr h)
theorem n19_ok (x0b : Option Addr) (x0n : Nat) (x0c : Nat) (x1 : List UInt8) (x5 : List UInt8) (x6 : Int) (x7 : Addr) (x21 : Int) (x32 : Bool) (Kn : T4) (Ke2 : T4) (Ke1 : T4) (Ke0 : T3) (Kr : T0) (g : Env) (hg : E8 g x0b x0n x0c x1 x5 x6 x7 x21 x32) (h : H) (hS : n19 x0b x0n x0c x1 x5 x6 x7 x21 x32 Kn Ke2 Ke1 Ke0 Kr h) : wpC none Try.prog 95 n18_c2 (Q5 Kn Ke2 Ke1 Ke0 Kr) g h := by
  obtain ⟨hg0, hg1, hg5, hg6, hg7, hg21, hg32, hds⟩ := hg
  have hx : evalE 95 g (.tmp 32) = .bool x32 := by
    show cond (Nat.blt 32 95) (g.v 32) undef = _
    rw [hg32]; rfl
  unfold n19 at hS
  refine wpC_cond' (o := .tmp 32) (x := n19_c1) (y := n19_c2) (by kernel_rfl) hx (fun hb => ?_) (fun hb => ?_)
  · subst hb
    exact n20_ok x0b x0n x0c x1 x5 x6 x7 Kn Ke2 Ke1 Ke0 Kr g ⟨hg0, hg1, hg5, hg6, hg7, hds⟩ h hS
  · subst hb
    exact n21_ok x0b x0n x0c x1 x5 x6 x7 x21 Kn Ke2 Ke1 Ke0 Kr g ⟨hg0, hg1, hg5, hg6, hg7, hg21, hds⟩ h hS
def Q12 (Kn : T8) (Ke2 : T4) (Ke1 : T4) (Ke0 : T3) (Kr : T0) : XPost
  | .normal, g, h => D8 Kn g h
  | .ret, g, h => D0 Kr g h
  | .exit id, g, h => cond (Nat.beq id 2) (D4 Ke2 g h) (cond (Nat.beq id 1) (D4 Ke1 g h) (cond (Nat.beq id 0) (D3 Ke0 g h) (False)))
  | _, _, _ => False
abbrev n18 (x0b : Option Addr) (x0n : Nat) (x0c : Nat) (x1 : List UInt8) (x5 : List UInt8) (x6 : Int) (x7 : Addr) (x21 : Int) (Kn : T4) (Ke2 : T4) (Ke1 : T4) (Ke0 : T3) (Kr : T0) (h : H) : Prop :=
  Spl (x21 = (3 : Int)) (n19 x0b x0n x0c x1 x5 x6 x7 x21 true Kn Ke2 Ke1 Ke0 Kr h) (n19 x0b x0n x0c x1 x5 x6 x7 x21 false Kn Ke2 Ke1 Ke0 Kr h)
theorem n18_ok (x0b : Option Addr) (x0n : Nat) (x0c : Nat) (x1 : List UInt8) (x5 : List UInt8) (x6 : Int) (x7 : Addr) (x21 : Int) (Kn : T4) (Ke2 : T4) (Ke1 : T4) (Ke0 : T3) (Kr : T0) (g : Env) (hg : E6 g x0b x0n x0c x1 x5 x6 x7 x21) (h : H) (hS : n18 x0b x0n x0c x1 x5 x6 x7 x21 Kn Ke2 Ke1 Ke0 Kr h) : wpC none Try.prog 95 n16_c2 (Q5 Kn Ke2 Ke1 Ke0 Kr) g h := by
  obtain ⟨hg0, hg1, hg5, hg6, hg7, hg21, hds⟩ := hg
  refine wpC_seq' (x := n18_c1) (y := n18_c2) (Q' := (Q12 (fun z0b z0n z0c z1 z5 z6 z7 z21 z32 h => n19 z0b z0n z0c z1 z5 z6 z7 z21 z32 Kn Ke2 Ke1 Ke0 Kr h) Ke2 Ke1 Ke0 Kr)) (by kernel_rfl) ?_ ?_
  · refine wpC_of_wpx (by kernel_rfl) (by kernel_rfl) (g' := ((((((⟨g.v, []⟩ : Env).upd (some 0) (.slice x0b x0n x0c)).upd (some 1) (S x1)).upd (some 5) (S x5)).upd (some 6) (.int .i64 x6)).upd (some 7) (.pointer (some x7))).upd (some 21) (.int .u8 x21)) (by rw [env_ds hds, upd_self hg0, upd_self hg1, upd_self hg5, upd_self hg6, upd_self hg7, upd_self hg21]) ?_
    have e : (n18 x0b x0n x0c x1 x5 x6 x7 x21 Kn Ke2 Ke1 Ke0 Kr h) = wpx none Try.prog 95 n18_c1 (Q12 (fun z0b z0n z0c z1 z5 z6 z7 z21 z32 h => n19 z0b z0n z0c z1 z5 z6 z7 z21 z32 Kn Ke2 Ke1 Ke0 Kr h) Ke2 Ke1 Ke0 Kr) (((((((⟨g.v, []⟩ : Env).upd (some 0) (.slice x0b x0n x0c)).upd (some 1) (S x1)).upd (some 5) (S x5)).upd (some 6) (.int .i64 x6)).upd (some 7) (.pointer (some x7))).upd (some 21) (.int .u8 x21)) h := by kernel_rfl
    exact e ▸ hS
  · intro e g' h' hq
    cases e with
    | normal =>
      have hq : D8 (fun z0b z0n z0c z1 z5 z6 z7 z21 z32 h => n19 z0b z0n z0c z1 z5 z6 z7 z21 z32 Kn Ke2 Ke1 Ke0 Kr h) g' h' := hq
      obtain ⟨y0b, y0n, y0c, y1, y5, y6, y7, y21, y32, hg', hq⟩ := D8_ok hq
      exact n19_ok y0b y0n y0c y1 y5 y6 y7 y21 y32 Kn Ke2 Ke1 Ke0 Kr g' hg' h' hq
    | _ => exact hq
abbrev n16 (x0b : Option Addr) (x0n : Nat) (x0c : Nat) (x1 : List UInt8) (x5 : List UInt8) (x6 : Int) (x7 : Addr) (x21 : Int) (x22 : Bool) (Kn : T4) (Ke2 : T4) (Ke1 : T4) (Ke0 : T3) (Kr : T0) (h : H) : Prop := cond x22 (n17 x0b x0n x0c x1 x5 x6 x7 Kn Ke2 Ke1 Ke0 Kr h) (n18 x0b x0n x0c x1 x5 x6 x7 x21 Kn Ke2 Ke1 Ke0 Kr h)
theorem n16_ok (x0b : Option Addr) (x0n : Nat) (x0c : Nat) (x1 : List UInt8) (x5 : List UInt8) (x6 : Int) (x7 : Addr) (x21 : Int) (x22 : Bool) (Kn : T4) (Ke2 : T4) (Ke1 : T4) (Ke0 : T3) (Kr : T0) (g : Env) (hg : E7 g x0b x0n x0c x1 x5 x6 x7 x21 x22) (h : H) (hS : n16 x0b x0n x0c x1 x5 x6 x7 x21 x22 Kn Ke2 Ke1 Ke0 Kr h) : wpC none Try.prog 95 n15_c2 (Q5 Kn Ke2 Ke1 Ke0 Kr) g h := by
  obtain ⟨hg0, hg1, hg5, hg6, hg7, hg21, hg22, hds⟩ := hg
  have hx : evalE 95 g (.tmp 22) = .bool x22 := by
    show cond (Nat.blt 22 95) (g.v 22) undef = _
    rw [hg22]; rfl
  unfold n16 at hS
  refine wpC_cond' (o := .tmp 22) (x := n16_c1) (y := n16_c2) (by kernel_rfl) hx (fun hb => ?_) (fun hb => ?_)
  · subst hb
    exact n17_ok x0b x0n x0c x1 x5 x6 x7 Kn Ke2 Ke1 Ke0 Kr g ⟨hg0, hg1, hg5, hg6, hg7, hds⟩ h hS
  · subst hb
    exact n18_ok x0b x0n x0c x1 x5 x6 x7 x21 Kn Ke2 Ke1 Ke0 Kr g ⟨hg0, hg1, hg5, hg6, hg7, hg21, hds⟩ h hS
def Q13 (Kn : T7) (Ke2 : T4) (Ke1 : T4) (Ke0 : T3) (Kr : T0) : XPost
  | .normal, g, h => D7 Kn g h
  | .ret, g, h => D0 Kr g h
  | .exit id, g, h => cond (Nat.beq id 2) (D4 Ke2 g h) (cond (Nat.beq id 1) (D4 Ke1 g h) (cond (Nat.beq id 0) (D3 Ke0 g h) (False)))
  | _, _, _ => False
abbrev n15 (x0b : Option Addr) (x0n : Nat) (x0c : Nat) (x1 : List UInt8) (x5 : List UInt8) (x6 : Int) (x7 : Addr) (x21 : Int) (Kn : T4) (Ke2 : T4) (Ke1 : T4) (Ke0 : T3) (Kr : T0) (h : H) : Prop :=
  Spl (x21 = (2 : Int)) (n16 x0b x0n x0c x1 x5 x6 x7 x21 true Kn Ke2 Ke1 Ke0 Kr h) (n16 x0b x0n x0c x1 x5 x6 x7 x21 false Kn Ke2 Ke1 Ke0 Kr h)
theorem n15_ok (x0b : Option Addr) (x0n : Nat) (x0c : Nat) (x1 : List UInt8) (x5 : List UInt8) (x6 : Int) (x7 : Addr) (x21 : Int) (Kn : T4) (Ke2 : T4) (Ke1 : T4) (Ke0 : T3) (Kr : T0) (g : Env) (hg : E6 g x0b x0n x0c x1 x5 x6 x7 x21) (h : H) (hS : n15 x0b x0n x0c x1 x5 x6 x7 x21 Kn Ke2 Ke1 Ke0 Kr h) : wpC none Try.prog 95 n14_c1 (Q5 Kn Ke2 Ke1 Ke0 Kr) g h := by
  obtain ⟨hg0, hg1, hg5, hg6, hg7, hg21, hds⟩ := hg
  refine wpC_seq' (x := n15_c1) (y := n15_c2) (Q' := (Q13 (fun z0b z0n z0c z1 z5 z6 z7 z21 z22 h => n16 z0b z0n z0c z1 z5 z6 z7 z21 z22 Kn Ke2 Ke1 Ke0 Kr h) Ke2 Ke1 Ke0 Kr)) (by kernel_rfl) ?_ ?_
  · refine wpC_of_wpx (by kernel_rfl) (by kernel_rfl) (g' := ((((((⟨g.v, []⟩ : Env).upd (some 0) (.slice x0b x0n x0c)).upd (some 1) (S x1)).upd (some 5) (S x5)).upd (some 6) (.int .i64 x6)).upd (some 7) (.pointer (some x7))).upd (some 21) (.int .u8 x21)) (by rw [env_ds hds, upd_self hg0, upd_self hg1, upd_self hg5, upd_self hg6, upd_self hg7, upd_self hg21]) ?_
    have e : (n15 x0b x0n x0c x1 x5 x6 x7 x21 Kn Ke2 Ke1 Ke0 Kr h) = wpx none Try.prog 95 n15_c1 (Q13 (fun z0b z0n z0c z1 z5 z6 z7 z21 z22 h => n16 z0b z0n z0c z1 z5 z6 z7 z21 z22 Kn Ke2 Ke1 Ke0 Kr h) Ke2 Ke1 Ke0 Kr) (((((((⟨g.v, []⟩ : Env).upd (some 0) (.slice x0b x0n x0c)).upd (some 1) (S x1)).upd (some 5) (S x5)).upd (some 6) (.int .i64 x6)).upd (some 7) (.pointer (some x7))).upd (some 21) (.int .u8 x21)) h := by kernel_rfl
    exact e ▸ hS
  · intro e g' h' hq
    cases e with
    | normal =>
      have hq : D7 (fun z0b z0n z0c z1 z5 z6 z7 z21 z22 h => n16 z0b z0n z0c z1 z5 z6 z7 z21 z22 Kn Ke2 Ke1 Ke0 Kr h) g' h' := hq
      obtain ⟨y0b, y0n, y0c, y1, y5, y6, y7, y21, y22, hg', hq⟩ := D7_ok hq
      exact n16_ok y0b y0n y0c y1 y5 y6 y7 y21 y22 Kn Ke2 Ke1 Ke0 Kr g' hg' h' hq
    | _ => exact hq
abbrev n14 (x0b : Option Addr) (x0n : Nat) (x0c : Nat) (x1 : List UInt8) (x5 : List UInt8) (x6 : Int) (x7 : Addr) (x21 : Int) (Kn : T4) (Ke1 : T4) (Ke0 : T3) (Kr : T0) (h : H) : Prop := n15 x0b x0n x0c x1 x5 x6 x7 x21 Kn Kn Ke1 Ke0 Kr h
theorem n14_ok (x0b : Option Addr) (x0n : Nat) (x0c : Nat) (x1 : List UInt8) (x5 : List UInt8) (x6 : Int) (x7 : Addr) (x21 : Int) (Kn : T4) (Ke1 : T4) (Ke0 : T3) (Kr : T0) (g : Env) (hg : E6 g x0b x0n x0c x1 x5 x6 x7 x21) (h : H) (hS : n14 x0b x0n x0c x1 x5 x6 x7 x21 Kn Ke1 Ke0 Kr h) : wpC none Try.prog 95 n13_c2 (Q4 Kn Ke1 Ke0 Kr) g h := by
  refine wpC_block' (id := 2) (x := n14_c1) (by kernel_rfl) (n15_ok x0b x0n x0c x1 x5 x6 x7 x21 Kn Kn Ke1 Ke0 Kr g hg h hS) ?_
  intro e g' h' hq
  cases e <;> exact hq
def Q14 (Kn : T6) (Ke1 : T4) (Ke0 : T3) (Kr : T0) : XPost
  | .normal, g, h => D6 Kn g h
  | .ret, g, h => D0 Kr g h
  | .exit id, g, h => cond (Nat.beq id 1) (D4 Ke1 g h) (cond (Nat.beq id 0) (D3 Ke0 g h) (False))
  | _, _, _ => False
abbrev n13 (x0b : Option Addr) (x0n : Nat) (x0c : Nat) (x1 : List UInt8) (x5 : List UInt8) (x6 : Int) (x7 : Addr) (Kn : T4) (Ke1 : T4) (Ke0 : T3) (Kr : T0) (h : H) : Prop :=
  ∃ i233, cell h (x7.add 0) = some (.int .u8 i233) ∧ (n14 x0b x0n x0c x1 x5 x6 x7 i233 Kn Ke1 Ke0 Kr h)
theorem n13_ok (x0b : Option Addr) (x0n : Nat) (x0c : Nat) (x1 : List UInt8) (x5 : List UInt8) (x6 : Int) (x7 : Addr) (Kn : T4) (Ke1 : T4) (Ke0 : T3) (Kr : T0) (g : Env) (hg : E5 g x0b x0n x0c x1 x5 x6 x7) (h : H) (hS : n13 x0b x0n x0c x1 x5 x6 x7 Kn Ke1 Ke0 Kr h) : wpC none Try.prog 95 n12_c2 (Q4 Kn Ke1 Ke0 Kr) g h := by
  obtain ⟨hg0, hg1, hg5, hg6, hg7, hds⟩ := hg
  refine wpC_seq' (x := n13_c1) (y := n13_c2) (Q' := (Q14 (fun z0b z0n z0c z1 z5 z6 z7 z21 h => n14 z0b z0n z0c z1 z5 z6 z7 z21 Kn Ke1 Ke0 Kr h) Ke1 Ke0 Kr)) (by kernel_rfl) ?_ ?_
  · refine wpC_of_wpx (by kernel_rfl) (by kernel_rfl) (g' := (((((⟨g.v, []⟩ : Env).upd (some 0) (.slice x0b x0n x0c)).upd (some 1) (S x1)).upd (some 5) (S x5)).upd (some 6) (.int .i64 x6)).upd (some 7) (.pointer (some x7))) (by rw [env_ds hds, upd_self hg0, upd_self hg1, upd_self hg5, upd_self hg6, upd_self hg7]) ?_
    have e : (n13 x0b x0n x0c x1 x5 x6 x7 Kn Ke1 Ke0 Kr h) = wpx none Try.prog 95 n13_c1 (Q14 (fun z0b z0n z0c z1 z5 z6 z7 z21 h => n14 z0b z0n z0c z1 z5 z6 z7 z21 Kn Ke1 Ke0 Kr h) Ke1 Ke0 Kr) ((((((⟨g.v, []⟩ : Env).upd (some 0) (.slice x0b x0n x0c)).upd (some 1) (S x1)).upd (some 5) (S x5)).upd (some 6) (.int .i64 x6)).upd (some 7) (.pointer (some x7))) h := by kernel_rfl
    exact e ▸ hS
  · intro e g' h' hq
    cases e with
    | normal =>
      have hq : D6 (fun z0b z0n z0c z1 z5 z6 z7 z21 h => n14 z0b z0n z0c z1 z5 z6 z7 z21 Kn Ke1 Ke0 Kr h) g' h' := hq
      obtain ⟨y0b, y0n, y0c, y1, y5, y6, y7, y21, hg', hq⟩ := D6_ok hq
      exact n14_ok y0b y0n y0c y1 y5 y6 y7 y21 Kn Ke1 Ke0 Kr g' hg' h' hq
    | _ => exact hq
def Q15 (Kn : T5) (Ke1 : T4) (Ke0 : T3) (Kr : T0) : XPost
  | .normal, g, h => D5 Kn g h
  | .ret, g, h => D0 Kr g h
  | .exit id, g, h => cond (Nat.beq id 1) (D4 Ke1 g h) (cond (Nat.beq id 0) (D3 Ke0 g h) (False))
  | _, _, _ => False
abbrev n12 (x0b : Option Addr) (x0n : Nat) (x0c : Nat) (x1 : List UInt8) (x5 : List UInt8) (x6 : Int) (Kn : T4) (Ke1 : T4) (Ke0 : T3) (Kr : T0) (h : H) : Prop :=
  (0 ≤ x6 ∧ x6 < (x0n : Int)) ∧ (vSome x0b fun a234 => ∃ i235, cell h (((a234.add (Int.toNat x6 * 6))).add 0) = some (.int .u8 i235) ∧ (∃ i236, cell h (((a234.add (Int.toNat x6 * 6))).add 1) = some (.int .u8 i236) ∧ (∃ s237, cell h (((a234.add (Int.toNat x6 * 6))).add 2) = some (S s237) ∧ (∃ s238b s238n s238c, cell h (((a234.add (Int.toNat x6 * 6))).add 3) = some (.slice s238b s238n s238c) ∧ (∃ s239, cell h (((a234.add (Int.toNat x6 * 6))).add 4) = some (S s239) ∧ (∃ s240b s240n s240c, cell h (((a234.add (Int.toNat x6 * 6))).add 5) = some (.slice s240b s240n s240c) ∧ (newx h ⟨[(.int .u8 (0 : Int)), (.int .u8 (0 : Int)), (S ([] : List UInt8)), (.slice none 0 0), (S ([] : List UInt8)), (.slice none 0 0)]⟩ 31 fun a241 h242 => stL a241 [(.int .u8 i235), (.int .u8 i236), (S s237), (.slice s238b s238n s238c), (S s239), (.slice s240b s240n s240c)] 0 h242 fun h243 => n13 x0b x0n x0c x1 x5 x6 a241 Kn Ke1 Ke0 Kr h243)))))))
theorem n12_ok (x0b : Option Addr) (x0n : Nat) (x0c : Nat) (x1 : List UInt8) (x5 : List UInt8) (x6 : Int) (Kn : T4) (Ke1 : T4) (Ke0 : T3) (Kr : T0) (g : Env) (hg : E4 g x0b x0n x0c x1 x5 x6) (h : H) (hS : n12 x0b x0n x0c x1 x5 x6 Kn Ke1 Ke0 Kr h) : wpC none Try.prog 95 n11_c1 (Q4 Kn Ke1 Ke0 Kr) g h := by
  obtain ⟨hg0, hg1, hg5, hg6, hds⟩ := hg
  refine wpC_seq' (x := n12_c1) (y := n12_c2) (Q' := (Q15 (fun z0b z0n z0c z1 z5 z6 z7 h => n13 z0b z0n z0c z1 z5 z6 z7 Kn Ke1 Ke0 Kr h) Ke1 Ke0 Kr)) (by kernel_rfl) ?_ ?_
  · refine wpC_of_wpx (by kernel_rfl) (by kernel_rfl) (g' := ((((⟨g.v, []⟩ : Env).upd (some 0) (.slice x0b x0n x0c)).upd (some 1) (S x1)).upd (some 5) (S x5)).upd (some 6) (.int .i64 x6)) (by rw [env_ds hds, upd_self hg0, upd_self hg1, upd_self hg5, upd_self hg6]) ?_
    have e : (n12 x0b x0n x0c x1 x5 x6 Kn Ke1 Ke0 Kr h) = wpx none Try.prog 95 n12_c1 (Q15 (fun z0b z0n z0c z1 z5 z6 z7 h => n13 z0b z0n z0c z1 z5 z6 z7 Kn Ke1 Ke0 Kr h) Ke1 Ke0 Kr) (((((⟨g.v, []⟩ : Env).upd (some 0) (.slice x0b x0n x0c)).upd (some 1) (S x1)).upd (some 5) (S x5)).upd (some 6) (.int .i64 x6)) h := by kernel_rfl
    exact e ▸ hS
  · intro e g' h' hq
    cases e with
    | normal =>
      have hq : D5 (fun z0b z0n z0c z1 z5 z6 z7 h => n13 z0b z0n z0c z1 z5 z6 z7 Kn Ke1 Ke0 Kr h) g' h' := hq
      obtain ⟨y0b, y0n, y0c, y1, y5, y6, y7, hg', hq⟩ := D5_ok hq
      exact n13_ok y0b y0n y0c y1 y5 y6 y7 Kn Ke1 Ke0 Kr g' hg' h' hq
    | _ => exact hq
abbrev n11 (x0b : Option Addr) (x0n : Nat) (x0c : Nat) (x1 : List UInt8) (x5 : List UInt8) (x6 : Int) (Kn : T4) (Ke0 : T3) (Kr : T0) (h : H) : Prop := n12 x0b x0n x0c x1 x5 x6 Kn Kn Ke0 Kr h
theorem n11_ok (x0b : Option Addr) (x0n : Nat) (x0c : Nat) (x1 : List UInt8) (x5 : List UInt8) (x6 : Int) (Kn : T4) (Ke0 : T3) (Kr : T0) (g : Env) (hg : E4 g x0b x0n x0c x1 x5 x6) (h : H) (hS : n11 x0b x0n x0c x1 x5 x6 Kn Ke0 Kr h) : wpC none Try.prog 95 n9_c1 (Q3 Kn Ke0 Kr) g h := by
  refine wpC_block' (id := 1) (x := n11_c1) (by kernel_rfl) (n12_ok x0b x0n x0c x1 x5 x6 Kn Kn Ke0 Kr g hg h hS) ?_
  intro e g' h' hq
  cases e <;> exact hq
abbrev n9 (x0b : Option Addr) (x0n : Nat) (x0c : Nat) (x1 : List UInt8) (x5 : List UInt8) (x6 : Int) (Kn : T4) (Ke0 : T3) (Kr : T0) (h : H) : Prop := n11 x0b x0n x0c x1 x5 x6 (fun z0b z0n z0c z1 z5 z6 h => n10 z0b z0n z0c z1 z5 z6 Kn Ke0 Kr h) Ke0 Kr h
theorem n9_ok (x0b : Option Addr) (x0n : Nat) (x0c : Nat) (x1 : List UInt8) (x5 : List UInt8) (x6 : Int) (Kn : T4) (Ke0 : T3) (Kr : T0) (g : Env) (hg : E4 g x0b x0n x0c x1 x5 x6) (h : H) (hS : n9 x0b x0n x0c x1 x5 x6 Kn Ke0 Kr h) : wpC none Try.prog 95 n8_c2 (Q3 Kn Ke0 Kr) g h := by
  refine wpC_seq' (x := n9_c1) (y := n9_c2) (by kernel_rfl) (n11_ok x0b x0n x0c x1 x5 x6 (fun z0b z0n z0c z1 z5 z6 h => n10 z0b z0n z0c z1 z5 z6 Kn Ke0 Kr h) Ke0 Kr g hg h hS) ?_
  intro e g' h' hq
  cases e with
  | normal =>
    have hq : D4 (fun z0b z0n z0c z1 z5 z6 h => n10 z0b z0n z0c z1 z5 z6 Kn Ke0 Kr h) g' h' := hq
    obtain ⟨y0b, y0n, y0c, y1, y5, y6, hg', hq⟩ := D4_ok hq
    exact n10_ok y0b y0n y0c y1 y5 y6 Kn Ke0 Kr g' hg' h' hq
  | _ => exact hq
abbrev n8 (x0b : Option Addr) (x0n : Nat) (x0c : Nat) (x1 : List UInt8) (x5 : List UInt8) (x6 : Int) (Kn : T4) (Ke0 : T3) (Kr : T0) (h : H) : Prop :=
  Spl (x6 < (x0n : Int)) (n9 x0b x0n x0c x1 x5 x6 Kn Ke0 Kr h) (Ke0 x5 h)
theorem n8_ok (x0b : Option Addr) (x0n : Nat) (x0c : Nat) (x1 : List UInt8) (x5 : List UInt8) (x6 : Int) (Kn : T4) (Ke0 : T3) (Kr : T0) (g : Env) (hg : E4 g x0b x0n x0c x1 x5 x6) (h : H) (hS : n8 x0b x0n x0c x1 x5 x6 Kn Ke0 Kr h) : wpC none Try.prog 95 n7_c1 (Q3 Kn Ke0 Kr) g h := by
  obtain ⟨hg0, hg1, hg5, hg6, hds⟩ := hg
  refine wpC_seq' (x := n8_c1) (y := n8_c2) (Q' := (Q3 (fun z0b z0n z0c z1 z5 z6 h => n9 z0b z0n z0c z1 z5 z6 Kn Ke0 Kr h) Ke0 Kr)) (by kernel_rfl) ?_ ?_
  · refine wpC_of_wpx (by kernel_rfl) (by kernel_rfl) (g' := ((((⟨g.v, []⟩ : Env).upd (some 0) (.slice x0b x0n x0c)).upd (some 1) (S x1)).upd (some 5) (S x5)).upd (some 6) (.int .i64 x6)) (by rw [env_ds hds, upd_self hg0, upd_self hg1, upd_self hg5, upd_self hg6]) ?_
    have e : (n8 x0b x0n x0c x1 x5 x6 Kn Ke0 Kr h) = wpx none Try.prog 95 n8_c1 (Q3 (fun z0b z0n z0c z1 z5 z6 h => n9 z0b z0n z0c z1 z5 z6 Kn Ke0 Kr h) Ke0 Kr) (((((⟨g.v, []⟩ : Env).upd (some 0) (.slice x0b x0n x0c)).upd (some 1) (S x1)).upd (some 5) (S x5)).upd (some 6) (.int .i64 x6)) h := by kernel_rfl
    exact e ▸ hS
  · intro e g' h' hq
    cases e with
    | normal =>
      have hq : D4 (fun z0b z0n z0c z1 z5 z6 h => n9 z0b z0n z0c z1 z5 z6 Kn Ke0 Kr h) g' h' := hq
      obtain ⟨y0b, y0n, y0c, y1, y5, y6, hg', hq⟩ := D4_ok hq
      exact n9_ok y0b y0n y0c y1 y5 y6 Kn Ke0 Kr g' hg' h' hq
    | _ => exact hq
def n7_L (Kn : T3) (Ke0 : T3) (Kr : T0) : Nat → (Option Addr) → Nat → Nat → (List UInt8) → (List UInt8) → Int → H → Prop
  | 0 => fun _ _ _ _ _ _ _ => False
  | N + 1 => fun x0b x0n x0c x1 x5 x6 h => n8 x0b x0n x0c x1 x5 x6 (fun z0b z0n z0c z1 z5 z6 h => n7_L Kn Ke0 Kr N z0b z0n z0c z1 z5 z6 h) Ke0 Kr h
abbrev n7 (x0b : Option Addr) (x0n : Nat) (x0c : Nat) (x1 : List UInt8) (x5 : List UInt8) (x6 : Int) (Kn : T3) (Ke0 : T3) (Kr : T0) (h : H) : Prop := ∃ N, n7_L Kn Ke0 Kr N x0b x0n x0c x1 x5 x6 h
theorem n7_ok (x0b : Option Addr) (x0n : Nat) (x0c : Nat) (x1 : List UInt8) (x5 : List UInt8) (x6 : Int) (Kn : T3) (Ke0 : T3) (Kr : T0) (g : Env) (hg : E4 g x0b x0n x0c x1 x5 x6) (h : H) (hS : n7 x0b x0n x0c x1 x5 x6 Kn Ke0 Kr h) : wpC none Try.prog 95 n6_c1 (Q2 Kn Ke0 Kr) g h := by
  obtain ⟨N0, hS⟩ := hS
  refine wpC_loop' (x := n7_c1) (by kernel_rfl) (fun k g h => ∃ (x0b : Option Addr) (x0n : Nat) (x0c : Nat) (x1 : List UInt8) (x5 : List UInt8) (x6 : Int), E4 g x0b x0n x0c x1 x5 x6 ∧ n7_L Kn Ke0 Kr k x0b x0n x0c x1 x5 x6 h) (fun g h hr => ?_) (fun N g h hr => ?_) N0 ⟨x0b, x0n, x0c, x1, x5, x6, hg, hS⟩
  · obtain ⟨x0b, x0n, x0c, x1, x5, x6, hg, hS⟩ := hr
    exact hS.elim
  · obtain ⟨x0b, x0n, x0c, x1, x5, x6, hg, hS⟩ := hr
    refine (n8_ok x0b x0n x0c x1 x5 x6 (fun z0b z0n z0c z1 z5 z6 h => n7_L Kn Ke0 Kr N z0b z0n z0c z1 z5 z6 h) Ke0 Kr g hg h hS).mono ?_
    intro e g' h' hq
    cases e with
    | normal => exact D4_ok (K := (fun z0b z0n z0c z1 z5 z6 h => n7_L Kn Ke0 Kr N z0b z0n z0c z1 z5 z6 h)) hq
    | _ => exact hq
abbrev n6 (x0b : Option Addr) (x0n : Nat) (x0c : Nat) (x1 : List UInt8) (x5 : List UInt8) (x6 : Int) (Kn : T3) (Kr : T0) (h : H) : Prop := n7 x0b x0n x0c x1 x5 x6 Kn Kn Kr h
theorem n6_ok (x0b : Option Addr) (x0n : Nat) (x0c : Nat) (x1 : List UInt8) (x5 : List UInt8) (x6 : Int) (Kn : T3) (Kr : T0) (g : Env) (hg : E4 g x0b x0n x0c x1 x5 x6) (h : H) (hS : n6 x0b x0n x0c x1 x5 x6 Kn Kr h) : wpC none Try.prog 95 n5_c2 (Q1 Kn Kr) g h := by
  refine wpC_block' (id := 0) (x := n6_c1) (by kernel_rfl) (n7_ok x0b x0n x0c x1 x5 x6 Kn Kn Kr g hg h hS) ?_
  intro e g' h' hq
  cases e <;> exact hq
def Q16 (Kn : T4) (Kr : T0) : XPost
  | .normal, g, h => D4 Kn g h
  | .ret, g, h => D0 Kr g h
  | _, _, _ => False
abbrev n5 (x0b : Option Addr) (x0n : Nat) (x0c : Nat) (x1 : List UInt8) (x5 : List UInt8) (Kn : T3) (Kr : T0) (h : H) : Prop :=
  n6 x0b x0n x0c x1 x5 (0 : Int) Kn Kr h
theorem n5_ok (x0b : Option Addr) (x0n : Nat) (x0c : Nat) (x1 : List UInt8) (x5 : List UInt8) (Kn : T3) (Kr : T0) (g : Env) (hg : E2 g x0b x0n x0c x1 x5) (h : H) (hS : n5 x0b x0n x0c x1 x5 Kn Kr h) : wpC none Try.prog 95 n3_c1 (Q1 Kn Kr) g h := by
  obtain ⟨hg0, hg1, hg5, hds⟩ := hg
  refine wpC_seq' (x := n5_c1) (y := n5_c2) (Q' := (Q16 (fun z0b z0n z0c z1 z5 z6 h => n6 z0b z0n z0c z1 z5 z6 Kn Kr h) Kr)) (by kernel_rfl) ?_ ?_
  · refine wpC_of_wpx (by kernel_rfl) (by kernel_rfl) (g' := (((⟨g.v, []⟩ : Env).upd (some 0) (.slice x0b x0n x0c)).upd (some 1) (S x1)).upd (some 5) (S x5)) (by rw [env_ds hds, upd_self hg0, upd_self hg1, upd_self hg5]) ?_
    have e : (n5 x0b x0n x0c x1 x5 Kn Kr h) = wpx none Try.prog 95 n5_c1 (Q16 (fun z0b z0n z0c z1 z5 z6 h => n6 z0b z0n z0c z1 z5 z6 Kn Kr h) Kr) ((((⟨g.v, []⟩ : Env).upd (some 0) (.slice x0b x0n x0c)).upd (some 1) (S x1)).upd (some 5) (S x5)) h := by kernel_rfl
    exact e ▸ hS
  · intro e g' h' hq
    cases e with
    | normal =>
      have hq : D4 (fun z0b z0n z0c z1 z5 z6 h => n6 z0b z0n z0c z1 z5 z6 Kn Kr h) g' h' := hq
      obtain ⟨y0b, y0n, y0c, y1, y5, y6, hg', hq⟩ := D4_ok hq
      exact n6_ok y0b y0n y0c y1 y5 y6 Kn Kr g' hg' h' hq
    | _ => exact hq
abbrev n3 (x0b : Option Addr) (x0n : Nat) (x0c : Nat) (x1 : List UInt8) (x5 : List UInt8) (Kn : T0) (Kr : T0) (h : H) : Prop := n5 x0b x0n x0c x1 x5 (fun z5 h => n4 z5 Kn Kr h) Kr h
theorem n3_ok (x0b : Option Addr) (x0n : Nat) (x0c : Nat) (x1 : List UInt8) (x5 : List UInt8) (Kn : T0) (Kr : T0) (g : Env) (hg : E2 g x0b x0n x0c x1 x5) (h : H) (hS : n3 x0b x0n x0c x1 x5 Kn Kr h) : wpC none Try.prog 95 n2_c2 (Q0 Kn Kr) g h := by
  refine wpC_seq' (x := n3_c1) (y := n3_c2) (by kernel_rfl) (n5_ok x0b x0n x0c x1 x5 (fun z5 h => n4 z5 Kn Kr h) Kr g hg h hS) ?_
  intro e g' h' hq
  cases e with
  | normal =>
    have hq : D3 (fun z5 h => n4 z5 Kn Kr h) g' h' := hq
    obtain ⟨y5, hg', hq⟩ := D3_ok hq
    exact n4_ok y5 Kn Kr g' hg' h' hq
  | _ => exact hq
def Q17 (Kn : T2) (Kr : T0) : XPost
  | .normal, g, h => D2 Kn g h
  | .ret, g, h => D0 Kr g h
  | _, _, _ => False
abbrev n2 (x0b : Option Addr) (x0n : Nat) (x0c : Nat) (x1 : List UInt8) (Kn : T0) (Kr : T0) (h : H) : Prop :=
  n3 x0b x0n x0c x1 ([] : List UInt8) Kn Kr h
theorem n2_ok (x0b : Option Addr) (x0n : Nat) (x0c : Nat) (x1 : List UInt8) (Kn : T0) (Kr : T0) (g : Env) (hg : E1 g x0b x0n x0c x1) (h : H) (hS : n2 x0b x0n x0c x1 Kn Kr h) : wpC none Try.prog 95 n1_c2 (Q0 Kn Kr) g h := by
  obtain ⟨hg0, hg1, hds⟩ := hg
  refine wpC_seq' (x := n2_c1) (y := n2_c2) (Q' := (Q17 (fun z0b z0n z0c z1 z5 h => n3 z0b z0n z0c z1 z5 Kn Kr h) Kr)) (by kernel_rfl) ?_ ?_
  · refine wpC_of_wpx (by kernel_rfl) (by kernel_rfl) (g' := ((⟨g.v, []⟩ : Env).upd (some 0) (.slice x0b x0n x0c)).upd (some 1) (S x1)) (by rw [env_ds hds, upd_self hg0, upd_self hg1]) ?_
    have e : (n2 x0b x0n x0c x1 Kn Kr h) = wpx none Try.prog 95 n2_c1 (Q17 (fun z0b z0n z0c z1 z5 h => n3 z0b z0n z0c z1 z5 Kn Kr h) Kr) (((⟨g.v, []⟩ : Env).upd (some 0) (.slice x0b x0n x0c)).upd (some 1) (S x1)) h := by kernel_rfl
    exact e ▸ hS
  · intro e g' h' hq
    cases e with
    | normal =>
      have hq : D2 (fun z0b z0n z0c z1 z5 h => n3 z0b z0n z0c z1 z5 Kn Kr h) g' h' := hq
      obtain ⟨y0b, y0n, y0c, y1, y5, hg', hq⟩ := D2_ok hq
      exact n3_ok y0b y0n y0c y1 y5 Kn Kr g' hg' h' hq
    | _ => exact hq
def Q18 (Kn : T1) (Kr : T0) : XPost
  | .normal, g, h => D1 Kn g h
  | .ret, g, h => D0 Kr g h
  | _, _, _ => False
abbrev n1 (x0b : Option Addr) (x0n : Nat) (x0c : Nat) (x1 : List UInt8) (Kn : T0) (Kr : T0) (h : H) : Prop :=
  n2 x0b x0n x0c x1 Kn Kr h
theorem n1_ok (x0b : Option Addr) (x0n : Nat) (x0c : Nat) (x1 : List UInt8) (Kn : T0) (Kr : T0) (g : Env) (hg : E1 g x0b x0n x0c x1) (h : H) (hS : n1 x0b x0n x0c x1 Kn Kr h) : wpC none Try.prog 95 code (Q0 Kn Kr) g h := by
  obtain ⟨hg0, hg1, hds⟩ := hg
  refine wpC_seq' (x := n1_c1) (y := n1_c2) (Q' := (Q18 (fun z0b z0n z0c z1 h => n2 z0b z0n z0c z1 Kn Kr h) Kr)) (by kernel_rfl) ?_ ?_
  · refine wpC_of_wpx (by kernel_rfl) (by kernel_rfl) (g' := ((⟨g.v, []⟩ : Env).upd (some 0) (.slice x0b x0n x0c)).upd (some 1) (S x1)) (by rw [env_ds hds, upd_self hg0, upd_self hg1]) ?_
    have e : (n1 x0b x0n x0c x1 Kn Kr h) = wpx none Try.prog 95 n1_c1 (Q18 (fun z0b z0n z0c z1 h => n2 z0b z0n z0c z1 Kn Kr h) Kr) (((⟨g.v, []⟩ : Env).upd (some 0) (.slice x0b x0n x0c)).upd (some 1) (S x1)) h := by kernel_rfl
    exact e ▸ hS
  · intro e g' h' hq
    cases e with
    | normal =>
      have hq : D1 (fun z0b z0n z0c z1 h => n2 z0b z0n z0c z1 Kn Kr h) g' h' := hq
      obtain ⟨y0b, y0n, y0c, y1, hg', hq⟩ := D1_ok hq
      exact n2_ok y0b y0n y0c y1 Kn Kr g' hg' h' hq
    | _ => exact hq
/-- WHAT tympan/tympanref10.lines ASKS -/
abbrev asks (x0b : Option Addr) (x0n : Nat) (x0c : Nat) (x1 : List UInt8) (K : Value → H → Prop) (h : H) : Prop := n1 x0b x0n x0c x1 (fun y4 h => K (S y4) h) (fun y4 h => K (S y4) h) h
theorem ok (x0b : Option Addr) (x0n : Nat) (x0c : Nat) (x1 : List UInt8) (K : Value → H → Prop) (h : H) (hS : asks x0b x0n x0c x1 K h) : HCalls Try.prog 62 ⟨[(.slice x0b x0n x0c), (S x1)]⟩ h K := by
  refine calls_of_wpC (c := code) Try.func62 (by kernel_rfl) (Nat.le_of_ble_eq_true (by kernel_rfl)) ?_
  refine (n1_ok x0b x0n x0c x1 (fun y4 h => K (S y4) h) (fun y4 h => K (S y4) h) (env0 [(.slice x0b x0n x0c), (S x1)]) ⟨rfl, rfl, rfl⟩ h hS).mono ?_
  intro e g' h' hq
  cases e with
  | normal =>
    have hq : D0 (fun y4 h => K (S y4) h) g' h' := hq
    obtain ⟨y4, ⟨hg4, hd⟩, hq⟩ := D0_ok hq
    show leaveX g'.ds h' _
    rw [hd]
    show K (g'.v 4) h'
    rw [hg4]
    exact hq
  | ret =>
    have hq : D0 (fun y4 h => K (S y4) h) g' h' := hq
    obtain ⟨y4, ⟨hg4, hd⟩, hq⟩ := D0_ok hq
    show leaveX g'.ds h' _
    rw [hd]
    show K (g'.v 4) h'
    rw [hg4]
    exact hq
  | _ => exact hq
end Sx.r10_lines

/-! ### tympan/dom.Print -/
namespace Sx.dom_Print
noncomputable def code : Code := bodyOf Try.f32
abbrev T0 := (List UInt8) → H → Prop
def E0 (g : Env) (x2 : List UInt8) : Prop := g.v 2 = (S x2) ∧ g.ds = []
def D0 (K : T0) (g : Env) (h : H) : Prop := nilDs g.ds (vStr (g.v 2) fun s1 => K s1 h)
theorem D0_ok {K : T0} {g : Env} {h : H} (hq : D0 K g h) : ∃ (x2 : List UInt8), E0 g x2 ∧ K x2 h := by
  obtain ⟨hd, hq⟩ := nilDs_ok hq
  obtain ⟨y3, e2, q4⟩ := vStr_ok hq
  exact ⟨y3, ⟨e2, hd⟩, q4⟩
def Q0 (Kn : T0) (Kr : T0) : XPost
  | .normal, g, h => D0 Kn g h
  | .ret, g, h => D0 Kr g h
  | _, _, _ => False
abbrev T1 := (Option Addr) → Nat → Nat → H → Prop
def E1 (g : Env) (x0b : Option Addr) (x0n : Nat) (x0c : Nat) : Prop := g.v 0 = (.slice x0b x0n x0c) ∧ g.ds = []
def D1 (K : T1) (g : Env) (h : H) : Prop := nilDs g.ds (vSlice (g.v 0) fun s5b s5n s5c => K s5b s5n s5c h)
theorem D1_ok {K : T1} {g : Env} {h : H} (hq : D1 K g h) : ∃ (x0b : Option Addr) (x0n : Nat) (x0c : Nat), E1 g x0b x0n x0c ∧ K x0b x0n x0c h := by
  obtain ⟨hd, hq⟩ := nilDs_ok hq
  obtain ⟨y7b, y7n, y7c, e6, q8⟩ := vSlice_ok hq
  exact ⟨y7b, y7n, y7c, ⟨e6, hd⟩, q8⟩
abbrev n1 (x0b : Option Addr) (x0n : Nat) (x0c : Nat) (Kn : T0) (Kr : T0) (h : H) : Prop :=
  newx h ⟨[(.pointer none), (.slice none 0 0)]⟩ 78 fun a9 h10 => newx h10 #[.nilFunc] 84 fun a11 h12 => stL a11 [(.func (.func 57) ⟨[]⟩ ⟨[(.pointer (some a9))]⟩)] 0 h12 fun h13 => SemH Try.prog (Instr.makeMap 85 none) h13 fun v14 h15 => vMap v14 fun m16 => SemU Try.prog (Instr.mapUpdate 85 (.map m16) (.int .u8 (1 : Int)) (S ([115, 118, 103, 32] : List UInt8))) h15 fun h17 => SemU Try.prog (Instr.mapUpdate 85 (.map m16) (.int .u8 (2 : Int)) (S ([109, 97, 116, 104, 32] : List UInt8))) h17 fun h18 => newx h18 #[(.map none)] 85 fun a19 h20 => stL a19 [(.map m16)] 0 h20 fun h21 => newx h21 #[.nilFunc] 86 fun a22 h23 => stL a22 [(.func (.func 60) ⟨[]⟩ ⟨[(.pointer (some a11)), (.pointer (some a19)), (.pointer (some a22))]⟩)] 0 h23 fun h24 => ∃ v25, cell h24 a22 = some v25 ∧ CallV Try.prog 0 v25 ⟨[(.slice x0b x0n x0c), (.int .i64 (0 : Int))]⟩ h24 fun v26 h27 => HCalls Try.prog 61 ⟨[(.pointer (some a9))]⟩ h27 fun v28 h29 => vStr v28 fun s30 => Kr s30 h29
theorem n1_ok (x0b : Option Addr) (x0n : Nat) (x0c : Nat) (Kn : T0) (Kr : T0) (g : Env) (hg : E1 g x0b x0n x0c) (h : H) (hS : n1 x0b x0n x0c Kn Kr h) : wpC none Try.prog 15 code (Q0 Kn Kr) g h := by
  obtain ⟨hg0, hds⟩ := hg
  refine wpC_of_wpx (by kernel_rfl) (by kernel_rfl) (g' := (⟨g.v, []⟩ : Env).upd (some 0) (.slice x0b x0n x0c)) (by rw [env_ds hds, upd_self hg0]) ?_
  have e : (n1 x0b x0n x0c Kn Kr h) = wpx none Try.prog 15 code (Q0 Kn Kr) ((⟨g.v, []⟩ : Env).upd (some 0) (.slice x0b x0n x0c)) h := by kernel_rfl
  exact e ▸ hS
/-- WHAT tympan/dom.Print ASKS -/
abbrev asks (x0b : Option Addr) (x0n : Nat) (x0c : Nat) (K : Value → H → Prop) (h : H) : Prop := n1 x0b x0n x0c (fun y2 h => K (S y2) h) (fun y2 h => K (S y2) h) h
theorem ok (x0b : Option Addr) (x0n : Nat) (x0c : Nat) (K : Value → H → Prop) (h : H) (hS : asks x0b x0n x0c K h) : HCalls Try.prog 32 ⟨[(.slice x0b x0n x0c)]⟩ h K := by
  refine calls_of_wpC (c := code) Try.func32 (by kernel_rfl) (Nat.le_of_ble_eq_true (by kernel_rfl)) ?_
  refine (n1_ok x0b x0n x0c (fun y2 h => K (S y2) h) (fun y2 h => K (S y2) h) (env0 [(.slice x0b x0n x0c)]) ⟨rfl, rfl⟩ h hS).mono ?_
  intro e g' h' hq
  cases e with
  | normal =>
    have hq : D0 (fun y2 h => K (S y2) h) g' h' := hq
    obtain ⟨y2, ⟨hg2, hd⟩, hq⟩ := D0_ok hq
    show leaveX g'.ds h' _
    rw [hd]
    show K (g'.v 2) h'
    rw [hg2]
    exact hq
  | ret =>
    have hq : D0 (fun y2 h => K (S y2) h) g' h' := hq
    obtain ⟨y2, ⟨hg2, hd⟩, hq⟩ := D0_ok hq
    show leaveX g'.ds h' _
    rw [hd]
    show K (g'.v 2) h'
    rw [hg2]
    exact hq
  | _ => exact hq
end Sx.dom_Print

/-! ### tympan/dom.Print$1 -/
namespace Sx.dom_Print_1
noncomputable def code : Code := bodyOf Try.f57
abbrev T0 := H → Prop
def E0 (g : Env)  : Prop := g.ds = []
def D0 (K : T0) (g : Env) (h : H) : Prop := nilDs g.ds (K h)
theorem D0_ok {K : T0} {g : Env} {h : H} (hq : D0 K g h) : E0 g  ∧ K  h := by
  obtain ⟨hd, hq⟩ := nilDs_ok hq
  skip
  exact ⟨hd, hq⟩
def Q0 (Kn : T0) (Kr : T0) : XPost
  | .normal, g, h => D0 Kn g h
  | .ret, g, h => D0 Kr g h
  | _, _, _ => False
abbrev T1 := Int → (List UInt8) → Value → H → Prop
def E1 (g : Env) (x0 : Int) (x1 : List UInt8) (x2 : Value) : Prop := g.v 0 = (.int .i64 x0) ∧ g.v 1 = (S x1) ∧ g.v 2 = x2 ∧ g.ds = []
def D1 (K : T1) (g : Env) (h : H) : Prop := nilDs g.ds (vInt .i64 (g.v 0) fun i1 => vStr (g.v 1) fun s2 => K i1 s2 (g.v 2) h)
theorem D1_ok {K : T1} {g : Env} {h : H} (hq : D1 K g h) : ∃ (x0 : Int) (x1 : List UInt8) (x2 : Value), E1 g x0 x1 x2 ∧ K x0 x1 x2 h := by
  obtain ⟨hd, hq⟩ := nilDs_ok hq
  obtain ⟨y4, e3, q5⟩ := vInt_ok hq
  obtain ⟨y7, e6, q8⟩ := vStr_ok q5
  exact ⟨y4, y7, (g.v 2), ⟨e3, e6, rfl, hd⟩, q8⟩
abbrev n1 (x0 : Int) (x1 : List UInt8) (x2 : Value) (Kn : T0) (Kr : T0) (h : H) : Prop :=
  HCalls Try.prog 59 ⟨[(S ([32, 32] : List UInt8)), (.int .i64 x0)]⟩ h fun v9 h10 => vStr v9 fun s11 => ((s11.length + x1.length : Nat) : Int) ≤ 9223372036854775807 ∧ ((((s11 ++ x1).length + ([10] : List UInt8).length : Nat) : Int) ≤ 9223372036854775807 ∧ (HCalls Try.prog 58 ⟨[x2, (S ((s11 ++ x1) ++ ([10] : List UInt8)))]⟩ h10 fun v12 h13 => vTup v12 fun l14 => uncons l14 fun e15 l16 => vInt .i64 e15 fun i17 => uncons l16 fun e18 l19 => unnil l19 (Kn h13)))
theorem n1_ok (x0 : Int) (x1 : List UInt8) (x2 : Value) (Kn : T0) (Kr : T0) (g : Env) (hg : E1 g x0 x1 x2) (h : H) (hS : n1 x0 x1 x2 Kn Kr h) : wpC none Try.prog 11 code (Q0 Kn Kr) g h := by
  obtain ⟨hg0, hg1, hg2, hds⟩ := hg
  refine wpC_of_wpx (by kernel_rfl) (by kernel_rfl) (g' := (((⟨g.v, []⟩ : Env).upd (some 0) (.int .i64 x0)).upd (some 1) (S x1)).upd (some 2) x2) (by rw [env_ds hds, upd_self hg0, upd_self hg1, upd_self hg2]) ?_
  have e : (n1 x0 x1 x2 Kn Kr h) = wpx none Try.prog 11 code (Q0 Kn Kr) ((((⟨g.v, []⟩ : Env).upd (some 0) (.int .i64 x0)).upd (some 1) (S x1)).upd (some 2) x2) h := by kernel_rfl
  exact e ▸ hS
/-- WHAT tympan/dom.Print$1 ASKS -/
abbrev asks (x0 : Int) (x1 : List UInt8) (x2 : Value) (K : Value → H → Prop) (h : H) : Prop := n1 x0 x1 x2 (fun h => K (.tuple ⟨[]⟩) h) (fun h => K (.tuple ⟨[]⟩) h) h
theorem ok (x0 : Int) (x1 : List UInt8) (x2 : Value) (K : Value → H → Prop) (h : H) (hS : asks x0 x1 x2 K h) : HCalls Try.prog 57 ⟨[(.int .i64 x0), (S x1), x2]⟩ h K := by
  refine calls_of_wpC (c := code) Try.func57 (by kernel_rfl) (Nat.le_of_ble_eq_true (by kernel_rfl)) ?_
  refine (n1_ok x0 x1 x2 (fun h => K (.tuple ⟨[]⟩) h) (fun h => K (.tuple ⟨[]⟩) h) (env0 [(.int .i64 x0), (S x1), x2]) ⟨rfl, rfl, rfl, rfl⟩ h hS).mono ?_
  intro e g' h' hq
  cases e with
  | normal =>
    have hq : D0 (fun h => K (.tuple ⟨[]⟩) h) g' h' := hq
    obtain ⟨hd, hq⟩ := D0_ok hq
    show leaveX g'.ds h' _
    rw [hd]
    show K (.tuple ⟨[]⟩) h'
    exact hq
  | ret =>
    have hq : D0 (fun h => K (.tuple ⟨[]⟩) h) g' h' := hq
    obtain ⟨hd, hq⟩ := D0_ok hq
    show leaveX g'.ds h' _
    rw [hd]
    show K (.tuple ⟨[]⟩) h'
    exact hq
  | _ => exact hq
end Sx.dom_Print_1

/-! ### tympan/dom.Print$2 -/
namespace Sx.dom_Print_2
noncomputable def code : Code := bodyOf Try.f60
abbrev T0 := H → Prop
def E0 (g : Env)  : Prop := g.ds = []
def D0 (K : T0) (g : Env) (h : H) : Prop := nilDs g.ds (K h)
theorem D0_ok {K : T0} {g : Env} {h : H} (hq : D0 K g h) : E0 g  ∧ K  h := by
  obtain ⟨hd, hq⟩ := nilDs_ok hq
  skip
  exact ⟨hd, hq⟩
def Q0 (Kn : T0) (Kr : T0) : XPost
  | .normal, g, h => D0 Kn g h
  | .ret, g, h => D0 Kr g h
  | _, _, _ => False
abbrev T1 := (Option Addr) → Nat → Nat → Int → Addr → Addr → Addr → H → Prop
def E1 (g : Env) (x0b : Option Addr) (x0n : Nat) (x0c : Nat) (x1 : Int) (x2 : Addr) (x3 : Addr) (x4 : Addr) : Prop := g.v 0 = (.slice x0b x0n x0c) ∧ g.v 1 = (.int .i64 x1) ∧ g.v 2 = (.pointer (some x2)) ∧ g.v 3 = (.pointer (some x3)) ∧ g.v 4 = (.pointer (some x4)) ∧ g.ds = []
def D1 (K : T1) (g : Env) (h : H) : Prop := nilDs g.ds (vSlice (g.v 0) fun s1b s1n s1c => vInt .i64 (g.v 1) fun i2 => vAddr (g.v 2) fun a3 => vAddr (g.v 3) fun a4 => vAddr (g.v 4) fun a5 => K s1b s1n s1c i2 a3 a4 a5 h)
theorem D1_ok {K : T1} {g : Env} {h : H} (hq : D1 K g h) : ∃ (x0b : Option Addr) (x0n : Nat) (x0c : Nat) (x1 : Int) (x2 : Addr) (x3 : Addr) (x4 : Addr), E1 g x0b x0n x0c x1 x2 x3 x4 ∧ K x0b x0n x0c x1 x2 x3 x4 h := by
  obtain ⟨hd, hq⟩ := nilDs_ok hq
  obtain ⟨y7b, y7n, y7c, e6, q8⟩ := vSlice_ok hq
  obtain ⟨y10, e9, q11⟩ := vInt_ok q8
  obtain ⟨y13, e12, q14⟩ := vAddr_ok q11
  obtain ⟨y16, e15, q17⟩ := vAddr_ok q14
  obtain ⟨y19, e18, q20⟩ := vAddr_ok q17
  exact ⟨y7b, y7n, y7c, y10, y13, y16, y19, ⟨e6, e9, e12, e15, e18, hd⟩, q20⟩
noncomputable def n1_c1 : Code := cFst code
noncomputable def n1_c2 : Code := cSnd code
abbrev T2 := Int → Addr → Addr → Addr → (Option Addr) → Nat → Nat → Int → Int → H → Prop
def E2 (g : Env) (x1 : Int) (x2 : Addr) (x3 : Addr) (x4 : Addr) (x11b : Option Addr) (x11n : Nat) (x11c : Nat) (x12 : Int) (x13 : Int) : Prop := g.v 1 = (.int .i64 x1) ∧ g.v 2 = (.pointer (some x2)) ∧ g.v 3 = (.pointer (some x3)) ∧ g.v 4 = (.pointer (some x4)) ∧ g.v 11 = (.slice x11b x11n x11c) ∧ g.v 12 = (.int .i64 x12) ∧ g.v 13 = (.int .i64 x13) ∧ g.ds = []
def D2 (K : T2) (g : Env) (h : H) : Prop := nilDs g.ds (vInt .i64 (g.v 1) fun i21 => vAddr (g.v 2) fun a22 => vAddr (g.v 3) fun a23 => vAddr (g.v 4) fun a24 => vSlice (g.v 11) fun s25b s25n s25c => vInt .i64 (g.v 12) fun i26 => vInt .i64 (g.v 13) fun i27 => K i21 a22 a23 a24 s25b s25n s25c i26 i27 h)
theorem D2_ok {K : T2} {g : Env} {h : H} (hq : D2 K g h) : ∃ (x1 : Int) (x2 : Addr) (x3 : Addr) (x4 : Addr) (x11b : Option Addr) (x11n : Nat) (x11c : Nat) (x12 : Int) (x13 : Int), E2 g x1 x2 x3 x4 x11b x11n x11c x12 x13 ∧ K x1 x2 x3 x4 x11b x11n x11c x12 x13 h := by
  obtain ⟨hd, hq⟩ := nilDs_ok hq
  obtain ⟨y29, e28, q30⟩ := vInt_ok hq
  obtain ⟨y32, e31, q33⟩ := vAddr_ok q30
  obtain ⟨y35, e34, q36⟩ := vAddr_ok q33
  obtain ⟨y38, e37, q39⟩ := vAddr_ok q36
  obtain ⟨y41b, y41n, y41c, e40, q42⟩ := vSlice_ok q39
  obtain ⟨y44, e43, q45⟩ := vInt_ok q42
  obtain ⟨y47, e46, q48⟩ := vInt_ok q45
  exact ⟨y29, y32, y35, y38, y41b, y41n, y41c, y44, y47, ⟨e28, e31, e34, e37, e40, e43, e46, hd⟩, q48⟩
noncomputable def n2_c1 : Code := cFst n1_c2
def Q1 (Kn : T0) (Ke0 : T0) (Kr : T0) : XPost
  | .normal, g, h => D0 Kn g h
  | .ret, g, h => D0 Kr g h
  | .exit id, g, h => cond (Nat.beq id 0) (D0 Ke0 g h) (False)
  | _, _, _ => False
noncomputable def n3_c1 : Code := cFst n2_c1
def Q2 (Kn : T2) (Ke0 : T0) (Kr : T0) : XPost
  | .normal, g, h => D2 Kn g h
  | .ret, g, h => D0 Kr g h
  | .exit id, g, h => cond (Nat.beq id 0) (D0 Ke0 g h) (False)
  | _, _, _ => False
noncomputable def n4_c1 : Code := cFst n3_c1
noncomputable def n4_c2 : Code := cSnd n3_c1
abbrev T3 := Int → Addr → Addr → Addr → (Option Addr) → Nat → Nat → Int → Int → Value → H → Prop
def E3 (g : Env) (x1 : Int) (x2 : Addr) (x3 : Addr) (x4 : Addr) (x11b : Option Addr) (x11n : Nat) (x11c : Nat) (x12 : Int) (x13 : Int) (x14 : Value) : Prop := g.v 1 = (.int .i64 x1) ∧ g.v 2 = (.pointer (some x2)) ∧ g.v 3 = (.pointer (some x3)) ∧ g.v 4 = (.pointer (some x4)) ∧ g.v 11 = (.slice x11b x11n x11c) ∧ g.v 12 = (.int .i64 x12) ∧ g.v 13 = (.int .i64 x13) ∧ g.v 14 = x14 ∧ g.ds = []
def D3 (K : T3) (g : Env) (h : H) : Prop := nilDs g.ds (vInt .i64 (g.v 1) fun i49 => vAddr (g.v 2) fun a50 => vAddr (g.v 3) fun a51 => vAddr (g.v 4) fun a52 => vSlice (g.v 11) fun s53b s53n s53c => vInt .i64 (g.v 12) fun i54 => vInt .i64 (g.v 13) fun i55 => K i49 a50 a51 a52 s53b s53n s53c i54 i55 (g.v 14) h)
theorem D3_ok {K : T3} {g : Env} {h : H} (hq : D3 K g h) : ∃ (x1 : Int) (x2 : Addr) (x3 : Addr) (x4 : Addr) (x11b : Option Addr) (x11n : Nat) (x11c : Nat) (x12 : Int) (x13 : Int) (x14 : Value), E3 g x1 x2 x3 x4 x11b x11n x11c x12 x13 x14 ∧ K x1 x2 x3 x4 x11b x11n x11c x12 x13 x14 h := by
  obtain ⟨hd, hq⟩ := nilDs_ok hq
  obtain ⟨y57, e56, q58⟩ := vInt_ok hq
  obtain ⟨y60, e59, q61⟩ := vAddr_ok q58
  obtain ⟨y63, e62, q64⟩ := vAddr_ok q61
  obtain ⟨y66, e65, q67⟩ := vAddr_ok q64
  obtain ⟨y69b, y69n, y69c, e68, q70⟩ := vSlice_ok q67
  obtain ⟨y72, e71, q73⟩ := vInt_ok q70
  obtain ⟨y75, e74, q76⟩ := vInt_ok q73
  exact ⟨y57, y60, y63, y66, y69b, y69n, y69c, y72, y75, (g.v 14), ⟨e56, e59, e62, e65, e68, e71, e74, rfl, hd⟩, q76⟩
noncomputable def n5_c1 : Code := cFst n4_c2
noncomputable def n5_c2 : Code := cSnd n4_c2
noncomputable def n6_c1 : Code := cFst n5_c2
noncomputable def n6_c2 : Code := cSnd n5_c2
abbrev n7 (x1 : Int) (x2 : Addr) (x3 : Addr) (x4 : Addr) (x11b : Option Addr) (x11n : Nat) (x11c : Nat) (x12 : Int) (x13 : Int) (Kn : T2) (Ke0 : T0) (Kr : T0) (h : H) : Prop :=
  Rng .i64 (x13 + (1 : Int)) ∧ (Kn x1 x2 x3 x4 x11b x11n x11c x12 (x13 + (1 : Int)) h)
theorem n7_ok (x1 : Int) (x2 : Addr) (x3 : Addr) (x4 : Addr) (x11b : Option Addr) (x11n : Nat) (x11c : Nat) (x12 : Int) (x13 : Int) (Kn : T2) (Ke0 : T0) (Kr : T0) (g : Env) (hg : E2 g x1 x2 x3 x4 x11b x11n x11c x12 x13) (h : H) (hS : n7 x1 x2 x3 x4 x11b x11n x11c x12 x13 Kn Ke0 Kr h) : wpC none Try.prog 77 n6_c2 (Q2 Kn Ke0 Kr) g h := by
  obtain ⟨hg1, hg2, hg3, hg4, hg11, hg12, hg13, hds⟩ := hg
  refine wpC_of_wpx (by kernel_rfl) (by kernel_rfl) (g' := (((((((⟨g.v, []⟩ : Env).upd (some 1) (.int .i64 x1)).upd (some 2) (.pointer (some x2))).upd (some 3) (.pointer (some x3))).upd (some 4) (.pointer (some x4))).upd (some 11) (.slice x11b x11n x11c)).upd (some 12) (.int .i64 x12)).upd (some 13) (.int .i64 x13)) (by rw [env_ds hds, upd_self hg1, upd_self hg2, upd_self hg3, upd_self hg4, upd_self hg11, upd_self hg12, upd_self hg13]) ?_
  have e : (n7 x1 x2 x3 x4 x11b x11n x11c x12 x13 Kn Ke0 Kr h) = wpx none Try.prog 77 n6_c2 (Q2 Kn Ke0 Kr) ((((((((⟨g.v, []⟩ : Env).upd (some 1) (.int .i64 x1)).upd (some 2) (.pointer (some x2))).upd (some 3) (.pointer (some x3))).upd (some 4) (.pointer (some x4))).upd (some 11) (.slice x11b x11n x11c)).upd (some 12) (.int .i64 x12)).upd (some 13) (.int .i64 x13)) h := by kernel_rfl
  exact e ▸ hS
noncomputable def n8_c1 : Code := cFst n6_c1
def Q3 (Kn : T2) (Ke1 : T2) (Ke0 : T0) (Kr : T0) : XPost
  | .normal, g, h => D2 Kn g h
  | .ret, g, h => D0 Kr g h
  | .exit id, g, h => cond (Nat.beq id 1) (D2 Ke1 g h) (cond (Nat.beq id 0) (D0 Ke0 g h) (False))
  | _, _, _ => False
noncomputable def n9_c1 : Code := cFst n8_c1
noncomputable def n9_c2 : Code := cSnd n8_c1
abbrev T4 := Int → Addr → Addr → Addr → Addr → (Option Addr) → Nat → Nat → Int → Int → H → Prop
def E4 (g : Env) (x1 : Int) (x2 : Addr) (x3 : Addr) (x4 : Addr) (x8 : Addr) (x11b : Option Addr) (x11n : Nat) (x11c : Nat) (x12 : Int) (x13 : Int) : Prop := g.v 1 = (.int .i64 x1) ∧ g.v 2 = (.pointer (some x2)) ∧ g.v 3 = (.pointer (some x3)) ∧ g.v 4 = (.pointer (some x4)) ∧ g.v 8 = (.pointer (some x8)) ∧ g.v 11 = (.slice x11b x11n x11c) ∧ g.v 12 = (.int .i64 x12) ∧ g.v 13 = (.int .i64 x13) ∧ g.ds = []
def D4 (K : T4) (g : Env) (h : H) : Prop := nilDs g.ds (vInt .i64 (g.v 1) fun i77 => vAddr (g.v 2) fun a78 => vAddr (g.v 3) fun a79 => vAddr (g.v 4) fun a80 => vAddr (g.v 8) fun a81 => vSlice (g.v 11) fun s82b s82n s82c => vInt .i64 (g.v 12) fun i83 => vInt .i64 (g.v 13) fun i84 => K i77 a78 a79 a80 a81 s82b s82n s82c i83 i84 h)
theorem D4_ok {K : T4} {g : Env} {h : H} (hq : D4 K g h) : ∃ (x1 : Int) (x2 : Addr) (x3 : Addr) (x4 : Addr) (x8 : Addr) (x11b : Option Addr) (x11n : Nat) (x11c : Nat) (x12 : Int) (x13 : Int), E4 g x1 x2 x3 x4 x8 x11b x11n x11c x12 x13 ∧ K x1 x2 x3 x4 x8 x11b x11n x11c x12 x13 h := by
  obtain ⟨hd, hq⟩ := nilDs_ok hq
  obtain ⟨y86, e85, q87⟩ := vInt_ok hq
  obtain ⟨y89, e88, q90⟩ := vAddr_ok q87
  obtain ⟨y92, e91, q93⟩ := vAddr_ok q90
  obtain ⟨y95, e94, q96⟩ := vAddr_ok q93
  obtain ⟨y98, e97, q99⟩ := vAddr_ok q96
  obtain ⟨y101b, y101n, y101c, e100, q102⟩ := vSlice_ok q99
  obtain ⟨y104, e103, q105⟩ := vInt_ok q102
  obtain ⟨y107, e106, q108⟩ := vInt_ok q105
  exact ⟨y86, y89, y92, y95, y98, y101b, y101n, y101c, y104, y107, ⟨e85, e88, e91, e94, e97, e100, e103, e106, hd⟩, q108⟩
noncomputable def n10_c1 : Code := cFst n9_c2
noncomputable def n10_c2 : Code := cSnd n9_c2
abbrev T5 := Int → Addr → Addr → Addr → Addr → (Option Addr) → Nat → Nat → Int → Int → Int → H → Prop
def E5 (g : Env) (x1 : Int) (x2 : Addr) (x3 : Addr) (x4 : Addr) (x8 : Addr) (x11b : Option Addr) (x11n : Nat) (x11c : Nat) (x12 : Int) (x13 : Int) (x18 : Int) : Prop := g.v 1 = (.int .i64 x1) ∧ g.v 2 = (.pointer (some x2)) ∧ g.v 3 = (.pointer (some x3)) ∧ g.v 4 = (.pointer (some x4)) ∧ g.v 8 = (.pointer (some x8)) ∧ g.v 11 = (.slice x11b x11n x11c) ∧ g.v 12 = (.int .i64 x12) ∧ g.v 13 = (.int .i64 x13) ∧ g.v 18 = (.int .u8 x18) ∧ g.ds = []
def D5 (K : T5) (g : Env) (h : H) : Prop := nilDs g.ds (vInt .i64 (g.v 1) fun i109 => vAddr (g.v 2) fun a110 => vAddr (g.v 3) fun a111 => vAddr (g.v 4) fun a112 => vAddr (g.v 8) fun a113 => vSlice (g.v 11) fun s114b s114n s114c => vInt .i64 (g.v 12) fun i115 => vInt .i64 (g.v 13) fun i116 => vInt .u8 (g.v 18) fun i117 => K i109 a110 a111 a112 a113 s114b s114n s114c i115 i116 i117 h)
theorem D5_ok {K : T5} {g : Env} {h : H} (hq : D5 K g h) : ∃ (x1 : Int) (x2 : Addr) (x3 : Addr) (x4 : Addr) (x8 : Addr) (x11b : Option Addr) (x11n : Nat) (x11c : Nat) (x12 : Int) (x13 : Int) (x18 : Int), E5 g x1 x2 x3 x4 x8 x11b x11n x11c x12 x13 x18 ∧ K x1 x2 x3 x4 x8 x11b x11n x11c x12 x13 x18 h := by
  obtain ⟨hd, hq⟩ := nilDs_ok hq
  obtain ⟨y119, e118, q120⟩ := vInt_ok hq
  obtain ⟨y122, e121, q123⟩ := vAddr_ok q120
  obtain ⟨y125, e124, q126⟩ := vAddr_ok q123
  obtain ⟨y128, e127, q129⟩ := vAddr_ok q126
  obtain ⟨y131, e130, q132⟩ := vAddr_ok q129
  obtain ⟨y134b, y134n, y134c, e133, q135⟩ := vSlice_ok q132
  obtain ⟨y137, e136, q138⟩ := vInt_ok q135
  obtain ⟨y140, e139, q141⟩ := vInt_ok q138
  obtain ⟨y143, e142, q144⟩ := vInt_ok q141
  exact ⟨y119, y122, y125, y128, y131, y134b, y134n, y134c, y137, y140, y143, ⟨e118, e121, e124, e127, e130, e133, e136, e139, e142, hd⟩, q144⟩
noncomputable def n11_c1 : Code := cFst n10_c2
def Q4 (Kn : T2) (Ke2 : T2) (Ke1 : T2) (Ke0 : T0) (Kr : T0) : XPost
  | .normal, g, h => D2 Kn g h
  | .ret, g, h => D0 Kr g h
  | .exit id, g, h => cond (Nat.beq id 2) (D2 Ke2 g h) (cond (Nat.beq id 1) (D2 Ke1 g h) (cond (Nat.beq id 0) (D0 Ke0 g h) (False)))
  | _, _, _ => False
noncomputable def n12_c1 : Code := cFst n11_c1
noncomputable def n12_c2 : Code := cSnd n11_c1
abbrev T6 := Int → Addr → Addr → Addr → Addr → (Option Addr) → Nat → Nat → Int → Int → Int → Bool → H → Prop
def E6 (g : Env) (x1 : Int) (x2 : Addr) (x3 : Addr) (x4 : Addr) (x8 : Addr) (x11b : Option Addr) (x11n : Nat) (x11c : Nat) (x12 : Int) (x13 : Int) (x18 : Int) (x19 : Bool) : Prop := g.v 1 = (.int .i64 x1) ∧ g.v 2 = (.pointer (some x2)) ∧ g.v 3 = (.pointer (some x3)) ∧ g.v 4 = (.pointer (some x4)) ∧ g.v 8 = (.pointer (some x8)) ∧ g.v 11 = (.slice x11b x11n x11c) ∧ g.v 12 = (.int .i64 x12) ∧ g.v 13 = (.int .i64 x13) ∧ g.v 18 = (.int .u8 x18) ∧ g.v 19 = (.bool x19) ∧ g.ds = []
def D6 (K : T6) (g : Env) (h : H) : Prop := nilDs g.ds (vInt .i64 (g.v 1) fun i145 => vAddr (g.v 2) fun a146 => vAddr (g.v 3) fun a147 => vAddr (g.v 4) fun a148 => vAddr (g.v 8) fun a149 => vSlice (g.v 11) fun s150b s150n s150c => vInt .i64 (g.v 12) fun i151 => vInt .i64 (g.v 13) fun i152 => vInt .u8 (g.v 18) fun i153 => vBool (g.v 19) fun b154 => K i145 a146 a147 a148 a149 s150b s150n s150c i151 i152 i153 b154 h)
theorem D6_ok {K : T6} {g : Env} {h : H} (hq : D6 K g h) : ∃ (x1 : Int) (x2 : Addr) (x3 : Addr) (x4 : Addr) (x8 : Addr) (x11b : Option Addr) (x11n : Nat) (x11c : Nat) (x12 : Int) (x13 : Int) (x18 : Int) (x19 : Bool), E6 g x1 x2 x3 x4 x8 x11b x11n x11c x12 x13 x18 x19 ∧ K x1 x2 x3 x4 x8 x11b x11n x11c x12 x13 x18 x19 h := by
  obtain ⟨hd, hq⟩ := nilDs_ok hq
  obtain ⟨y156, e155, q157⟩ := vInt_ok hq
  obtain ⟨y159, e158, q160⟩ := vAddr_ok q157
  obtain ⟨y162, e161, q163⟩ := vAddr_ok q160
  obtain ⟨y165, e164, q166⟩ := vAddr_ok q163
  obtain ⟨y168, e167, q169⟩ := vAddr_ok q166
  obtain ⟨y171b, y171n, y171c, e170, q172⟩ := vSlice_ok q169
  obtain ⟨y174, e173, q175⟩ := vInt_ok q172
  obtain ⟨y177, e176, q178⟩ := vInt_ok q175
  obtain ⟨y180, e179, q181⟩ := vInt_ok q178
  obtain ⟨y183, e182, q184⟩ := vBool_ok q181
  exact ⟨y156, y159, y162, y165, y168, y171b, y171n, y171c, y174, y177, y180, y183, ⟨e155, e158, e161, e164, e167, e170, e173, e176, e179, e182, hd⟩, q184⟩
noncomputable def n13_c1 : Code := cFst n12_c2
noncomputable def n13_c2 : Code := cSnd n12_c2
abbrev n14 (x1 : Int) (x2 : Addr) (x3 : Addr) (x4 : Addr) (x8 : Addr) (x11b : Option Addr) (x11n : Nat) (x11c : Nat) (x12 : Int) (x13 : Int) (Kn : T2) (Ke2 : T2) (Ke1 : T2) (Ke0 : T0) (Kr : T0) (h : H) : Prop :=
  ∃ v185, cell h x2 = some v185 ∧ ∃ s186, cell h (x8.add 4) = some (S s186) ∧ (((([34] : List UInt8).length + s186.length : Nat) : Int) ≤ 9223372036854775807 ∧ ((((([34] : List UInt8) ++ s186).length + ([34] : List UInt8).length : Nat) : Int) ≤ 9223372036854775807 ∧ (CallV Try.prog 0 v185 ⟨[(.int .i64 x1), (S ((([34] : List UInt8) ++ s186) ++ ([34] : List UInt8)))]⟩ h fun v187 h188 => Kn x1 x2 x3 x4 x11b x11n x11c x12 x13 h188)))
theorem n14_ok (x1 : Int) (x2 : Addr) (x3 : Addr) (x4 : Addr) (x8 : Addr) (x11b : Option Addr) (x11n : Nat) (x11c : Nat) (x12 : Int) (x13 : Int) (Kn : T2) (Ke2 : T2) (Ke1 : T2) (Ke0 : T0) (Kr : T0) (g : Env) (hg : E4 g x1 x2 x3 x4 x8 x11b x11n x11c x12 x13) (h : H) (hS : n14 x1 x2 x3 x4 x8 x11b x11n x11c x12 x13 Kn Ke2 Ke1 Ke0 Kr h) : wpC none Try.prog 77 n13_c1 (Q4 Kn Ke2 Ke1 Ke0 Kr) g h := by
  obtain ⟨hg1, hg2, hg3, hg4, hg8, hg11, hg12, hg13, hds⟩ := hg
  refine wpC_of_wpx (by kernel_rfl) (by kernel_rfl) (g' := ((((((((⟨g.v, []⟩ : Env).upd (some 1) (.int .i64 x1)).upd (some 2) (.pointer (some x2))).upd (some 3) (.pointer (some x3))).upd (some 4) (.pointer (some x4))).upd (some 8) (.pointer (some x8))).upd (some 11) (.slice x11b x11n x11c)).upd (some 12) (.int .i64 x12)).upd (some 13) (.int .i64 x13)) (by rw [env_ds hds, upd_self hg1, upd_self hg2, upd_self hg3, upd_self hg4, upd_self hg8, upd_self hg11, upd_self hg12, upd_self hg13]) ?_
  have e : (n14 x1 x2 x3 x4 x8 x11b x11n x11c x12 x13 Kn Ke2 Ke1 Ke0 Kr h) = wpx none Try.prog 77 n13_c1 (Q4 Kn Ke2 Ke1 Ke0 Kr) (((((((((⟨g.v, []⟩ : Env).upd (some 1) (.int .i64 x1)).upd (some 2) (.pointer (some x2))).upd (some 3) (.pointer (some x3))).upd (some 4) (.pointer (some x4))).upd (some 8) (.pointer (some x8))).upd (some 11) (.slice x11b x11n x11c)).upd (some 12) (.int .i64 x12)).upd (some 13) (.int .i64 x13)) h := by kernel_rfl
  exact e ▸ hS
noncomputable def n15_c1 : Code := cFst n13_c2
noncomputable def n15_c2 : Code := cSnd n13_c2
abbrev T7 := Int → Addr → Addr → Addr → Addr → (Option Addr) → Nat → Nat → Int → Int → Int → Bool → H → Prop
def E7 (g : Env) (x1 : Int) (x2 : Addr) (x3 : Addr) (x4 : Addr) (x8 : Addr) (x11b : Option Addr) (x11n : Nat) (x11c : Nat) (x12 : Int) (x13 : Int) (x18 : Int) (x28 : Bool) : Prop := g.v 1 = (.int .i64 x1) ∧ g.v 2 = (.pointer (some x2)) ∧ g.v 3 = (.pointer (some x3)) ∧ g.v 4 = (.pointer (some x4)) ∧ g.v 8 = (.pointer (some x8)) ∧ g.v 11 = (.slice x11b x11n x11c) ∧ g.v 12 = (.int .i64 x12) ∧ g.v 13 = (.int .i64 x13) ∧ g.v 18 = (.int .u8 x18) ∧ g.v 28 = (.bool x28) ∧ g.ds = []
def D7 (K : T7) (g : Env) (h : H) : Prop := nilDs g.ds (vInt .i64 (g.v 1) fun i189 => vAddr (g.v 2) fun a190 => vAddr (g.v 3) fun a191 => vAddr (g.v 4) fun a192 => vAddr (g.v 8) fun a193 => vSlice (g.v 11) fun s194b s194n s194c => vInt .i64 (g.v 12) fun i195 => vInt .i64 (g.v 13) fun i196 => vInt .u8 (g.v 18) fun i197 => vBool (g.v 28) fun b198 => K i189 a190 a191 a192 a193 s194b s194n s194c i195 i196 i197 b198 h)
theorem D7_ok {K : T7} {g : Env} {h : H} (hq : D7 K g h) : ∃ (x1 : Int) (x2 : Addr) (x3 : Addr) (x4 : Addr) (x8 : Addr) (x11b : Option Addr) (x11n : Nat) (x11c : Nat) (x12 : Int) (x13 : Int) (x18 : Int) (x28 : Bool), E7 g x1 x2 x3 x4 x8 x11b x11n x11c x12 x13 x18 x28 ∧ K x1 x2 x3 x4 x8 x11b x11n x11c x12 x13 x18 x28 h := by
  obtain ⟨hd, hq⟩ := nilDs_ok hq
  obtain ⟨y200, e199, q201⟩ := vInt_ok hq
  obtain ⟨y203, e202, q204⟩ := vAddr_ok q201
  obtain ⟨y206, e205, q207⟩ := vAddr_ok q204
  obtain ⟨y209, e208, q210⟩ := vAddr_ok q207
  obtain ⟨y212, e211, q213⟩ := vAddr_ok q210
  obtain ⟨y215b, y215n, y215c, e214, q216⟩ := vSlice_ok q213
  obtain ⟨y218, e217, q219⟩ := vInt_ok q216
  obtain ⟨y221, e220, q222⟩ := vInt_ok q219
  obtain ⟨y224, e223, q225⟩ := vInt_ok q222
  obtain ⟨y227, e226, q228⟩ := vBool_ok q225
  exact ⟨y200, y203, y206, y209, y212, y215b, y215n, y215c, y218, y221, y224, y227, ⟨e199, e202, e205, e208, e211, e214, e217, e220, e223, e226, hd⟩, q228⟩
noncomputable def n16_c1 : Code := cFst n15_c2
noncomputable def n16_c2 : Code := cSnd n15_c2
abbrev n17 (x1 : Int) (x2 : Addr) (x3 : Addr) (x4 : Addr) (x8 : Addr) (x11b : Option Addr) (x11n : Nat) (x11c : Nat) (x12 : Int) (x13 : Int) (Kn : T2) (Ke2 : T2) (Ke1 : T2) (Ke0 : T0) (Kr : T0) (h : H) : Prop :=
  ∃ v229, cell h x2 = some v229 ∧ ∃ s230, cell h (x8.add 4) = some (S s230) ∧ (((([60, 33, 45, 45, 32] : List UInt8).length + s230.length : Nat) : Int) ≤ 9223372036854775807 ∧ ((((([60, 33, 45, 45, 32] : List UInt8) ++ s230).length + ([32, 45, 45, 62] : List UInt8).length : Nat) : Int) ≤ 9223372036854775807 ∧ (CallV Try.prog 0 v229 ⟨[(.int .i64 x1), (S ((([60, 33, 45, 45, 32] : List UInt8) ++ s230) ++ ([32, 45, 45, 62] : List UInt8)))]⟩ h fun v231 h232 => Kn x1 x2 x3 x4 x11b x11n x11c x12 x13 h232)))
theorem n17_ok (x1 : Int) (x2 : Addr) (x3 : Addr) (x4 : Addr) (x8 : Addr) (x11b : Option Addr) (x11n : Nat) (x11c : Nat) (x12 : Int) (x13 : Int) (Kn : T2) (Ke2 : T2) (Ke1 : T2) (Ke0 : T0) (Kr : T0) (g : Env) (hg : E4 g x1 x2 x3 x4 x8 x11b x11n x11c x12 x13) (h : H) (hS : n17 x1 x2 x3 x4 x8 x11b x11n x11c x12 x13 Kn Ke2 Ke1 Ke0 Kr h) : wpC none Try.prog 77 n16_c1 (Q4 Kn Ke2 Ke1 Ke0 Kr) g h := by
  obtain ⟨hg1, hg2, hg3, hg4, hg8, hg11, hg12, hg13, hds⟩ := hg
  refine wpC_of_wpx (by kernel_rfl) (by kernel_rfl) (g' := ((((((((⟨g.v, []⟩ : Env).upd (some 1) (.int .i64 x1)).upd (some 2) (.pointer (some x2))).upd (some 3) (.pointer (some x3))).upd (some 4) (.pointer (some x4))).upd (some 8) (.pointer (some x8))).upd (some 11) (.slice x11b x11n x11c)).upd (some 12) (.int .i64 x12)).upd (some 13) (.int .i64 x13)) (by rw [env_ds hds, upd_self hg1, upd_self hg2, upd_self hg3, upd_self hg4, upd_self hg8, upd_self hg11, upd_self hg12, upd_self hg13]) ?_
  have e : (n17 x1 x2 x3 x4 x8 x11b x11n x11c x12 x13 Kn Ke2 Ke1 Ke0 Kr h) = wpx none Try.prog 77 n16_c1 (Q4 Kn Ke2 Ke1 Ke0 Kr) (((((((((⟨g.v, []⟩ : Env).upd (some 1) (.int .i64 x1)).upd (some 2) (.pointer (some x2))).upd (some 3) (.pointer (some x3))).upd (some 4) (.pointer (some x4))).upd (some 8) (.pointer (some x8))).upd (some 11) (.slice x11b x11n x11c)).upd (some 12) (.int .i64 x12)).upd (some 13) (.int .i64 x13)) h := by kernel_rfl
  exact e ▸ hS
noncomputable def n18_c1 : Code := cFst n16_c2
noncomputable def n18_c2 : Code := cSnd n16_c2
abbrev T8 := Int → Addr → Addr → Addr → Addr → (Option Addr) → Nat → Nat → Int → Int → Bool → H → Prop
def E8 (g : Env) (x1 : Int) (x2 : Addr) (x3 : Addr) (x4 : Addr) (x8 : Addr) (x11b : Option Addr) (x11n : Nat) (x11c : Nat) (x12 : Int) (x13 : Int) (x37 : Bool) : Prop := g.v 1 = (.int .i64 x1) ∧ g.v 2 = (.pointer (some x2)) ∧ g.v 3 = (.pointer (some x3)) ∧ g.v 4 = (.pointer (some x4)) ∧ g.v 8 = (.pointer (some x8)) ∧ g.v 11 = (.slice x11b x11n x11c) ∧ g.v 12 = (.int .i64 x12) ∧ g.v 13 = (.int .i64 x13) ∧ g.v 37 = (.bool x37) ∧ g.ds = []
def D8 (K : T8) (g : Env) (h : H) : Prop := nilDs g.ds (vInt .i64 (g.v 1) fun i233 => vAddr (g.v 2) fun a234 => vAddr (g.v 3) fun a235 => vAddr (g.v 4) fun a236 => vAddr (g.v 8) fun a237 => vSlice (g.v 11) fun s238b s238n s238c => vInt .i64 (g.v 12) fun i239 => vInt .i64 (g.v 13) fun i240 => vBool (g.v 37) fun b241 => K i233 a234 a235 a236 a237 s238b s238n s238c i239 i240 b241 h)
theorem D8_ok {K : T8} {g : Env} {h : H} (hq : D8 K g h) : ∃ (x1 : Int) (x2 : Addr) (x3 : Addr) (x4 : Addr) (x8 : Addr) (x11b : Option Addr) (x11n : Nat) (x11c : Nat) (x12 : Int) (x13 : Int) (x37 : Bool), E8 g x1 x2 x3 x4 x8 x11b x11n x11c x12 x13 x37 ∧ K x1 x2 x3 x4 x8 x11b x11n x11c x12 x13 x37 h := by
  obtain ⟨hd, hq⟩ := nilDs_ok hq
  obtain ⟨y243, e242, q244⟩ := vInt_ok hq
  obtain ⟨y246, e245, q247⟩ := vAddr_ok q244
  obtain ⟨y249, e248, q250⟩ := vAddr_ok q247
  obtain ⟨y252, e251, q253⟩ := vAddr_ok q250
  obtain ⟨y255, e254, q256⟩ := vAddr_ok q253
  obtain ⟨y258b, y258n, y258c, e257, q259⟩ := vSlice_ok q256
  obtain ⟨y261, e260, q262⟩ := vInt_ok q259
  obtain ⟨y264, e263, q265⟩ := vInt_ok q262
  obtain ⟨y267, e266, q268⟩ := vBool_ok q265
  exact ⟨y243, y246, y249, y252, y255, y258b, y258n, y258c, y261, y264, y267, ⟨e242, e245, e248, e251, e254, e257, e260, e263, e266, hd⟩, q268⟩
noncomputable def n19_c1 : Code := cFst n18_c2
noncomputable def n19_c2 : Code := cSnd n18_c2
noncomputable def n20_c1 : Code := cFst n19_c1
noncomputable def n20_c2 : Code := cSnd n19_c1
noncomputable def n21_c1 : Code := cFst n20_c2
noncomputable def n21_c2 : Code := cSnd n20_c2
abbrev n22 (x1 : Int) (x2 : Addr) (x3 : Addr) (x4 : Addr) (x8 : Addr) (x11b : Option Addr) (x11n : Nat) (x11c : Nat) (x12 : Int) (x13 : Int) (Kn : T2) (Ke2 : T2) (Ke1 : T2) (Ke0 : T0) (Kr : T0) (h : H) : Prop :=
  ∃ v269, cell h x4 = some v269 ∧ ∃ s270b s270n s270c, cell h (x8.add 5) = some (.slice s270b s270n s270c) ∧ (Rng .i64 (x1 + (1 : Int)) ∧ (CallV Try.prog 0 v269 ⟨[(.slice s270b s270n s270c), (.int .i64 (x1 + (1 : Int)))]⟩ h fun v271 h272 => Kn x1 x2 x3 x4 x11b x11n x11c x12 x13 h272))
theorem n22_ok (x1 : Int) (x2 : Addr) (x3 : Addr) (x4 : Addr) (x8 : Addr) (x11b : Option Addr) (x11n : Nat) (x11c : Nat) (x12 : Int) (x13 : Int) (Kn : T2) (Ke2 : T2) (Ke1 : T2) (Ke0 : T0) (Kr : T0) (g : Env) (hg : E4 g x1 x2 x3 x4 x8 x11b x11n x11c x12 x13) (h : H) (hS : n22 x1 x2 x3 x4 x8 x11b x11n x11c x12 x13 Kn Ke2 Ke1 Ke0 Kr h) : wpC none Try.prog 77 n21_c2 (Q4 Kn Ke2 Ke1 Ke0 Kr) g h := by
  obtain ⟨hg1, hg2, hg3, hg4, hg8, hg11, hg12, hg13, hds⟩ := hg
  refine wpC_of_wpx (by kernel_rfl) (by kernel_rfl) (g' := ((((((((⟨g.v, []⟩ : Env).upd (some 1) (.int .i64 x1)).upd (some 2) (.pointer (some x2))).upd (some 3) (.pointer (some x3))).upd (some 4) (.pointer (some x4))).upd (some 8) (.pointer (some x8))).upd (some 11) (.slice x11b x11n x11c)).upd (some 12) (.int .i64 x12)).upd (some 13) (.int .i64 x13)) (by rw [env_ds hds, upd_self hg1, upd_self hg2, upd_self hg3, upd_self hg4, upd_self hg8, upd_self hg11, upd_self hg12, upd_self hg13]) ?_
  have e : (n22 x1 x2 x3 x4 x8 x11b x11n x11c x12 x13 Kn Ke2 Ke1 Ke0 Kr h) = wpx none Try.prog 77 n21_c2 (Q4 Kn Ke2 Ke1 Ke0 Kr) (((((((((⟨g.v, []⟩ : Env).upd (some 1) (.int .i64 x1)).upd (some 2) (.pointer (some x2))).upd (some 3) (.pointer (some x3))).upd (some 4) (.pointer (some x4))).upd (some 8) (.pointer (some x8))).upd (some 11) (.slice x11b x11n x11c)).upd (some 12) (.int .i64 x12)).upd (some 13) (.int .i64 x13)) h := by kernel_rfl
  exact e ▸ hS
def Q5 (Kn : T4) (Ke2 : T2) (Ke1 : T2) (Ke0 : T0) (Kr : T0) : XPost
  | .normal, g, h => D4 Kn g h
  | .ret, g, h => D0 Kr g h
  | .exit id, g, h => cond (Nat.beq id 2) (D2 Ke2 g h) (cond (Nat.beq id 1) (D2 Ke1 g h) (cond (Nat.beq id 0) (D0 Ke0 g h) (False)))
  | _, _, _ => False
noncomputable def n23_c1 : Code := cFst n21_c1
noncomputable def n23_c2 : Code := cSnd n21_c1
abbrev T9 := Int → Addr → Addr → Addr → Addr → (Option Addr) → Nat → Nat → Int → Int → (Option Addr) → Nat → Nat → Int → Int → H → Prop
def E9 (g : Env) (x1 : Int) (x2 : Addr) (x3 : Addr) (x4 : Addr) (x8 : Addr) (x11b : Option Addr) (x11n : Nat) (x11c : Nat) (x12 : Int) (x13 : Int) (x52b : Option Addr) (x52n : Nat) (x52c : Nat) (x53 : Int) (x54 : Int) : Prop := g.v 1 = (.int .i64 x1) ∧ g.v 2 = (.pointer (some x2)) ∧ g.v 3 = (.pointer (some x3)) ∧ g.v 4 = (.pointer (some x4)) ∧ g.v 8 = (.pointer (some x8)) ∧ g.v 11 = (.slice x11b x11n x11c) ∧ g.v 12 = (.int .i64 x12) ∧ g.v 13 = (.int .i64 x13) ∧ g.v 52 = (.slice x52b x52n x52c) ∧ g.v 53 = (.int .i64 x53) ∧ g.v 54 = (.int .i64 x54) ∧ g.ds = []
def D9 (K : T9) (g : Env) (h : H) : Prop := nilDs g.ds (vInt .i64 (g.v 1) fun i273 => vAddr (g.v 2) fun a274 => vAddr (g.v 3) fun a275 => vAddr (g.v 4) fun a276 => vAddr (g.v 8) fun a277 => vSlice (g.v 11) fun s278b s278n s278c => vInt .i64 (g.v 12) fun i279 => vInt .i64 (g.v 13) fun i280 => vSlice (g.v 52) fun s281b s281n s281c => vInt .i64 (g.v 53) fun i282 => vInt .i64 (g.v 54) fun i283 => K i273 a274 a275 a276 a277 s278b s278n s278c i279 i280 s281b s281n s281c i282 i283 h)
theorem D9_ok {K : T9} {g : Env} {h : H} (hq : D9 K g h) : ∃ (x1 : Int) (x2 : Addr) (x3 : Addr) (x4 : Addr) (x8 : Addr) (x11b : Option Addr) (x11n : Nat) (x11c : Nat) (x12 : Int) (x13 : Int) (x52b : Option Addr) (x52n : Nat) (x52c : Nat) (x53 : Int) (x54 : Int), E9 g x1 x2 x3 x4 x8 x11b x11n x11c x12 x13 x52b x52n x52c x53 x54 ∧ K x1 x2 x3 x4 x8 x11b x11n x11c x12 x13 x52b x52n x52c x53 x54 h := by
  obtain ⟨hd, hq⟩ := nilDs_ok hq
  obtain ⟨y285, e284, q286⟩ := vInt_ok hq
  obtain ⟨y288, e287, q289⟩ := vAddr_ok q286
  obtain ⟨y291, e290, q292⟩ := vAddr_ok q289
  obtain ⟨y294, e293, q295⟩ := vAddr_ok q292
  obtain ⟨y297, e296, q298⟩ := vAddr_ok q295
  obtain ⟨y300b, y300n, y300c, e299, q301⟩ := vSlice_ok q298
  obtain ⟨y303, e302, q304⟩ := vInt_ok q301
  obtain ⟨y306, e305, q307⟩ := vInt_ok q304
  obtain ⟨y309b, y309n, y309c, e308, q310⟩ := vSlice_ok q307
  obtain ⟨y312, e311, q313⟩ := vInt_ok q310
  obtain ⟨y315, e314, q316⟩ := vInt_ok q313
  exact ⟨y285, y288, y291, y294, y297, y300b, y300n, y300c, y303, y306, y309b, y309n, y309c, y312, y315, ⟨e284, e287, e290, e293, e296, e299, e302, e305, e308, e311, e314, hd⟩, q316⟩
noncomputable def n24_c1 : Code := cFst n23_c2
def Q6 (Kn : T4) (Ke3 : T4) (Ke2 : T2) (Ke1 : T2) (Ke0 : T0) (Kr : T0) : XPost
  | .normal, g, h => D4 Kn g h
  | .ret, g, h => D0 Kr g h
  | .exit id, g, h => cond (Nat.beq id 3) (D4 Ke3 g h) (cond (Nat.beq id 2) (D2 Ke2 g h) (cond (Nat.beq id 1) (D2 Ke1 g h) (cond (Nat.beq id 0) (D0 Ke0 g h) (False))))
  | _, _, _ => False
noncomputable def n25_c1 : Code := cFst n24_c1
def Q7 (Kn : T9) (Ke3 : T4) (Ke2 : T2) (Ke1 : T2) (Ke0 : T0) (Kr : T0) : XPost
  | .normal, g, h => D9 Kn g h
  | .ret, g, h => D0 Kr g h
  | .exit id, g, h => cond (Nat.beq id 3) (D4 Ke3 g h) (cond (Nat.beq id 2) (D2 Ke2 g h) (cond (Nat.beq id 1) (D2 Ke1 g h) (cond (Nat.beq id 0) (D0 Ke0 g h) (False))))
  | _, _, _ => False
def n25_L (Kn : T4) (Ke3 : T4) (Ke2 : T2) (Ke1 : T2) (Ke0 : T0) (Kr : T0) : Nat → Int → Addr → Addr → Addr → Addr → (Option Addr) → Nat → Nat → Int → Int → (Option Addr) → Nat → Nat → Int → Int → H → Prop
  | 0 => fun _ _ _ _ _ _ _ _ _ _ _ _ _ _ _ _ => False
  | N + 1 => fun x1 x2 x3 x4 x8 x11b x11n x11c x12 x13 x52b x52n x52c x53 x54 h => Spl (x54 < x53) ((0 ≤ x54 ∧ x54 < (x52n : Int)) ∧ (vSome x52b fun a317 => ∃ s318, cell h (((a317.add (Int.toNat x54 * 2))).add 0) = some (S s318) ∧ (∃ s319, cell h (((a317.add (Int.toNat x54 * 2))).add 1) = some (S s319) ∧ (newx h ⟨[(S ([] : List UInt8)), (S ([] : List UInt8))]⟩ 59 fun a320 h321 => stL a320 [(S s318), (S s319)] 0 h321 fun h322 => ∃ v323, cell h322 x2 = some v323 ∧ Rng .i64 (x1 + (1 : Int)) ∧ (∃ s324, cell h322 (a320.add 0) = some (S s324) ∧ (((s324.length + ([61, 34] : List UInt8).length : Nat) : Int) ≤ 9223372036854775807 ∧ (∃ s325, cell h322 (a320.add 1) = some (S s325) ∧ ((((s324 ++ ([61, 34] : List UInt8)).length + s325.length : Nat) : Int) ≤ 9223372036854775807 ∧ (((((s324 ++ ([61, 34] : List UInt8)) ++ s325).length + ([34] : List UInt8).length : Nat) : Int) ≤ 9223372036854775807 ∧ (CallV Try.prog 0 v323 ⟨[(.int .i64 (x1 + (1 : Int))), (S (((s324 ++ ([61, 34] : List UInt8)) ++ s325) ++ ([34] : List UInt8)))]⟩ h322 fun v326 h327 => Rng .i64 (x54 + (1 : Int)) ∧ (n25_L Kn Ke3 Ke2 Ke1 Ke0 Kr N x1 x2 x3 x4 x8 x11b x11n x11c x12 x13 x52b x52n x52c x53 (x54 + (1 : Int)) h327))))))))))) (Ke3 x1 x2 x3 x4 x8 x11b x11n x11c x12 x13 h)
abbrev n25 (x1 : Int) (x2 : Addr) (x3 : Addr) (x4 : Addr) (x8 : Addr) (x11b : Option Addr) (x11n : Nat) (x11c : Nat) (x12 : Int) (x13 : Int) (x52b : Option Addr) (x52n : Nat) (x52c : Nat) (x53 : Int) (x54 : Int) (Kn : T4) (Ke3 : T4) (Ke2 : T2) (Ke1 : T2) (Ke0 : T0) (Kr : T0) (h : H) : Prop := ∃ N, n25_L Kn Ke3 Ke2 Ke1 Ke0 Kr N x1 x2 x3 x4 x8 x11b x11n x11c x12 x13 x52b x52n x52c x53 x54 h
theorem n25_ok (x1 : Int) (x2 : Addr) (x3 : Addr) (x4 : Addr) (x8 : Addr) (x11b : Option Addr) (x11n : Nat) (x11c : Nat) (x12 : Int) (x13 : Int) (x52b : Option Addr) (x52n : Nat) (x52c : Nat) (x53 : Int) (x54 : Int) (Kn : T4) (Ke3 : T4) (Ke2 : T2) (Ke1 : T2) (Ke0 : T0) (Kr : T0) (g : Env) (hg : E9 g x1 x2 x3 x4 x8 x11b x11n x11c x12 x13 x52b x52n x52c x53 x54) (h : H) (hS : n25 x1 x2 x3 x4 x8 x11b x11n x11c x12 x13 x52b x52n x52c x53 x54 Kn Ke3 Ke2 Ke1 Ke0 Kr h) : wpC none Try.prog 77 n24_c1 (Q6 Kn Ke3 Ke2 Ke1 Ke0 Kr) g h := by
  obtain ⟨N0, hS⟩ := hS
  refine wpC_loop' (x := n25_c1) (by kernel_rfl) (fun k g h => ∃ (x1 : Int) (x2 : Addr) (x3 : Addr) (x4 : Addr) (x8 : Addr) (x11b : Option Addr) (x11n : Nat) (x11c : Nat) (x12 : Int) (x13 : Int) (x52b : Option Addr) (x52n : Nat) (x52c : Nat) (x53 : Int) (x54 : Int), E9 g x1 x2 x3 x4 x8 x11b x11n x11c x12 x13 x52b x52n x52c x53 x54 ∧ n25_L Kn Ke3 Ke2 Ke1 Ke0 Kr k x1 x2 x3 x4 x8 x11b x11n x11c x12 x13 x52b x52n x52c x53 x54 h) (fun g h hr => ?_) (fun N g h hr => ?_) N0 ⟨x1, x2, x3, x4, x8, x11b, x11n, x11c, x12, x13, x52b, x52n, x52c, x53, x54, hg, hS⟩
  · obtain ⟨x1, x2, x3, x4, x8, x11b, x11n, x11c, x12, x13, x52b, x52n, x52c, x53, x54, hg, hS⟩ := hr
    exact hS.elim
  · obtain ⟨x1, x2, x3, x4, x8, x11b, x11n, x11c, x12, x13, x52b, x52n, x52c, x53, x54, hg, hS⟩ := hr
    have hw : wpC none Try.prog 77 n25_c1 (Q7 (fun z1 z2 z3 z4 z8 z11b z11n z11c z12 z13 z52b z52n z52c z53 z54 h => n25_L Kn Ke3 Ke2 Ke1 Ke0 Kr N z1 z2 z3 z4 z8 z11b z11n z11c z12 z13 z52b z52n z52c z53 z54 h) Ke3 Ke2 Ke1 Ke0 Kr) g h := by
      obtain ⟨hg1, hg2, hg3, hg4, hg8, hg11, hg12, hg13, hg52, hg53, hg54, hds⟩ := hg
      refine wpC_of_wpx (by kernel_rfl) (by kernel_rfl) (g' := (((((((((((⟨g.v, []⟩ : Env).upd (some 1) (.int .i64 x1)).upd (some 2) (.pointer (some x2))).upd (some 3) (.pointer (some x3))).upd (some 4) (.pointer (some x4))).upd (some 8) (.pointer (some x8))).upd (some 11) (.slice x11b x11n x11c)).upd (some 12) (.int .i64 x12)).upd (some 13) (.int .i64 x13)).upd (some 52) (.slice x52b x52n x52c)).upd (some 53) (.int .i64 x53)).upd (some 54) (.int .i64 x54)) (by rw [env_ds hds, upd_self hg1, upd_self hg2, upd_self hg3, upd_self hg4, upd_self hg8, upd_self hg11, upd_self hg12, upd_self hg13, upd_self hg52, upd_self hg53, upd_self hg54]) ?_
      have e : (n25_L Kn Ke3 Ke2 Ke1 Ke0 Kr (N + 1) x1 x2 x3 x4 x8 x11b x11n x11c x12 x13 x52b x52n x52c x53 x54 h) = wpx none Try.prog 77 n25_c1 (Q7 (fun z1 z2 z3 z4 z8 z11b z11n z11c z12 z13 z52b z52n z52c z53 z54 h => n25_L Kn Ke3 Ke2 Ke1 Ke0 Kr N z1 z2 z3 z4 z8 z11b z11n z11c z12 z13 z52b z52n z52c z53 z54 h) Ke3 Ke2 Ke1 Ke0 Kr) ((((((((((((⟨g.v, []⟩ : Env).upd (some 1) (.int .i64 x1)).upd (some 2) (.pointer (some x2))).upd (some 3) (.pointer (some x3))).upd (some 4) (.pointer (some x4))).upd (some 8) (.pointer (some x8))).upd (some 11) (.slice x11b x11n x11c)).upd (some 12) (.int .i64 x12)).upd (some 13) (.int .i64 x13)).upd (some 52) (.slice x52b x52n x52c)).upd (some 53) (.int .i64 x53)).upd (some 54) (.int .i64 x54)) h := by kernel_rfl
      exact e ▸ hS
    refine hw.mono ?_
    intro e g' h' hq
    cases e with
    | normal => exact D9_ok (K := (fun z1 z2 z3 z4 z8 z11b z11n z11c z12 z13 z52b z52n z52c z53 z54 h => n25_L Kn Ke3 Ke2 Ke1 Ke0 Kr N z1 z2 z3 z4 z8 z11b z11n z11c z12 z13 z52b z52n z52c z53 z54 h)) hq
    | _ => exact hq
abbrev n24 (x1 : Int) (x2 : Addr) (x3 : Addr) (x4 : Addr) (x8 : Addr) (x11b : Option Addr) (x11n : Nat) (x11c : Nat) (x12 : Int) (x13 : Int) (x52b : Option Addr) (x52n : Nat) (x52c : Nat) (x53 : Int) (x54 : Int) (Kn : T4) (Ke2 : T2) (Ke1 : T2) (Ke0 : T0) (Kr : T0) (h : H) : Prop := n25 x1 x2 x3 x4 x8 x11b x11n x11c x12 x13 x52b x52n x52c x53 x54 Kn Kn Ke2 Ke1 Ke0 Kr h
theorem n24_ok (x1 : Int) (x2 : Addr) (x3 : Addr) (x4 : Addr) (x8 : Addr) (x11b : Option Addr) (x11n : Nat) (x11c : Nat) (x12 : Int) (x13 : Int) (x52b : Option Addr) (x52n : Nat) (x52c : Nat) (x53 : Int) (x54 : Int) (Kn : T4) (Ke2 : T2) (Ke1 : T2) (Ke0 : T0) (Kr : T0) (g : Env) (hg : E9 g x1 x2 x3 x4 x8 x11b x11n x11c x12 x13 x52b x52n x52c x53 x54) (h : H) (hS : n24 x1 x2 x3 x4 x8 x11b x11n x11c x12 x13 x52b x52n x52c x53 x54 Kn Ke2 Ke1 Ke0 Kr h) : wpC none Try.prog 77 n23_c2 (Q5 Kn Ke2 Ke1 Ke0 Kr) g h := by
  refine wpC_block' (id := 3) (x := n24_c1) (by kernel_rfl) (n25_ok x1 x2 x3 x4 x8 x11b x11n x11c x12 x13 x52b x52n x52c x53 x54 Kn Kn Ke2 Ke1 Ke0 Kr g hg h hS) ?_
  intro e g' h' hq
  cases e <;> exact hq
def Q8 (Kn : T9) (Ke2 : T2) (Ke1 : T2) (Ke0 : T0) (Kr : T0) : XPost
  | .normal, g, h => D9 Kn g h
  | .ret, g, h => D0 Kr g h
  | .exit id, g, h => cond (Nat.beq id 2) (D2 Ke2 g h) (cond (Nat.beq id 1) (D2 Ke1 g h) (cond (Nat.beq id 0) (D0 Ke0 g h) (False)))
  | _, _, _ => False
abbrev n23 (x1 : Int) (x2 : Addr) (x3 : Addr) (x4 : Addr) (x8 : Addr) (x11b : Option Addr) (x11n : Nat) (x11c : Nat) (x12 : Int) (x13 : Int) (Kn : T4) (Ke2 : T2) (Ke1 : T2) (Ke0 : T0) (Kr : T0) (h : H) : Prop :=
  ∃ s328b s328n s328c, cell h (x8.add 3) = some (.slice s328b s328n s328c) ∧ (n24 x1 x2 x3 x4 x8 x11b x11n x11c x12 x13 s328b s328n s328c (s328n : Int) (0 : Int) Kn Ke2 Ke1 Ke0 Kr h)
theorem n23_ok (x1 : Int) (x2 : Addr) (x3 : Addr) (x4 : Addr) (x8 : Addr) (x11b : Option Addr) (x11n : Nat) (x11c : Nat) (x12 : Int) (x13 : Int) (Kn : T4) (Ke2 : T2) (Ke1 : T2) (Ke0 : T0) (Kr : T0) (g : Env) (hg : E4 g x1 x2 x3 x4 x8 x11b x11n x11c x12 x13) (h : H) (hS : n23 x1 x2 x3 x4 x8 x11b x11n x11c x12 x13 Kn Ke2 Ke1 Ke0 Kr h) : wpC none Try.prog 77 n21_c1 (Q5 Kn Ke2 Ke1 Ke0 Kr) g h := by
  obtain ⟨hg1, hg2, hg3, hg4, hg8, hg11, hg12, hg13, hds⟩ := hg
  refine wpC_seq' (x := n23_c1) (y := n23_c2) (Q' := (Q8 (fun z1 z2 z3 z4 z8 z11b z11n z11c z12 z13 z52b z52n z52c z53 z54 h => n24 z1 z2 z3 z4 z8 z11b z11n z11c z12 z13 z52b z52n z52c z53 z54 Kn Ke2 Ke1 Ke0 Kr h) Ke2 Ke1 Ke0 Kr)) (by kernel_rfl) ?_ ?_
  · refine wpC_of_wpx (by kernel_rfl) (by kernel_rfl) (g' := ((((((((⟨g.v, []⟩ : Env).upd (some 1) (.int .i64 x1)).upd (some 2) (.pointer (some x2))).upd (some 3) (.pointer (some x3))).upd (some 4) (.pointer (some x4))).upd (some 8) (.pointer (some x8))).upd (some 11) (.slice x11b x11n x11c)).upd (some 12) (.int .i64 x12)).upd (some 13) (.int .i64 x13)) (by rw [env_ds hds, upd_self hg1, upd_self hg2, upd_self hg3, upd_self hg4, upd_self hg8, upd_self hg11, upd_self hg12, upd_self hg13]) ?_
    have e : (n23 x1 x2 x3 x4 x8 x11b x11n x11c x12 x13 Kn Ke2 Ke1 Ke0 Kr h) = wpx none Try.prog 77 n23_c1 (Q8 (fun z1 z2 z3 z4 z8 z11b z11n z11c z12 z13 z52b z52n z52c z53 z54 h => n24 z1 z2 z3 z4 z8 z11b z11n z11c z12 z13 z52b z52n z52c z53 z54 Kn Ke2 Ke1 Ke0 Kr h) Ke2 Ke1 Ke0 Kr) (((((((((⟨g.v, []⟩ : Env).upd (some 1) (.int .i64 x1)).upd (some 2) (.pointer (some x2))).upd (some 3) (.pointer (some x3))).upd (some 4) (.pointer (some x4))).upd (some 8) (.pointer (some x8))).upd (some 11) (.slice x11b x11n x11c)).upd (some 12) (.int .i64 x12)).upd (some 13) (.int .i64 x13)) h := by kernel_rfl
    exact e ▸ hS
  · intro e g' h' hq
    cases e with
    | normal =>
      have hq : D9 (fun z1 z2 z3 z4 z8 z11b z11n z11c z12 z13 z52b z52n z52c z53 z54 h => n24 z1 z2 z3 z4 z8 z11b z11n z11c z12 z13 z52b z52n z52c z53 z54 Kn Ke2 Ke1 Ke0 Kr h) g' h' := hq
      obtain ⟨y1, y2, y3, y4, y8, y11b, y11n, y11c, y12, y13, y52b, y52n, y52c, y53, y54, hg', hq⟩ := D9_ok hq
      exact n24_ok y1 y2 y3 y4 y8 y11b y11n y11c y12 y13 y52b y52n y52c y53 y54 Kn Ke2 Ke1 Ke0 Kr g' hg' h' hq
    | _ => exact hq
abbrev n21 (x1 : Int) (x2 : Addr) (x3 : Addr) (x4 : Addr) (x8 : Addr) (x11b : Option Addr) (x11n : Nat) (x11c : Nat) (x12 : Int) (x13 : Int) (Kn : T2) (Ke2 : T2) (Ke1 : T2) (Ke0 : T0) (Kr : T0) (h : H) : Prop := n23 x1 x2 x3 x4 x8 x11b x11n x11c x12 x13 (fun z1 z2 z3 z4 z8 z11b z11n z11c z12 z13 h => n22 z1 z2 z3 z4 z8 z11b z11n z11c z12 z13 Kn Ke2 Ke1 Ke0 Kr h) Ke2 Ke1 Ke0 Kr h
theorem n21_ok (x1 : Int) (x2 : Addr) (x3 : Addr) (x4 : Addr) (x8 : Addr) (x11b : Option Addr) (x11n : Nat) (x11c : Nat) (x12 : Int) (x13 : Int) (Kn : T2) (Ke2 : T2) (Ke1 : T2) (Ke0 : T0) (Kr : T0) (g : Env) (hg : E4 g x1 x2 x3 x4 x8 x11b x11n x11c x12 x13) (h : H) (hS : n21 x1 x2 x3 x4 x8 x11b x11n x11c x12 x13 Kn Ke2 Ke1 Ke0 Kr h) : wpC none Try.prog 77 n20_c2 (Q4 Kn Ke2 Ke1 Ke0 Kr) g h := by
  refine wpC_seq' (x := n21_c1) (y := n21_c2) (by kernel_rfl) (n23_ok x1 x2 x3 x4 x8 x11b x11n x11c x12 x13 (fun z1 z2 z3 z4 z8 z11b z11n z11c z12 z13 h => n22 z1 z2 z3 z4 z8 z11b z11n z11c z12 z13 Kn Ke2 Ke1 Ke0 Kr h) Ke2 Ke1 Ke0 Kr g hg h hS) ?_
  intro e g' h' hq
  cases e with
  | normal =>
    have hq : D4 (fun z1 z2 z3 z4 z8 z11b z11n z11c z12 z13 h => n22 z1 z2 z3 z4 z8 z11b z11n z11c z12 z13 Kn Ke2 Ke1 Ke0 Kr h) g' h' := hq
    obtain ⟨y1, y2, y3, y4, y8, y11b, y11n, y11c, y12, y13, hg', hq⟩ := D4_ok hq
    exact n22_ok y1 y2 y3 y4 y8 y11b y11n y11c y12 y13 Kn Ke2 Ke1 Ke0 Kr g' hg' h' hq
  | _ => exact hq
abbrev n20 (x1 : Int) (x2 : Addr) (x3 : Addr) (x4 : Addr) (x8 : Addr) (x11b : Option Addr) (x11n : Nat) (x11c : Nat) (x12 : Int) (x13 : Int) (Kn : T2) (Ke2 : T2) (Ke1 : T2) (Ke0 : T0) (Kr : T0) (h : H) : Prop :=
  ∃ v329, cell h x2 = some v329 ∧ ∃ m330, cell h x3 = some (.map m330) ∧ (∃ i331, cell h (x8.add 1) = some (.int .u8 i331) ∧ (SemH Try.prog (Instr.lookup 85 (.map m330) (.int .u8 i331) false) h fun v332 h333 => vStr v332 fun s334 => ((([60] : List UInt8).length + s334.length : Nat) : Int) ≤ 9223372036854775807 ∧ (∃ s335, cell h333 (x8.add 2) = some (S s335) ∧ ((((([60] : List UInt8) ++ s334).length + s335.length : Nat) : Int) ≤ 9223372036854775807 ∧ (((((([60] : List UInt8) ++ s334) ++ s335).length + ([62] : List UInt8).length : Nat) : Int) ≤ 9223372036854775807 ∧ (CallV Try.prog 0 v329 ⟨[(.int .i64 x1), (S (((([60] : List UInt8) ++ s334) ++ s335) ++ ([62] : List UInt8)))]⟩ h333 fun v336 h337 => n21 x1 x2 x3 x4 x8 x11b x11n x11c x12 x13 Kn Ke2 Ke1 Ke0 Kr h337))))))
theorem n20_ok (x1 : Int) (x2 : Addr) (x3 : Addr) (x4 : Addr) (x8 : Addr) (x11b : Option Addr) (x11n : Nat) (x11c : Nat) (x12 : Int) (x13 : Int) (Kn : T2) (Ke2 : T2) (Ke1 : T2) (Ke0 : T0) (Kr : T0) (g : Env) (hg : E4 g x1 x2 x3 x4 x8 x11b x11n x11c x12 x13) (h : H) (hS : n20 x1 x2 x3 x4 x8 x11b x11n x11c x12 x13 Kn Ke2 Ke1 Ke0 Kr h) : wpC none Try.prog 77 n19_c1 (Q4 Kn Ke2 Ke1 Ke0 Kr) g h := by
  obtain ⟨hg1, hg2, hg3, hg4, hg8, hg11, hg12, hg13, hds⟩ := hg
  refine wpC_seq' (x := n20_c1) (y := n20_c2) (Q' := (Q5 (fun z1 z2 z3 z4 z8 z11b z11n z11c z12 z13 h => n21 z1 z2 z3 z4 z8 z11b z11n z11c z12 z13 Kn Ke2 Ke1 Ke0 Kr h) Ke2 Ke1 Ke0 Kr)) (by kernel_rfl) ?_ ?_
  · refine wpC_of_wpx (by kernel_rfl) (by kernel_rfl) (g' := ((((((((⟨g.v, []⟩ : Env).upd (some 1) (.int .i64 x1)).upd (some 2) (.pointer (some x2))).upd (some 3) (.pointer (some x3))).upd (some 4) (.pointer (some x4))).upd (some 8) (.pointer (some x8))).upd (some 11) (.slice x11b x11n x11c)).upd (some 12) (.int .i64 x12)).upd (some 13) (.int .i64 x13)) (by rw [env_ds hds, upd_self hg1, upd_self hg2, upd_self hg3, upd_self hg4, upd_self hg8, upd_self hg11, upd_self hg12, upd_self hg13]) ?_
    have e : (n20 x1 x2 x3 x4 x8 x11b x11n x11c x12 x13 Kn Ke2 Ke1 Ke0 Kr h) = wpx none Try.prog 77 n20_c1 (Q5 (fun z1 z2 z3 z4 z8 z11b z11n z11c z12 z13 h => n21 z1 z2 z3 z4 z8 z11b z11n z11c z12 z13 Kn Ke2 Ke1 Ke0 Kr h) Ke2 Ke1 Ke0 Kr) (((((((((⟨g.v, []⟩ : Env).upd (some 1) (.int .i64 x1)).upd (some 2) (.pointer (some x2))).upd (some 3) (.pointer (some x3))).upd (some 4) (.pointer (some x4))).upd (some 8) (.pointer (some x8))).upd (some 11) (.slice x11b x11n x11c)).upd (some 12) (.int .i64 x12)).upd (some 13) (.int .i64 x13)) h := by kernel_rfl
    exact e ▸ hS
  · intro e g' h' hq
    cases e with
    | normal =>
      have hq : D4 (fun z1 z2 z3 z4 z8 z11b z11n z11c z12 z13 h => n21 z1 z2 z3 z4 z8 z11b z11n z11c z12 z13 Kn Ke2 Ke1 Ke0 Kr h) g' h' := hq
      obtain ⟨y1, y2, y3, y4, y8, y11b, y11n, y11c, y12, y13, hg', hq⟩ := D4_ok hq
      exact n21_ok y1 y2 y3 y4 y8 y11b y11n y11c y12 y13 Kn Ke2 Ke1 Ke0 Kr g' hg' h' hq
    | _ => exact hq
abbrev n26 (x1 : Int) (x2 : Addr) (x3 : Addr) (x4 : Addr) (x11b : Option Addr) (x11n : Nat) (x11c : Nat) (x12 : Int) (x13 : Int) (Kn : T2) (Ke2 : T2) (Ke1 : T2) (Ke0 : T0) (Kr : T0) (h : H) : Prop :=
  Kn x1 x2 x3 x4 x11b x11n x11c x12 x13 h
theorem n26_ok (x1 : Int) (x2 : Addr) (x3 : Addr) (x4 : Addr) (x11b : Option Addr) (x11n : Nat) (x11c : Nat) (x12 : Int) (x13 : Int) (Kn : T2) (Ke2 : T2) (Ke1 : T2) (Ke0 : T0) (Kr : T0) (g : Env) (hg : E2 g x1 x2 x3 x4 x11b x11n x11c x12 x13) (h : H) (hS : n26 x1 x2 x3 x4 x11b x11n x11c x12 x13 Kn Ke2 Ke1 Ke0 Kr h) : wpC none Try.prog 77 n19_c2 (Q4 Kn Ke2 Ke1 Ke0 Kr) g h := by
  obtain ⟨hg1, hg2, hg3, hg4, hg11, hg12, hg13, hds⟩ := hg
  refine wpC_of_wpx (by kernel_rfl) (by kernel_rfl) (g' := (((((((⟨g.v, []⟩ : Env).upd (some 1) (.int .i64 x1)).upd (some 2) (.pointer (some x2))).upd (some 3) (.pointer (some x3))).upd (some 4) (.pointer (some x4))).upd (some 11) (.slice x11b x11n x11c)).upd (some 12) (.int .i64 x12)).upd (some 13) (.int .i64 x13)) (by rw [env_ds hds, upd_self hg1, upd_self hg2, upd_self hg3, upd_self hg4, upd_self hg11, upd_self hg12, upd_self hg13]) ?_
  have e : (n26 x1 x2 x3 x4 x11b x11n x11c x12 x13 Kn Ke2 Ke1 Ke0 Kr h) = wpx none Try.prog 77 n19_c2 (Q4 Kn Ke2 Ke1 Ke0 Kr) ((((((((⟨g.v, []⟩ : Env).upd (some 1) (.int .i64 x1)).upd (some 2) (.pointer (some x2))).upd (some 3) (.pointer (some x3))).upd (some 4) (.pointer (some x4))).upd (some 11) (.slice x11b x11n x11c)).upd (some 12) (.int .i64 x12)).upd (some 13) (.int .i64 x13)) h := by kernel_rfl
  exact e ▸ hS
abbrev n19 (x1 : Int) (x2 : Addr) (x3 : Addr) (x4 : Addr) (x8 : Addr) (x11b : Option Addr) (x11n : Nat) (x11c : Nat) (x12 : Int) (x13 : Int) (x37 : Bool) (Kn : T2) (Ke2 : T2) (Ke1 : T2) (Ke0 : T0) (Kr : T0) (h : H) : Prop := cond x37 (n20 x1 x2 x3 x4 x8 x11b x11n x11c x12 x13 Kn Ke2 Ke1 Ke0 Kr h) (n26 x1 x2 x3 x4 x11b x11n x11c x12 x13 Kn Ke2 Ke1 Ke0 Kr h)
theorem n19_ok (x1 : Int) (x2 : Addr) (x3 : Addr) (x4 : Addr) (x8 : Addr) (x11b : Option Addr) (x11n : Nat) (x11c : Nat) (x12 : Int) (x13 : Int) (x37 : Bool) (Kn : T2) (Ke2 : T2) (Ke1 : T2) (Ke0 : T0) (Kr : T0) (g : Env) (hg : E8 g x1 x2 x3 x4 x8 x11b x11n x11c x12 x13 x37) (h : H) (hS : n19 x1 x2 x3 x4 x8 x11b x11n x11c x12 x13 x37 Kn Ke2 Ke1 Ke0 Kr h) : wpC none Try.prog 77 n18_c2 (Q4 Kn Ke2 Ke1 Ke0 Kr) g h := by
  obtain ⟨hg1, hg2, hg3, hg4, hg8, hg11, hg12, hg13, hg37, hds⟩ := hg
  have hx : evalE 77 g (.tmp 37) = .bool x37 := by
    show cond (Nat.blt 37 77) (g.v 37) undef = _
    rw [hg37]; rfl
  unfold n19 at hS
  refine wpC_cond' (o := .tmp 37) (x := n19_c1) (y := n19_c2) (by kernel_rfl) hx (fun hb => ?_) (fun hb => ?_)
  · subst hb
    exact n20_ok x1 x2 x3 x4 x8 x11b x11n x11c x12 x13 Kn Ke2 Ke1 Ke0 Kr g ⟨hg1, hg2, hg3, hg4, hg8, hg11, hg12, hg13, hds⟩ h hS
  · subst hb
    exact n26_ok x1 x2 x3 x4 x11b x11n x11c x12 x13 Kn Ke2 Ke1 Ke0 Kr g ⟨hg1, hg2, hg3, hg4, hg11, hg12, hg13, hds⟩ h hS
def Q9 (Kn : T8) (Ke2 : T2) (Ke1 : T2) (Ke0 : T0) (Kr : T0) : XPost
  | .normal, g, h => D8 Kn g h
  | .ret, g, h => D0 Kr g h
  | .exit id, g, h => cond (Nat.beq id 2) (D2 Ke2 g h) (cond (Nat.beq id 1) (D2 Ke1 g h) (cond (Nat.beq id 0) (D0 Ke0 g h) (False)))
  | _, _, _ => False
abbrev n18 (x1 : Int) (x2 : Addr) (x3 : Addr) (x4 : Addr) (x8 : Addr) (x11b : Option Addr) (x11n : Nat) (x11c : Nat) (x12 : Int) (x13 : Int) (x18 : Int) (Kn : T2) (Ke2 : T2) (Ke1 : T2) (Ke0 : T0) (Kr : T0) (h : H) : Prop :=
  Spl (x18 = (1 : Int)) (n19 x1 x2 x3 x4 x8 x11b x11n x11c x12 x13 true Kn Ke2 Ke1 Ke0 Kr h) (n19 x1 x2 x3 x4 x8 x11b x11n x11c x12 x13 false Kn Ke2 Ke1 Ke0 Kr h)
theorem n18_ok (x1 : Int) (x2 : Addr) (x3 : Addr) (x4 : Addr) (x8 : Addr) (x11b : Option Addr) (x11n : Nat) (x11c : Nat) (x12 : Int) (x13 : Int) (x18 : Int) (Kn : T2) (Ke2 : T2) (Ke1 : T2) (Ke0 : T0) (Kr : T0) (g : Env) (hg : E5 g x1 x2 x3 x4 x8 x11b x11n x11c x12 x13 x18) (h : H) (hS : n18 x1 x2 x3 x4 x8 x11b x11n x11c x12 x13 x18 Kn Ke2 Ke1 Ke0 Kr h) : wpC none Try.prog 77 n16_c2 (Q4 Kn Ke2 Ke1 Ke0 Kr) g h := by
  obtain ⟨hg1, hg2, hg3, hg4, hg8, hg11, hg12, hg13, hg18, hds⟩ := hg
  refine wpC_seq' (x := n18_c1) (y := n18_c2) (Q' := (Q9 (fun z1 z2 z3 z4 z8 z11b z11n z11c z12 z13 z37 h => n19 z1 z2 z3 z4 z8 z11b z11n z11c z12 z13 z37 Kn Ke2 Ke1 Ke0 Kr h) Ke2 Ke1 Ke0 Kr)) (by kernel_rfl) ?_ ?_
  · refine wpC_of_wpx (by kernel_rfl) (by kernel_rfl) (g' := (((((((((⟨g.v, []⟩ : Env).upd (some 1) (.int .i64 x1)).upd (some 2) (.pointer (some x2))).upd (some 3) (.pointer (some x3))).upd (some 4) (.pointer (some x4))).upd (some 8) (.pointer (some x8))).upd (some 11) (.slice x11b x11n x11c)).upd (some 12) (.int .i64 x12)).upd (some 13) (.int .i64 x13)).upd (some 18) (.int .u8 x18)) (by rw [env_ds hds, upd_self hg1, upd_self hg2, upd_self hg3, upd_self hg4, upd_self hg8, upd_self hg11, upd_self hg12, upd_self hg13, upd_self hg18]) ?_
    have e : (n18 x1 x2 x3 x4 x8 x11b x11n x11c x12 x13 x18 Kn Ke2 Ke1 Ke0 Kr h) = wpx none Try.prog 77 n18_c1 (Q9 (fun z1 z2 z3 z4 z8 z11b z11n z11c z12 z13 z37 h => n19 z1 z2 z3 z4 z8 z11b z11n z11c z12 z13 z37 Kn Ke2 Ke1 Ke0 Kr h) Ke2 Ke1 Ke0 Kr) ((((((((((⟨g.v, []⟩ : Env).upd (some 1) (.int .i64 x1)).upd (some 2) (.pointer (some x2))).upd (some 3) (.pointer (some x3))).upd (some 4) (.pointer (some x4))).upd (some 8) (.pointer (some x8))).upd (some 11) (.slice x11b x11n x11c)).upd (some 12) (.int .i64 x12)).upd (some 13) (.int .i64 x13)).upd (some 18) (.int .u8 x18)) h := by kernel_rfl
    exact e ▸ hS
  · intro e g' h' hq
    cases e with
    | normal =>
      have hq : D8 (fun z1 z2 z3 z4 z8 z11b z11n z11c z12 z13 z37 h => n19 z1 z2 z3 z4 z8 z11b z11n z11c z12 z13 z37 Kn Ke2 Ke1 Ke0 Kr h) g' h' := hq
      obtain ⟨y1, y2, y3, y4, y8, y11b, y11n, y11c, y12, y13, y37, hg', hq⟩ := D8_ok hq
      exact n19_ok y1 y2 y3 y4 y8 y11b y11n y11c y12 y13 y37 Kn Ke2 Ke1 Ke0 Kr g' hg' h' hq
    | _ => exact hq
abbrev n16 (x1 : Int) (x2 : Addr) (x3 : Addr) (x4 : Addr) (x8 : Addr) (x11b : Option Addr) (x11n : Nat) (x11c : Nat) (x12 : Int) (x13 : Int) (x18 : Int) (x28 : Bool) (Kn : T2) (Ke2 : T2) (Ke1 : T2) (Ke0 : T0) (Kr : T0) (h : H) : Prop := cond x28 (n17 x1 x2 x3 x4 x8 x11b x11n x11c x12 x13 Kn Ke2 Ke1 Ke0 Kr h) (n18 x1 x2 x3 x4 x8 x11b x11n x11c x12 x13 x18 Kn Ke2 Ke1 Ke0 Kr h)
theorem n16_ok (x1 : Int) (x2 : Addr) (x3 : Addr) (x4 : Addr) (x8 : Addr) (x11b : Option Addr) (x11n : Nat) (x11c : Nat) (x12 : Int) (x13 : Int) (x18 : Int) (x28 : Bool) (Kn : T2) (Ke2 : T2) (Ke1 : T2) (Ke0 : T0) (Kr : T0) (g : Env) (hg : E7 g x1 x2 x3 x4 x8 x11b x11n x11c x12 x13 x18 x28) (h : H) (hS : n16 x1 x2 x3 x4 x8 x11b x11n x11c x12 x13 x18 x28 Kn Ke2 Ke1 Ke0 Kr h) : wpC none Try.prog 77 n15_c2 (Q4 Kn Ke2 Ke1 Ke0 Kr) g h := by
  obtain ⟨hg1, hg2, hg3, hg4, hg8, hg11, hg12, hg13, hg18, hg28, hds⟩ := hg
  have hx : evalE 77 g (.tmp 28) = .bool x28 := by
    show cond (Nat.blt 28 77) (g.v 28) undef = _
    rw [hg28]; rfl
  unfold n16 at hS
  refine wpC_cond' (o := .tmp 28) (x := n16_c1) (y := n16_c2) (by kernel_rfl) hx (fun hb => ?_) (fun hb => ?_)
  · subst hb
    exact n17_ok x1 x2 x3 x4 x8 x11b x11n x11c x12 x13 Kn Ke2 Ke1 Ke0 Kr g ⟨hg1, hg2, hg3, hg4, hg8, hg11, hg12, hg13, hds⟩ h hS
  · subst hb
    exact n18_ok x1 x2 x3 x4 x8 x11b x11n x11c x12 x13 x18 Kn Ke2 Ke1 Ke0 Kr g ⟨hg1, hg2, hg3, hg4, hg8, hg11, hg12, hg13, hg18, hds⟩ h hS
def Q10 (Kn : T7) (Ke2 : T2) (Ke1 : T2) (Ke0 : T0) (Kr : T0) : XPost
  | .normal, g, h => D7 Kn g h
  | .ret, g, h => D0 Kr g h
  | .exit id, g, h => cond (Nat.beq id 2) (D2 Ke2 g h) (cond (Nat.beq id 1) (D2 Ke1 g h) (cond (Nat.beq id 0) (D0 Ke0 g h) (False)))
  | _, _, _ => False
abbrev n15 (x1 : Int) (x2 : Addr) (x3 : Addr) (x4 : Addr) (x8 : Addr) (x11b : Option Addr) (x11n : Nat) (x11c : Nat) (x12 : Int) (x13 : Int) (x18 : Int) (Kn : T2) (Ke2 : T2) (Ke1 : T2) (Ke0 : T0) (Kr : T0) (h : H) : Prop :=
  Spl (x18 = (3 : Int)) (n16 x1 x2 x3 x4 x8 x11b x11n x11c x12 x13 x18 true Kn Ke2 Ke1 Ke0 Kr h) (n16 x1 x2 x3 x4 x8 x11b x11n x11c x12 x13 x18 false Kn Ke2 Ke1 Ke0 Kr h)
theorem n15_ok (x1 : Int) (x2 : Addr) (x3 : Addr) (x4 : Addr) (x8 : Addr) (x11b : Option Addr) (x11n : Nat) (x11c : Nat) (x12 : Int) (x13 : Int) (x18 : Int) (Kn : T2) (Ke2 : T2) (Ke1 : T2) (Ke0 : T0) (Kr : T0) (g : Env) (hg : E5 g x1 x2 x3 x4 x8 x11b x11n x11c x12 x13 x18) (h : H) (hS : n15 x1 x2 x3 x4 x8 x11b x11n x11c x12 x13 x18 Kn Ke2 Ke1 Ke0 Kr h) : wpC none Try.prog 77 n13_c2 (Q4 Kn Ke2 Ke1 Ke0 Kr) g h := by
  obtain ⟨hg1, hg2, hg3, hg4, hg8, hg11, hg12, hg13, hg18, hds⟩ := hg
  refine wpC_seq' (x := n15_c1) (y := n15_c2) (Q' := (Q10 (fun z1 z2 z3 z4 z8 z11b z11n z11c z12 z13 z18 z28 h => n16 z1 z2 z3 z4 z8 z11b z11n z11c z12 z13 z18 z28 Kn Ke2 Ke1 Ke0 Kr h) Ke2 Ke1 Ke0 Kr)) (by kernel_rfl) ?_ ?_
  · refine wpC_of_wpx (by kernel_rfl) (by kernel_rfl) (g' := (((((((((⟨g.v, []⟩ : Env).upd (some 1) (.int .i64 x1)).upd (some 2) (.pointer (some x2))).upd (some 3) (.pointer (some x3))).upd (some 4) (.pointer (some x4))).upd (some 8) (.pointer (some x8))).upd (some 11) (.slice x11b x11n x11c)).upd (some 12) (.int .i64 x12)).upd (some 13) (.int .i64 x13)).upd (some 18) (.int .u8 x18)) (by rw [env_ds hds, upd_self hg1, upd_self hg2, upd_self hg3, upd_self hg4, upd_self hg8, upd_self hg11, upd_self hg12, upd_self hg13, upd_self hg18]) ?_
    have e : (n15 x1 x2 x3 x4 x8 x11b x11n x11c x12 x13 x18 Kn Ke2 Ke1 Ke0 Kr h) = wpx none Try.prog 77 n15_c1 (Q10 (fun z1 z2 z3 z4 z8 z11b z11n z11c z12 z13 z18 z28 h => n16 z1 z2 z3 z4 z8 z11b z11n z11c z12 z13 z18 z28 Kn Ke2 Ke1 Ke0 Kr h) Ke2 Ke1 Ke0 Kr) ((((((((((⟨g.v, []⟩ : Env).upd (some 1) (.int .i64 x1)).upd (some 2) (.pointer (some x2))).upd (some 3) (.pointer (some x3))).upd (some 4) (.pointer (some x4))).upd (some 8) (.pointer (some x8))).upd (some 11) (.slice x11b x11n x11c)).upd (some 12) (.int .i64 x12)).upd (some 13) (.int .i64 x13)).upd (some 18) (.int .u8 x18)) h := by kernel_rfl
    exact e ▸ hS
  · intro e g' h' hq
    cases e with
    | normal =>
      have hq : D7 (fun z1 z2 z3 z4 z8 z11b z11n z11c z12 z13 z18 z28 h => n16 z1 z2 z3 z4 z8 z11b z11n z11c z12 z13 z18 z28 Kn Ke2 Ke1 Ke0 Kr h) g' h' := hq
      obtain ⟨y1, y2, y3, y4, y8, y11b, y11n, y11c, y12, y13, y18, y28, hg', hq⟩ := D7_ok hq
      exact n16_ok y1 y2 y3 y4 y8 y11b y11n y11c y12 y13 y18 y28 Kn Ke2 Ke1 Ke0 Kr g' hg' h' hq
    | _ => exact hq
abbrev n13 (x1 : Int) (x2 : Addr) (x3 : Addr) (x4 : Addr) (x8 : Addr) (x11b : Option Addr) (x11n : Nat) (x11c : Nat) (x12 : Int) (x13 : Int) (x18 : Int) (x19 : Bool) (Kn : T2) (Ke2 : T2) (Ke1 : T2) (Ke0 : T0) (Kr : T0) (h : H) : Prop := cond x19 (n14 x1 x2 x3 x4 x8 x11b x11n x11c x12 x13 Kn Ke2 Ke1 Ke0 Kr h) (n15 x1 x2 x3 x4 x8 x11b x11n x11c x12 x13 x18 Kn Ke2 Ke1 Ke0 Kr h)
theorem n13_ok (x1 : Int) (x2 : Addr) (x3 : Addr) (x4 : Addr) (x8 : Addr) (x11b : Option Addr) (x11n : Nat) (x11c : Nat) (x12 : Int) (x13 : Int) (x18 : Int) (x19 : Bool) (Kn : T2) (Ke2 : T2) (Ke1 : T2) (Ke0 : T0) (Kr : T0) (g : Env) (hg : E6 g x1 x2 x3 x4 x8 x11b x11n x11c x12 x13 x18 x19) (h : H) (hS : n13 x1 x2 x3 x4 x8 x11b x11n x11c x12 x13 x18 x19 Kn Ke2 Ke1 Ke0 Kr h) : wpC none Try.prog 77 n12_c2 (Q4 Kn Ke2 Ke1 Ke0 Kr) g h := by
  obtain ⟨hg1, hg2, hg3, hg4, hg8, hg11, hg12, hg13, hg18, hg19, hds⟩ := hg
  have hx : evalE 77 g (.tmp 19) = .bool x19 := by
    show cond (Nat.blt 19 77) (g.v 19) undef = _
    rw [hg19]; rfl
  unfold n13 at hS
  refine wpC_cond' (o := .tmp 19) (x := n13_c1) (y := n13_c2) (by kernel_rfl) hx (fun hb => ?_) (fun hb => ?_)
  · subst hb
    exact n14_ok x1 x2 x3 x4 x8 x11b x11n x11c x12 x13 Kn Ke2 Ke1 Ke0 Kr g ⟨hg1, hg2, hg3, hg4, hg8, hg11, hg12, hg13, hds⟩ h hS
  · subst hb
    exact n15_ok x1 x2 x3 x4 x8 x11b x11n x11c x12 x13 x18 Kn Ke2 Ke1 Ke0 Kr g ⟨hg1, hg2, hg3, hg4, hg8, hg11, hg12, hg13, hg18, hds⟩ h hS
def Q11 (Kn : T6) (Ke2 : T2) (Ke1 : T2) (Ke0 : T0) (Kr : T0) : XPost
  | .normal, g, h => D6 Kn g h
  | .ret, g, h => D0 Kr g h
  | .exit id, g, h => cond (Nat.beq id 2) (D2 Ke2 g h) (cond (Nat.beq id 1) (D2 Ke1 g h) (cond (Nat.beq id 0) (D0 Ke0 g h) (False)))
  | _, _, _ => False
abbrev n12 (x1 : Int) (x2 : Addr) (x3 : Addr) (x4 : Addr) (x8 : Addr) (x11b : Option Addr) (x11n : Nat) (x11c : Nat) (x12 : Int) (x13 : Int) (x18 : Int) (Kn : T2) (Ke2 : T2) (Ke1 : T2) (Ke0 : T0) (Kr : T0) (h : H) : Prop :=
  Spl (x18 = (2 : Int)) (n13 x1 x2 x3 x4 x8 x11b x11n x11c x12 x13 x18 true Kn Ke2 Ke1 Ke0 Kr h) (n13 x1 x2 x3 x4 x8 x11b x11n x11c x12 x13 x18 false Kn Ke2 Ke1 Ke0 Kr h)
theorem n12_ok (x1 : Int) (x2 : Addr) (x3 : Addr) (x4 : Addr) (x8 : Addr) (x11b : Option Addr) (x11n : Nat) (x11c : Nat) (x12 : Int) (x13 : Int) (x18 : Int) (Kn : T2) (Ke2 : T2) (Ke1 : T2) (Ke0 : T0) (Kr : T0) (g : Env) (hg : E5 g x1 x2 x3 x4 x8 x11b x11n x11c x12 x13 x18) (h : H) (hS : n12 x1 x2 x3 x4 x8 x11b x11n x11c x12 x13 x18 Kn Ke2 Ke1 Ke0 Kr h) : wpC none Try.prog 77 n11_c1 (Q4 Kn Ke2 Ke1 Ke0 Kr) g h := by
  obtain ⟨hg1, hg2, hg3, hg4, hg8, hg11, hg12, hg13, hg18, hds⟩ := hg
  refine wpC_seq' (x := n12_c1) (y := n12_c2) (Q' := (Q11 (fun z1 z2 z3 z4 z8 z11b z11n z11c z12 z13 z18 z19 h => n13 z1 z2 z3 z4 z8 z11b z11n z11c z12 z13 z18 z19 Kn Ke2 Ke1 Ke0 Kr h) Ke2 Ke1 Ke0 Kr)) (by kernel_rfl) ?_ ?_
  · refine wpC_of_wpx (by kernel_rfl) (by kernel_rfl) (g' := (((((((((⟨g.v, []⟩ : Env).upd (some 1) (.int .i64 x1)).upd (some 2) (.pointer (some x2))).upd (some 3) (.pointer (some x3))).upd (some 4) (.pointer (some x4))).upd (some 8) (.pointer (some x8))).upd (some 11) (.slice x11b x11n x11c)).upd (some 12) (.int .i64 x12)).upd (some 13) (.int .i64 x13)).upd (some 18) (.int .u8 x18)) (by rw [env_ds hds, upd_self hg1, upd_self hg2, upd_self hg3, upd_self hg4, upd_self hg8, upd_self hg11, upd_self hg12, upd_self hg13, upd_self hg18]) ?_
    have e : (n12 x1 x2 x3 x4 x8 x11b x11n x11c x12 x13 x18 Kn Ke2 Ke1 Ke0 Kr h) = wpx none Try.prog 77 n12_c1 (Q11 (fun z1 z2 z3 z4 z8 z11b z11n z11c z12 z13 z18 z19 h => n13 z1 z2 z3 z4 z8 z11b z11n z11c z12 z13 z18 z19 Kn Ke2 Ke1 Ke0 Kr h) Ke2 Ke1 Ke0 Kr) ((((((((((⟨g.v, []⟩ : Env).upd (some 1) (.int .i64 x1)).upd (some 2) (.pointer (some x2))).upd (some 3) (.pointer (some x3))).upd (some 4) (.pointer (some x4))).upd (some 8) (.pointer (some x8))).upd (some 11) (.slice x11b x11n x11c)).upd (some 12) (.int .i64 x12)).upd (some 13) (.int .i64 x13)).upd (some 18) (.int .u8 x18)) h := by kernel_rfl
    exact e ▸ hS
  · intro e g' h' hq
    cases e with
    | normal =>
      have hq : D6 (fun z1 z2 z3 z4 z8 z11b z11n z11c z12 z13 z18 z19 h => n13 z1 z2 z3 z4 z8 z11b z11n z11c z12 z13 z18 z19 Kn Ke2 Ke1 Ke0 Kr h) g' h' := hq
      obtain ⟨y1, y2, y3, y4, y8, y11b, y11n, y11c, y12, y13, y18, y19, hg', hq⟩ := D6_ok hq
      exact n13_ok y1 y2 y3 y4 y8 y11b y11n y11c y12 y13 y18 y19 Kn Ke2 Ke1 Ke0 Kr g' hg' h' hq
    | _ => exact hq
abbrev n11 (x1 : Int) (x2 : Addr) (x3 : Addr) (x4 : Addr) (x8 : Addr) (x11b : Option Addr) (x11n : Nat) (x11c : Nat) (x12 : Int) (x13 : Int) (x18 : Int) (Kn : T2) (Ke1 : T2) (Ke0 : T0) (Kr : T0) (h : H) : Prop := n12 x1 x2 x3 x4 x8 x11b x11n x11c x12 x13 x18 Kn Kn Ke1 Ke0 Kr h
theorem n11_ok (x1 : Int) (x2 : Addr) (x3 : Addr) (x4 : Addr) (x8 : Addr) (x11b : Option Addr) (x11n : Nat) (x11c : Nat) (x12 : Int) (x13 : Int) (x18 : Int) (Kn : T2) (Ke1 : T2) (Ke0 : T0) (Kr : T0) (g : Env) (hg : E5 g x1 x2 x3 x4 x8 x11b x11n x11c x12 x13 x18) (h : H) (hS : n11 x1 x2 x3 x4 x8 x11b x11n x11c x12 x13 x18 Kn Ke1 Ke0 Kr h) : wpC none Try.prog 77 n10_c2 (Q3 Kn Ke1 Ke0 Kr) g h := by
  refine wpC_block' (id := 2) (x := n11_c1) (by kernel_rfl) (n12_ok x1 x2 x3 x4 x8 x11b x11n x11c x12 x13 x18 Kn Kn Ke1 Ke0 Kr g hg h hS) ?_
  intro e g' h' hq
  cases e <;> exact hq
def Q12 (Kn : T5) (Ke1 : T2) (Ke0 : T0) (Kr : T0) : XPost
  | .normal, g, h => D5 Kn g h
  | .ret, g, h => D0 Kr g h
  | .exit id, g, h => cond (Nat.beq id 1) (D2 Ke1 g h) (cond (Nat.beq id 0) (D0 Ke0 g h) (False))
  | _, _, _ => False
abbrev n10 (x1 : Int) (x2 : Addr) (x3 : Addr) (x4 : Addr) (x8 : Addr) (x11b : Option Addr) (x11n : Nat) (x11c : Nat) (x12 : Int) (x13 : Int) (Kn : T2) (Ke1 : T2) (Ke0 : T0) (Kr : T0) (h : H) : Prop :=
  ∃ i338, cell h (x8.add 0) = some (.int .u8 i338) ∧ (n11 x1 x2 x3 x4 x8 x11b x11n x11c x12 x13 i338 Kn Ke1 Ke0 Kr h)
theorem n10_ok (x1 : Int) (x2 : Addr) (x3 : Addr) (x4 : Addr) (x8 : Addr) (x11b : Option Addr) (x11n : Nat) (x11c : Nat) (x12 : Int) (x13 : Int) (Kn : T2) (Ke1 : T2) (Ke0 : T0) (Kr : T0) (g : Env) (hg : E4 g x1 x2 x3 x4 x8 x11b x11n x11c x12 x13) (h : H) (hS : n10 x1 x2 x3 x4 x8 x11b x11n x11c x12 x13 Kn Ke1 Ke0 Kr h) : wpC none Try.prog 77 n9_c2 (Q3 Kn Ke1 Ke0 Kr) g h := by
  obtain ⟨hg1, hg2, hg3, hg4, hg8, hg11, hg12, hg13, hds⟩ := hg
  refine wpC_seq' (x := n10_c1) (y := n10_c2) (Q' := (Q12 (fun z1 z2 z3 z4 z8 z11b z11n z11c z12 z13 z18 h => n11 z1 z2 z3 z4 z8 z11b z11n z11c z12 z13 z18 Kn Ke1 Ke0 Kr h) Ke1 Ke0 Kr)) (by kernel_rfl) ?_ ?_
  · refine wpC_of_wpx (by kernel_rfl) (by kernel_rfl) (g' := ((((((((⟨g.v, []⟩ : Env).upd (some 1) (.int .i64 x1)).upd (some 2) (.pointer (some x2))).upd (some 3) (.pointer (some x3))).upd (some 4) (.pointer (some x4))).upd (some 8) (.pointer (some x8))).upd (some 11) (.slice x11b x11n x11c)).upd (some 12) (.int .i64 x12)).upd (some 13) (.int .i64 x13)) (by rw [env_ds hds, upd_self hg1, upd_self hg2, upd_self hg3, upd_self hg4, upd_self hg8, upd_self hg11, upd_self hg12, upd_self hg13]) ?_
    have e : (n10 x1 x2 x3 x4 x8 x11b x11n x11c x12 x13 Kn Ke1 Ke0 Kr h) = wpx none Try.prog 77 n10_c1 (Q12 (fun z1 z2 z3 z4 z8 z11b z11n z11c z12 z13 z18 h => n11 z1 z2 z3 z4 z8 z11b z11n z11c z12 z13 z18 Kn Ke1 Ke0 Kr h) Ke1 Ke0 Kr) (((((((((⟨g.v, []⟩ : Env).upd (some 1) (.int .i64 x1)).upd (some 2) (.pointer (some x2))).upd (some 3) (.pointer (some x3))).upd (some 4) (.pointer (some x4))).upd (some 8) (.pointer (some x8))).upd (some 11) (.slice x11b x11n x11c)).upd (some 12) (.int .i64 x12)).upd (some 13) (.int .i64 x13)) h := by kernel_rfl
    exact e ▸ hS
  · intro e g' h' hq
    cases e with
    | normal =>
      have hq : D5 (fun z1 z2 z3 z4 z8 z11b z11n z11c z12 z13 z18 h => n11 z1 z2 z3 z4 z8 z11b z11n z11c z12 z13 z18 Kn Ke1 Ke0 Kr h) g' h' := hq
      obtain ⟨y1, y2, y3, y4, y8, y11b, y11n, y11c, y12, y13, y18, hg', hq⟩ := D5_ok hq
      exact n11_ok y1 y2 y3 y4 y8 y11b y11n y11c y12 y13 y18 Kn Ke1 Ke0 Kr g' hg' h' hq
    | _ => exact hq
def Q13 (Kn : T4) (Ke1 : T2) (Ke0 : T0) (Kr : T0) : XPost
  | .normal, g, h => D4 Kn g h
  | .ret, g, h => D0 Kr g h
  | .exit id, g, h => cond (Nat.beq id 1) (D2 Ke1 g h) (cond (Nat.beq id 0) (D0 Ke0 g h) (False))
  | _, _, _ => False
abbrev n9 (x1 : Int) (x2 : Addr) (x3 : Addr) (x4 : Addr) (x11b : Option Addr) (x11n : Nat) (x11c : Nat) (x12 : Int) (x13 : Int) (Kn : T2) (Ke1 : T2) (Ke0 : T0) (Kr : T0) (h : H) : Prop :=
  (0 ≤ x13 ∧ x13 < (x11n : Int)) ∧ (vSome x11b fun a339 => ∃ i340, cell h (((a339.add (Int.toNat x13 * 6))).add 0) = some (.int .u8 i340) ∧ (∃ i341, cell h (((a339.add (Int.toNat x13 * 6))).add 1) = some (.int .u8 i341) ∧ (∃ s342, cell h (((a339.add (Int.toNat x13 * 6))).add 2) = some (S s342) ∧ (∃ s343b s343n s343c, cell h (((a339.add (Int.toNat x13 * 6))).add 3) = some (.slice s343b s343n s343c) ∧ (∃ s344, cell h (((a339.add (Int.toNat x13 * 6))).add 4) = some (S s344) ∧ (∃ s345b s345n s345c, cell h (((a339.add (Int.toNat x13 * 6))).add 5) = some (.slice s345b s345n s345c) ∧ (newx h ⟨[(.int .u8 (0 : Int)), (.int .u8 (0 : Int)), (S ([] : List UInt8)), (.slice none 0 0), (S ([] : List UInt8)), (.slice none 0 0)]⟩ 31 fun a346 h347 => stL a346 [(.int .u8 i340), (.int .u8 i341), (S s342), (.slice s343b s343n s343c), (S s344), (.slice s345b s345n s345c)] 0 h347 fun h348 => n10 x1 x2 x3 x4 a346 x11b x11n x11c x12 x13 Kn Ke1 Ke0 Kr h348)))))))
theorem n9_ok (x1 : Int) (x2 : Addr) (x3 : Addr) (x4 : Addr) (x11b : Option Addr) (x11n : Nat) (x11c : Nat) (x12 : Int) (x13 : Int) (Kn : T2) (Ke1 : T2) (Ke0 : T0) (Kr : T0) (g : Env) (hg : E2 g x1 x2 x3 x4 x11b x11n x11c x12 x13) (h : H) (hS : n9 x1 x2 x3 x4 x11b x11n x11c x12 x13 Kn Ke1 Ke0 Kr h) : wpC none Try.prog 77 n8_c1 (Q3 Kn Ke1 Ke0 Kr) g h := by
  obtain ⟨hg1, hg2, hg3, hg4, hg11, hg12, hg13, hds⟩ := hg
  refine wpC_seq' (x := n9_c1) (y := n9_c2) (Q' := (Q13 (fun z1 z2 z3 z4 z8 z11b z11n z11c z12 z13 h => n10 z1 z2 z3 z4 z8 z11b z11n z11c z12 z13 Kn Ke1 Ke0 Kr h) Ke1 Ke0 Kr)) (by kernel_rfl) ?_ ?_
  · refine wpC_of_wpx (by kernel_rfl) (by kernel_rfl) (g' := (((((((⟨g.v, []⟩ : Env).upd (some 1) (.int .i64 x1)).upd (some 2) (.pointer (some x2))).upd (some 3) (.pointer (some x3))).upd (some 4) (.pointer (some x4))).upd (some 11) (.slice x11b x11n x11c)).upd (some 12) (.int .i64 x12)).upd (some 13) (.int .i64 x13)) (by rw [env_ds hds, upd_self hg1, upd_self hg2, upd_self hg3, upd_self hg4, upd_self hg11, upd_self hg12, upd_self hg13]) ?_
    have e : (n9 x1 x2 x3 x4 x11b x11n x11c x12 x13 Kn Ke1 Ke0 Kr h) = wpx none Try.prog 77 n9_c1 (Q13 (fun z1 z2 z3 z4 z8 z11b z11n z11c z12 z13 h => n10 z1 z2 z3 z4 z8 z11b z11n z11c z12 z13 Kn Ke1 Ke0 Kr h) Ke1 Ke0 Kr) ((((((((⟨g.v, []⟩ : Env).upd (some 1) (.int .i64 x1)).upd (some 2) (.pointer (some x2))).upd (some 3) (.pointer (some x3))).upd (some 4) (.pointer (some x4))).upd (some 11) (.slice x11b x11n x11c)).upd (some 12) (.int .i64 x12)).upd (some 13) (.int .i64 x13)) h := by kernel_rfl
    exact e ▸ hS
  · intro e g' h' hq
    cases e with
    | normal =>
      have hq : D4 (fun z1 z2 z3 z4 z8 z11b z11n z11c z12 z13 h => n10 z1 z2 z3 z4 z8 z11b z11n z11c z12 z13 Kn Ke1 Ke0 Kr h) g' h' := hq
      obtain ⟨y1, y2, y3, y4, y8, y11b, y11n, y11c, y12, y13, hg', hq⟩ := D4_ok hq
      exact n10_ok y1 y2 y3 y4 y8 y11b y11n y11c y12 y13 Kn Ke1 Ke0 Kr g' hg' h' hq
    | _ => exact hq
abbrev n8 (x1 : Int) (x2 : Addr) (x3 : Addr) (x4 : Addr) (x11b : Option Addr) (x11n : Nat) (x11c : Nat) (x12 : Int) (x13 : Int) (Kn : T2) (Ke0 : T0) (Kr : T0) (h : H) : Prop := n9 x1 x2 x3 x4 x11b x11n x11c x12 x13 Kn Kn Ke0 Kr h
theorem n8_ok (x1 : Int) (x2 : Addr) (x3 : Addr) (x4 : Addr) (x11b : Option Addr) (x11n : Nat) (x11c : Nat) (x12 : Int) (x13 : Int) (Kn : T2) (Ke0 : T0) (Kr : T0) (g : Env) (hg : E2 g x1 x2 x3 x4 x11b x11n x11c x12 x13) (h : H) (hS : n8 x1 x2 x3 x4 x11b x11n x11c x12 x13 Kn Ke0 Kr h) : wpC none Try.prog 77 n6_c1 (Q2 Kn Ke0 Kr) g h := by
  refine wpC_block' (id := 1) (x := n8_c1) (by kernel_rfl) (n9_ok x1 x2 x3 x4 x11b x11n x11c x12 x13 Kn Kn Ke0 Kr g hg h hS) ?_
  intro e g' h' hq
  cases e <;> exact hq
abbrev n6 (x1 : Int) (x2 : Addr) (x3 : Addr) (x4 : Addr) (x11b : Option Addr) (x11n : Nat) (x11c : Nat) (x12 : Int) (x13 : Int) (Kn : T2) (Ke0 : T0) (Kr : T0) (h : H) : Prop := n8 x1 x2 x3 x4 x11b x11n x11c x12 x13 (fun z1 z2 z3 z4 z11b z11n z11c z12 z13 h => n7 z1 z2 z3 z4 z11b z11n z11c z12 z13 Kn Ke0 Kr h) Ke0 Kr h
theorem n6_ok (x1 : Int) (x2 : Addr) (x3 : Addr) (x4 : Addr) (x11b : Option Addr) (x11n : Nat) (x11c : Nat) (x12 : Int) (x13 : Int) (Kn : T2) (Ke0 : T0) (Kr : T0) (g : Env) (hg : E2 g x1 x2 x3 x4 x11b x11n x11c x12 x13) (h : H) (hS : n6 x1 x2 x3 x4 x11b x11n x11c x12 x13 Kn Ke0 Kr h) : wpC none Try.prog 77 n5_c2 (Q2 Kn Ke0 Kr) g h := by
  refine wpC_seq' (x := n6_c1) (y := n6_c2) (by kernel_rfl) (n8_ok x1 x2 x3 x4 x11b x11n x11c x12 x13 (fun z1 z2 z3 z4 z11b z11n z11c z12 z13 h => n7 z1 z2 z3 z4 z11b z11n z11c z12 z13 Kn Ke0 Kr h) Ke0 Kr g hg h hS) ?_
  intro e g' h' hq
  cases e with
  | normal =>
    have hq : D2 (fun z1 z2 z3 z4 z11b z11n z11c z12 z13 h => n7 z1 z2 z3 z4 z11b z11n z11c z12 z13 Kn Ke0 Kr h) g' h' := hq
    obtain ⟨y1, y2, y3, y4, y11b, y11n, y11c, y12, y13, hg', hq⟩ := D2_ok hq
    exact n7_ok y1 y2 y3 y4 y11b y11n y11c y12 y13 Kn Ke0 Kr g' hg' h' hq
  | _ => exact hq
abbrev n5 (x1 : Int) (x2 : Addr) (x3 : Addr) (x4 : Addr) (x11b : Option Addr) (x11n : Nat) (x11c : Nat) (x12 : Int) (x13 : Int) (x14 : Value) (Kn : T2) (Ke0 : T0) (Kr : T0) (h : H) : Prop :=
  vBool x14 fun b349 => cond b349 (n6 x1 x2 x3 x4 x11b x11n x11c x12 x13 Kn Ke0 Kr h) (Ke0 h)
theorem n5_ok (x1 : Int) (x2 : Addr) (x3 : Addr) (x4 : Addr) (x11b : Option Addr) (x11n : Nat) (x11c : Nat) (x12 : Int) (x13 : Int) (x14 : Value) (Kn : T2) (Ke0 : T0) (Kr : T0) (g : Env) (hg : E3 g x1 x2 x3 x4 x11b x11n x11c x12 x13 x14) (h : H) (hS : n5 x1 x2 x3 x4 x11b x11n x11c x12 x13 x14 Kn Ke0 Kr h) : wpC none Try.prog 77 n4_c2 (Q2 Kn Ke0 Kr) g h := by
  obtain ⟨hg1, hg2, hg3, hg4, hg11, hg12, hg13, hg14, hds⟩ := hg
  refine wpC_seq' (x := n5_c1) (y := n5_c2) (Q' := (Q2 (fun z1 z2 z3 z4 z11b z11n z11c z12 z13 h => n6 z1 z2 z3 z4 z11b z11n z11c z12 z13 Kn Ke0 Kr h) Ke0 Kr)) (by kernel_rfl) ?_ ?_
  · refine wpC_of_wpx (by kernel_rfl) (by kernel_rfl) (g' := ((((((((⟨g.v, []⟩ : Env).upd (some 1) (.int .i64 x1)).upd (some 2) (.pointer (some x2))).upd (some 3) (.pointer (some x3))).upd (some 4) (.pointer (some x4))).upd (some 11) (.slice x11b x11n x11c)).upd (some 12) (.int .i64 x12)).upd (some 13) (.int .i64 x13)).upd (some 14) x14) (by rw [env_ds hds, upd_self hg1, upd_self hg2, upd_self hg3, upd_self hg4, upd_self hg11, upd_self hg12, upd_self hg13, upd_self hg14]) ?_
    have e : (n5 x1 x2 x3 x4 x11b x11n x11c x12 x13 x14 Kn Ke0 Kr h) = wpx none Try.prog 77 n5_c1 (Q2 (fun z1 z2 z3 z4 z11b z11n z11c z12 z13 h => n6 z1 z2 z3 z4 z11b z11n z11c z12 z13 Kn Ke0 Kr h) Ke0 Kr) (((((((((⟨g.v, []⟩ : Env).upd (some 1) (.int .i64 x1)).upd (some 2) (.pointer (some x2))).upd (some 3) (.pointer (some x3))).upd (some 4) (.pointer (some x4))).upd (some 11) (.slice x11b x11n x11c)).upd (some 12) (.int .i64 x12)).upd (some 13) (.int .i64 x13)).upd (some 14) x14) h := by kernel_rfl
    exact e ▸ hS
  · intro e g' h' hq
    cases e with
    | normal =>
      have hq : D2 (fun z1 z2 z3 z4 z11b z11n z11c z12 z13 h => n6 z1 z2 z3 z4 z11b z11n z11c z12 z13 Kn Ke0 Kr h) g' h' := hq
      obtain ⟨y1, y2, y3, y4, y11b, y11n, y11c, y12, y13, hg', hq⟩ := D2_ok hq
      exact n6_ok y1 y2 y3 y4 y11b y11n y11c y12 y13 Kn Ke0 Kr g' hg' h' hq
    | _ => exact hq
def Q14 (Kn : T3) (Ke0 : T0) (Kr : T0) : XPost
  | .normal, g, h => D3 Kn g h
  | .ret, g, h => D0 Kr g h
  | .exit id, g, h => cond (Nat.beq id 0) (D0 Ke0 g h) (False)
  | _, _, _ => False
abbrev n4 (x1 : Int) (x2 : Addr) (x3 : Addr) (x4 : Addr) (x11b : Option Addr) (x11n : Nat) (x11c : Nat) (x12 : Int) (x13 : Int) (Kn : T2) (Ke0 : T0) (Kr : T0) (h : H) : Prop :=
  Spl (x13 < x12) (n5 x1 x2 x3 x4 x11b x11n x11c x12 x13 (.bool true) Kn Ke0 Kr h) (n5 x1 x2 x3 x4 x11b x11n x11c x12 x13 (.bool false) Kn Ke0 Kr h)
theorem n4_ok (x1 : Int) (x2 : Addr) (x3 : Addr) (x4 : Addr) (x11b : Option Addr) (x11n : Nat) (x11c : Nat) (x12 : Int) (x13 : Int) (Kn : T2) (Ke0 : T0) (Kr : T0) (g : Env) (hg : E2 g x1 x2 x3 x4 x11b x11n x11c x12 x13) (h : H) (hS : n4 x1 x2 x3 x4 x11b x11n x11c x12 x13 Kn Ke0 Kr h) : wpC none Try.prog 77 n3_c1 (Q2 Kn Ke0 Kr) g h := by
  obtain ⟨hg1, hg2, hg3, hg4, hg11, hg12, hg13, hds⟩ := hg
  refine wpC_seq' (x := n4_c1) (y := n4_c2) (Q' := (Q14 (fun z1 z2 z3 z4 z11b z11n z11c z12 z13 z14 h => n5 z1 z2 z3 z4 z11b z11n z11c z12 z13 z14 Kn Ke0 Kr h) Ke0 Kr)) (by kernel_rfl) ?_ ?_
  · refine wpC_of_wpx (by kernel_rfl) (by kernel_rfl) (g' := (((((((⟨g.v, []⟩ : Env).upd (some 1) (.int .i64 x1)).upd (some 2) (.pointer (some x2))).upd (some 3) (.pointer (some x3))).upd (some 4) (.pointer (some x4))).upd (some 11) (.slice x11b x11n x11c)).upd (some 12) (.int .i64 x12)).upd (some 13) (.int .i64 x13)) (by rw [env_ds hds, upd_self hg1, upd_self hg2, upd_self hg3, upd_self hg4, upd_self hg11, upd_self hg12, upd_self hg13]) ?_
    have e : (n4 x1 x2 x3 x4 x11b x11n x11c x12 x13 Kn Ke0 Kr h) = wpx none Try.prog 77 n4_c1 (Q14 (fun z1 z2 z3 z4 z11b z11n z11c z12 z13 z14 h => n5 z1 z2 z3 z4 z11b z11n z11c z12 z13 z14 Kn Ke0 Kr h) Ke0 Kr) ((((((((⟨g.v, []⟩ : Env).upd (some 1) (.int .i64 x1)).upd (some 2) (.pointer (some x2))).upd (some 3) (.pointer (some x3))).upd (some 4) (.pointer (some x4))).upd (some 11) (.slice x11b x11n x11c)).upd (some 12) (.int .i64 x12)).upd (some 13) (.int .i64 x13)) h := by kernel_rfl
    exact e ▸ hS
  · intro e g' h' hq
    cases e with
    | normal =>
      have hq : D3 (fun z1 z2 z3 z4 z11b z11n z11c z12 z13 z14 h => n5 z1 z2 z3 z4 z11b z11n z11c z12 z13 z14 Kn Ke0 Kr h) g' h' := hq
      obtain ⟨y1, y2, y3, y4, y11b, y11n, y11c, y12, y13, y14, hg', hq⟩ := D3_ok hq
      exact n5_ok y1 y2 y3 y4 y11b y11n y11c y12 y13 y14 Kn Ke0 Kr g' hg' h' hq
    | _ => exact hq
def n3_L (Kn : T0) (Ke0 : T0) (Kr : T0) : Nat → Int → Addr → Addr → Addr → (Option Addr) → Nat → Nat → Int → Int → H → Prop
  | 0 => fun _ _ _ _ _ _ _ _ _ _ => False
  | N + 1 => fun x1 x2 x3 x4 x11b x11n x11c x12 x13 h => n4 x1 x2 x3 x4 x11b x11n x11c x12 x13 (fun z1 z2 z3 z4 z11b z11n z11c z12 z13 h => n3_L Kn Ke0 Kr N z1 z2 z3 z4 z11b z11n z11c z12 z13 h) Ke0 Kr h
abbrev n3 (x1 : Int) (x2 : Addr) (x3 : Addr) (x4 : Addr) (x11b : Option Addr) (x11n : Nat) (x11c : Nat) (x12 : Int) (x13 : Int) (Kn : T0) (Ke0 : T0) (Kr : T0) (h : H) : Prop := ∃ N, n3_L Kn Ke0 Kr N x1 x2 x3 x4 x11b x11n x11c x12 x13 h
theorem n3_ok (x1 : Int) (x2 : Addr) (x3 : Addr) (x4 : Addr) (x11b : Option Addr) (x11n : Nat) (x11c : Nat) (x12 : Int) (x13 : Int) (Kn : T0) (Ke0 : T0) (Kr : T0) (g : Env) (hg : E2 g x1 x2 x3 x4 x11b x11n x11c x12 x13) (h : H) (hS : n3 x1 x2 x3 x4 x11b x11n x11c x12 x13 Kn Ke0 Kr h) : wpC none Try.prog 77 n2_c1 (Q1 Kn Ke0 Kr) g h := by
  obtain ⟨N0, hS⟩ := hS
  refine wpC_loop' (x := n3_c1) (by kernel_rfl) (fun k g h => ∃ (x1 : Int) (x2 : Addr) (x3 : Addr) (x4 : Addr) (x11b : Option Addr) (x11n : Nat) (x11c : Nat) (x12 : Int) (x13 : Int), E2 g x1 x2 x3 x4 x11b x11n x11c x12 x13 ∧ n3_L Kn Ke0 Kr k x1 x2 x3 x4 x11b x11n x11c x12 x13 h) (fun g h hr => ?_) (fun N g h hr => ?_) N0 ⟨x1, x2, x3, x4, x11b, x11n, x11c, x12, x13, hg, hS⟩
  · obtain ⟨x1, x2, x3, x4, x11b, x11n, x11c, x12, x13, hg, hS⟩ := hr
    exact hS.elim
  · obtain ⟨x1, x2, x3, x4, x11b, x11n, x11c, x12, x13, hg, hS⟩ := hr
    refine (n4_ok x1 x2 x3 x4 x11b x11n x11c x12 x13 (fun z1 z2 z3 z4 z11b z11n z11c z12 z13 h => n3_L Kn Ke0 Kr N z1 z2 z3 z4 z11b z11n z11c z12 z13 h) Ke0 Kr g hg h hS).mono ?_
    intro e g' h' hq
    cases e with
    | normal => exact D2_ok (K := (fun z1 z2 z3 z4 z11b z11n z11c z12 z13 h => n3_L Kn Ke0 Kr N z1 z2 z3 z4 z11b z11n z11c z12 z13 h)) hq
    | _ => exact hq
abbrev n2 (x1 : Int) (x2 : Addr) (x3 : Addr) (x4 : Addr) (x11b : Option Addr) (x11n : Nat) (x11c : Nat) (x12 : Int) (x13 : Int) (Kn : T0) (Kr : T0) (h : H) : Prop := n3 x1 x2 x3 x4 x11b x11n x11c x12 x13 Kn Kn Kr h
theorem n2_ok (x1 : Int) (x2 : Addr) (x3 : Addr) (x4 : Addr) (x11b : Option Addr) (x11n : Nat) (x11c : Nat) (x12 : Int) (x13 : Int) (Kn : T0) (Kr : T0) (g : Env) (hg : E2 g x1 x2 x3 x4 x11b x11n x11c x12 x13) (h : H) (hS : n2 x1 x2 x3 x4 x11b x11n x11c x12 x13 Kn Kr h) : wpC none Try.prog 77 n1_c2 (Q0 Kn Kr) g h := by
  refine wpC_block' (id := 0) (x := n2_c1) (by kernel_rfl) (n3_ok x1 x2 x3 x4 x11b x11n x11c x12 x13 Kn Kn Kr g hg h hS) ?_
  intro e g' h' hq
  cases e <;> exact hq
def Q15 (Kn : T2) (Kr : T0) : XPost
  | .normal, g, h => D2 Kn g h
  | .ret, g, h => D0 Kr g h
  | _, _, _ => False
abbrev n1 (x0b : Option Addr) (x0n : Nat) (x0c : Nat) (x1 : Int) (x2 : Addr) (x3 : Addr) (x4 : Addr) (Kn : T0) (Kr : T0) (h : H) : Prop :=
  n2 x1 x2 x3 x4 x0b x0n x0c (x0n : Int) (0 : Int) Kn Kr h
theorem n1_ok (x0b : Option Addr) (x0n : Nat) (x0c : Nat) (x1 : Int) (x2 : Addr) (x3 : Addr) (x4 : Addr) (Kn : T0) (Kr : T0) (g : Env) (hg : E1 g x0b x0n x0c x1 x2 x3 x4) (h : H) (hS : n1 x0b x0n x0c x1 x2 x3 x4 Kn Kr h) : wpC none Try.prog 77 code (Q0 Kn Kr) g h := by
  obtain ⟨hg0, hg1, hg2, hg3, hg4, hds⟩ := hg
  refine wpC_seq' (x := n1_c1) (y := n1_c2) (Q' := (Q15 (fun z1 z2 z3 z4 z11b z11n z11c z12 z13 h => n2 z1 z2 z3 z4 z11b z11n z11c z12 z13 Kn Kr h) Kr)) (by kernel_rfl) ?_ ?_
  · refine wpC_of_wpx (by kernel_rfl) (by kernel_rfl) (g' := (((((⟨g.v, []⟩ : Env).upd (some 0) (.slice x0b x0n x0c)).upd (some 1) (.int .i64 x1)).upd (some 2) (.pointer (some x2))).upd (some 3) (.pointer (some x3))).upd (some 4) (.pointer (some x4))) (by rw [env_ds hds, upd_self hg0, upd_self hg1, upd_self hg2, upd_self hg3, upd_self hg4]) ?_
    have e : (n1 x0b x0n x0c x1 x2 x3 x4 Kn Kr h) = wpx none Try.prog 77 n1_c1 (Q15 (fun z1 z2 z3 z4 z11b z11n z11c z12 z13 h => n2 z1 z2 z3 z4 z11b z11n z11c z12 z13 Kn Kr h) Kr) ((((((⟨g.v, []⟩ : Env).upd (some 0) (.slice x0b x0n x0c)).upd (some 1) (.int .i64 x1)).upd (some 2) (.pointer (some x2))).upd (some 3) (.pointer (some x3))).upd (some 4) (.pointer (some x4))) h := by kernel_rfl
    exact e ▸ hS
  · intro e g' h' hq
    cases e with
    | normal =>
      have hq : D2 (fun z1 z2 z3 z4 z11b z11n z11c z12 z13 h => n2 z1 z2 z3 z4 z11b z11n z11c z12 z13 Kn Kr h) g' h' := hq
      obtain ⟨y1, y2, y3, y4, y11b, y11n, y11c, y12, y13, hg', hq⟩ := D2_ok hq
      exact n2_ok y1 y2 y3 y4 y11b y11n y11c y12 y13 Kn Kr g' hg' h' hq
    | _ => exact hq
/-- WHAT tympan/dom.Print$2 ASKS -/
abbrev asks (x0b : Option Addr) (x0n : Nat) (x0c : Nat) (x1 : Int) (x2 : Addr) (x3 : Addr) (x4 : Addr) (K : Value → H → Prop) (h : H) : Prop := n1 x0b x0n x0c x1 x2 x3 x4 (fun h => K (.tuple ⟨[]⟩) h) (fun h => K (.tuple ⟨[]⟩) h) h
theorem ok (x0b : Option Addr) (x0n : Nat) (x0c : Nat) (x1 : Int) (x2 : Addr) (x3 : Addr) (x4 : Addr) (K : Value → H → Prop) (h : H) (hS : asks x0b x0n x0c x1 x2 x3 x4 K h) : HCalls Try.prog 60 ⟨[(.slice x0b x0n x0c), (.int .i64 x1), (.pointer (some x2)), (.pointer (some x3)), (.pointer (some x4))]⟩ h K := by
  refine calls_of_wpC (c := code) Try.func60 (by kernel_rfl) (Nat.le_of_ble_eq_true (by kernel_rfl)) ?_
  refine (n1_ok x0b x0n x0c x1 x2 x3 x4 (fun h => K (.tuple ⟨[]⟩) h) (fun h => K (.tuple ⟨[]⟩) h) (env0 [(.slice x0b x0n x0c), (.int .i64 x1), (.pointer (some x2)), (.pointer (some x3)), (.pointer (some x4))]) ⟨rfl, rfl, rfl, rfl, rfl, rfl⟩ h hS).mono ?_
  intro e g' h' hq
  cases e with
  | normal =>
    have hq : D0 (fun h => K (.tuple ⟨[]⟩) h) g' h' := hq
    obtain ⟨hd, hq⟩ := D0_ok hq
    show leaveX g'.ds h' _
    rw [hd]
    show K (.tuple ⟨[]⟩) h'
    exact hq
  | ret =>
    have hq : D0 (fun h => K (.tuple ⟨[]⟩) h) g' h' := hq
    obtain ⟨hd, hq⟩ := D0_ok hq
    show leaveX g'.ds h' _
    rw [hd]
    show K (.tuple ⟨[]⟩) h'
    exact hq
  | _ => exact hq
end Sx.dom_Print_2
end Go.Proofs
