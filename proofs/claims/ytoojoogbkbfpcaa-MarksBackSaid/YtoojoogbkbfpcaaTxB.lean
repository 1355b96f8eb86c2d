/- The shallow forms of functions, printed by sh.py out of the translation; each with its proof. No condition. -/
import Derived.Test.YtoojoogbkbfpcaaShJ
import Derived.Test.YtoojoogbkbfpcaaProg
namespace Go.Proofs
open Go Go.Sh
set_option linter.unusedVariables false
set_option maxRecDepth 100000

/-! ### tympan/marks.Clear -/
namespace Sx.marks_Clear
noncomputable def code : Code := bodyOf Try.f13
abbrev T0 := (Option Addr) → Nat → Nat → H → Prop
def E0 (g : Env) (x2b : Option Addr) (x2n : Nat) (x2c : Nat) : Prop := g.v 2 = (.slice x2b x2n x2c) ∧ g.ds = []
def D0 (K : T0) (g : Env) (h : H) : Prop := nilDs g.ds (vSlice (g.v 2) fun s1b s1n s1c => K s1b s1n s1c h)
theorem D0_ok {K : T0} {g : Env} {h : H} (hq : D0 K g h) : ∃ (x2b : Option Addr) (x2n : Nat) (x2c : Nat), E0 g x2b x2n x2c ∧ K x2b x2n x2c h := by
  obtain ⟨hd, hq⟩ := nilDs_ok hq
  obtain ⟨y3b, y3n, y3c, e2, q4⟩ := vSlice_ok hq
  exact ⟨y3b, y3n, y3c, ⟨e2, hd⟩, q4⟩
def Q0 (Kn : T0) (Kr : T0) : XPost
  | .normal, g, h => D0 Kn g h
  | .ret, g, h => D0 Kr g h
  | _, _, _ => False
abbrev T1 := (Option Addr) → Nat → Nat → H → Prop
def E1 (g : Env) (x0b : Option Addr) (x0n : Nat) (x0c : Nat) : Prop := g.v 0 = (.slice x0b x0n x0c) ∧ g.ds = []
def D1 (K : T1) (g : Env) (h : H) : Prop := nilDs g.ds (vSlice (g.v 0) fun s5b s5n s5c => K s5b s5n s5c h)
theorem D1_ok {K : T1} {g : Env} {h : H} (hq : D1 K g h) : ∃ (x0b : Option Addr) (x0n : Nat) (x0c : Nat), E1 g x0b x0n x0c ∧ K x0b x0n x0c h := by
  obtain ⟨hd, hq⟩ := nilDs_ok hq
  obtain ⟨y7b, y7n, y7c, e6, q8⟩ := vSlice_ok hq
  exact ⟨y7b, y7n, y7c, ⟨e6, hd⟩, q8⟩
abbrev n1 (x0b : Option Addr) (x0n : Nat) (x0c : Nat) (Kn : T0) (Kr : T0) (h : H) : Prop :=
  HCalls Try.prog 22 ⟨[(.slice x0b x0n x0c)]⟩ h fun v9 h10 => vInt .i64 v9 fun i11 => Spl (i11 > (0 : Int)) (Rng .i64 (i11 - (1 : Int)) ∧ ((0 ≤ (0 : Int) ∧ (0 : Int) ≤ (i11 - (1 : Int)) ∧ (i11 - (1 : Int)) ≤ (x0c : Int)) ∧ (HCalls Try.prog 24 ⟨[(.slice (if x0c = Int.toNat (0 : Int) then x0b else Option.map (fun q => q.add (Int.toNat (0 : Int) * 3)) x0b) (Int.toNat (i11 - (1 : Int)) - Int.toNat (0 : Int)) (x0c - Int.toNat (0 : Int)))]⟩ h10 fun v12 h13 => vSlice v12 fun s14b s14n s14c => Kr s14b s14n s14c h13))) (Kr none 0 0 h10)
theorem n1_ok (x0b : Option Addr) (x0n : Nat) (x0c : Nat) (Kn : T0) (Kr : T0) (g : Env) (hg : E1 g x0b x0n x0c) (h : H) (hS : n1 x0b x0n x0c Kn Kr h) : wpC none Try.prog 13 code (Q0 Kn Kr) g h := by
  obtain ⟨hg0, hds⟩ := hg
  refine wpC_of_wpx (by kernel_rfl) (by kernel_rfl) (g' := (⟨g.v, []⟩ : Env).upd (some 0) (.slice x0b x0n x0c)) (by rw [env_ds hds, upd_self hg0]) ?_
  have e : (n1 x0b x0n x0c Kn Kr h) = wpx none Try.prog 13 code (Q0 Kn Kr) ((⟨g.v, []⟩ : Env).upd (some 0) (.slice x0b x0n x0c)) h := by kernel_rfl
  exact e ▸ hS
/-- WHAT tympan/marks.Clear ASKS -/
abbrev asks (x0b : Option Addr) (x0n : Nat) (x0c : Nat) (K : Value → H → Prop) (h : H) : Prop := n1 x0b x0n x0c (fun y2b y2n y2c h => K (.slice y2b y2n y2c) h) (fun y2b y2n y2c h => K (.slice y2b y2n y2c) h) h
theorem ok (x0b : Option Addr) (x0n : Nat) (x0c : Nat) (K : Value → H → Prop) (h : H) (hS : asks x0b x0n x0c K h) : HCalls Try.prog 13 ⟨[(.slice x0b x0n x0c)]⟩ h K := by
  refine calls_of_wpC (c := code) Try.func13 (by kernel_rfl) (Nat.le_of_ble_eq_true (by kernel_rfl)) ?_
  refine (n1_ok x0b x0n x0c (fun y2b y2n y2c h => K (.slice y2b y2n y2c) h) (fun y2b y2n y2c h => K (.slice y2b y2n y2c) h) (env0 [(.slice x0b x0n x0c)]) ⟨rfl, rfl⟩ h hS).mono ?_
  intro e g' h' hq
  cases e with
  | normal =>
    have hq : D0 (fun y2b y2n y2c h => K (.slice y2b y2n y2c) h) g' h' := hq
    obtain ⟨y2b, y2n, y2c, ⟨hg2, hd⟩, hq⟩ := D0_ok hq
    show leaveX g'.ds h' _
    rw [hd]
    show K (g'.v 2) h'
    rw [hg2]
    exact hq
  | ret =>
    have hq : D0 (fun y2b y2n y2c h => K (.slice y2b y2n y2c) h) g' h' := hq
    obtain ⟨y2b, y2n, y2c, ⟨hg2, hd⟩, hq⟩ := D0_ok hq
    show leaveX g'.ds h' _
    rw [hd]
    show K (g'.v 2) h'
    rw [hg2]
    exact hq
  | _ => exact hq
end Sx.marks_Clear

/-! ### tympan/tympanref12.Clear -/
namespace Sx.r12_Clear
noncomputable def code : Code := bodyOf Try.f14
abbrev T0 := (Option Addr) → Nat → Nat → H → Prop
def E0 (g : Env) (x2b : Option Addr) (x2n : Nat) (x2c : Nat) : Prop := g.v 2 = (.slice x2b x2n x2c) ∧ g.ds = []
def D0 (K : T0) (g : Env) (h : H) : Prop := nilDs g.ds (vSlice (g.v 2) fun s1b s1n s1c => K s1b s1n s1c h)
theorem D0_ok {K : T0} {g : Env} {h : H} (hq : D0 K g h) : ∃ (x2b : Option Addr) (x2n : Nat) (x2c : Nat), E0 g x2b x2n x2c ∧ K x2b x2n x2c h := by
  obtain ⟨hd, hq⟩ := nilDs_ok hq
  obtain ⟨y3b, y3n, y3c, e2, q4⟩ := vSlice_ok hq
  exact ⟨y3b, y3n, y3c, ⟨e2, hd⟩, q4⟩
def Q0 (Kn : T0) (Kr : T0) : XPost
  | .normal, g, h => D0 Kn g h
  | .ret, g, h => D0 Kr g h
  | _, _, _ => False
abbrev T1 := (Option Addr) → Nat → Nat → H → Prop
def E1 (g : Env) (x0b : Option Addr) (x0n : Nat) (x0c : Nat) : Prop := g.v 0 = (.slice x0b x0n x0c) ∧ g.ds = []
def D1 (K : T1) (g : Env) (h : H) : Prop := nilDs g.ds (vSlice (g.v 0) fun s5b s5n s5c => K s5b s5n s5c h)
theorem D1_ok {K : T1} {g : Env} {h : H} (hq : D1 K g h) : ∃ (x0b : Option Addr) (x0n : Nat) (x0c : Nat), E1 g x0b x0n x0c ∧ K x0b x0n x0c h := by
  obtain ⟨hd, hq⟩ := nilDs_ok hq
  obtain ⟨y7b, y7n, y7c, e6, q8⟩ := vSlice_ok hq
  exact ⟨y7b, y7n, y7c, ⟨e6, hd⟩, q8⟩
abbrev n1 (x0b : Option Addr) (x0n : Nat) (x0c : Nat) (Kn : T0) (Kr : T0) (h : H) : Prop :=
  HCalls Try.prog 26 ⟨[(.slice x0b x0n x0c)]⟩ h fun v9 h10 => vInt .i64 v9 fun i11 => Spl (i11 = (0 : Int)) (Kr none 0 0 h10) (Rng .i64 (i11 - (1 : Int)) ∧ ((0 ≤ (0 : Int) ∧ (0 : Int) ≤ (i11 - (1 : Int)) ∧ (i11 - (1 : Int)) ≤ (x0c : Int)) ∧ (SemH Try.prog (Builtin.append_ #[22, 22] 22 ⟨[(.slice none 0 0), (.slice (if x0c = Int.toNat (0 : Int) then x0b else Option.map (fun q => q.add (Int.toNat (0 : Int) * 3)) x0b) (Int.toNat (i11 - (1 : Int)) - Int.toNat (0 : Int)) (x0c - Int.toNat (0 : Int)))]⟩) h10 fun v12 h13 => vSlice v12 fun s14b s14n s14c => Kr s14b s14n s14c h13)))
theorem n1_ok (x0b : Option Addr) (x0n : Nat) (x0c : Nat) (Kn : T0) (Kr : T0) (g : Env) (hg : E1 g x0b x0n x0c) (h : H) (hS : n1 x0b x0n x0c Kn Kr h) : wpC none Try.prog 16 code (Q0 Kn Kr) g h := by
  obtain ⟨hg0, hds⟩ := hg
  refine wpC_of_wpx (by kernel_rfl) (by kernel_rfl) (g' := (⟨g.v, []⟩ : Env).upd (some 0) (.slice x0b x0n x0c)) (by rw [env_ds hds, upd_self hg0]) ?_
  have e : (n1 x0b x0n x0c Kn Kr h) = wpx none Try.prog 16 code (Q0 Kn Kr) ((⟨g.v, []⟩ : Env).upd (some 0) (.slice x0b x0n x0c)) h := by kernel_rfl
  exact e ▸ hS
/-- WHAT tympan/tympanref12.Clear ASKS -/
abbrev asks (x0b : Option Addr) (x0n : Nat) (x0c : Nat) (K : Value → H → Prop) (h : H) : Prop := n1 x0b x0n x0c (fun y2b y2n y2c h => K (.slice y2b y2n y2c) h) (fun y2b y2n y2c h => K (.slice y2b y2n y2c) h) h
theorem ok (x0b : Option Addr) (x0n : Nat) (x0c : Nat) (K : Value → H → Prop) (h : H) (hS : asks x0b x0n x0c K h) : HCalls Try.prog 14 ⟨[(.slice x0b x0n x0c)]⟩ h K := by
  refine calls_of_wpC (c := code) Try.func14 (by kernel_rfl) (Nat.le_of_ble_eq_true (by kernel_rfl)) ?_
  refine (n1_ok x0b x0n x0c (fun y2b y2n y2c h => K (.slice y2b y2n y2c) h) (fun y2b y2n y2c h => K (.slice y2b y2n y2c) h) (env0 [(.slice x0b x0n x0c)]) ⟨rfl, rfl⟩ h hS).mono ?_
  intro e g' h' hq
  cases e with
  | normal =>
    have hq : D0 (fun y2b y2n y2c h => K (.slice y2b y2n y2c) h) g' h' := hq
    obtain ⟨y2b, y2n, y2c, ⟨hg2, hd⟩, hq⟩ := D0_ok hq
    show leaveX g'.ds h' _
    rw [hd]
    show K (g'.v 2) h'
    rw [hg2]
    exact hq
  | ret =>
    have hq : D0 (fun y2b y2n y2c h => K (.slice y2b y2n y2c) h) g' h' := hq
    obtain ⟨y2b, y2n, y2c, ⟨hg2, hd⟩, hq⟩ := D0_ok hq
    show leaveX g'.ds h' _
    rw [hd]
    show K (g'.v 2) h'
    rw [hg2]
    exact hq
  | _ => exact hq
end Sx.r12_Clear

/-! ### tympan/marks.Last -/
namespace Sx.marks_Last
noncomputable def code : Code := bodyOf Try.f15
abbrev T0 := Addr → (List Deferred) → H → Prop
def E0 (g : Env) (x4 : Addr) (ds : List Deferred) : Prop := g.v 4 = (.pointer (some x4)) ∧ g.ds = ds
def D0 (K : T0) (g : Env) (h : H) : Prop := vAddr (g.v 4) fun a1 => K a1 g.ds h
theorem D0_ok {K : T0} {g : Env} {h : H} (hq : D0 K g h) : ∃ (x4 : Addr) (ds : List Deferred), E0 g x4 ds ∧ K x4 ds h := by
  obtain ⟨y3, e2, q4⟩ := vAddr_ok hq
  exact ⟨y3, g.ds, ⟨e2, rfl⟩, q4⟩
theorem D0_mk {K : T0} {g : Env} {h : H} {x4 : Addr} {ds : List Deferred} (hg : E0 g x4 ds) (hk : K x4 ds h) : D0 K g h := by
  obtain ⟨hg4, hds⟩ := hg
  unfold D0
  rw [hg4, hds]
  exact hk
def Q0 (Kn : T0) (Kr : T0) : XPost
  | .normal, g, h => D0 Kn g h
  | .ret, g, h => D0 Kr g h
  | _, _, _ => False
abbrev T1 := (Option Addr) → Nat → Nat → (List UInt8) → (List Deferred) → H → Prop
def E1 (g : Env) (x0b : Option Addr) (x0n : Nat) (x0c : Nat) (x1 : List UInt8) (ds : List Deferred) : Prop := g.v 0 = (.slice x0b x0n x0c) ∧ g.v 1 = (S x1) ∧ g.ds = ds
def D1 (K : T1) (g : Env) (h : H) : Prop := vSlice (g.v 0) fun s5b s5n s5c => vStr (g.v 1) fun s6 => K s5b s5n s5c s6 g.ds h
theorem D1_ok {K : T1} {g : Env} {h : H} (hq : D1 K g h) : ∃ (x0b : Option Addr) (x0n : Nat) (x0c : Nat) (x1 : List UInt8) (ds : List Deferred), E1 g x0b x0n x0c x1 ds ∧ K x0b x0n x0c x1 ds h := by
  obtain ⟨y8b, y8n, y8c, e7, q9⟩ := vSlice_ok hq
  obtain ⟨y11, e10, q12⟩ := vStr_ok q9
  exact ⟨y8b, y8n, y8c, y11, g.ds, ⟨e7, e10, rfl⟩, q12⟩
theorem D1_mk {K : T1} {g : Env} {h : H} {x0b : Option Addr} {x0n : Nat} {x0c : Nat} {x1 : List UInt8} {ds : List Deferred} (hg : E1 g x0b x0n x0c x1 ds) (hk : K x0b x0n x0c x1 ds h) : D1 K g h := by
  obtain ⟨hg0, hg1, hds⟩ := hg
  unfold D1
  rw [hg0, hg1, hds]
  exact hk
noncomputable def n1_c1 : Code := cFst code
noncomputable def n1_c2 : Code := cSnd code
abbrev T2 := (Option Addr) → Nat → Nat → Addr → Addr → (List Deferred) → H → Prop
def E2 (g : Env) (x0b : Option Addr) (x0n : Nat) (x0c : Nat) (x3 : Addr) (x4 : Addr) (ds : List Deferred) : Prop := g.v 0 = (.slice x0b x0n x0c) ∧ g.v 3 = (.pointer (some x3)) ∧ g.v 4 = (.pointer (some x4)) ∧ g.ds = ds
def D2 (K : T2) (g : Env) (h : H) : Prop := vSlice (g.v 0) fun s13b s13n s13c => vAddr (g.v 3) fun a14 => vAddr (g.v 4) fun a15 => K s13b s13n s13c a14 a15 g.ds h
theorem D2_ok {K : T2} {g : Env} {h : H} (hq : D2 K g h) : ∃ (x0b : Option Addr) (x0n : Nat) (x0c : Nat) (x3 : Addr) (x4 : Addr) (ds : List Deferred), E2 g x0b x0n x0c x3 x4 ds ∧ K x0b x0n x0c x3 x4 ds h := by
  obtain ⟨y17b, y17n, y17c, e16, q18⟩ := vSlice_ok hq
  obtain ⟨y20, e19, q21⟩ := vAddr_ok q18
  obtain ⟨y23, e22, q24⟩ := vAddr_ok q21
  exact ⟨y17b, y17n, y17c, y20, y23, g.ds, ⟨e16, e19, e22, rfl⟩, q24⟩
theorem D2_mk {K : T2} {g : Env} {h : H} {x0b : Option Addr} {x0n : Nat} {x0c : Nat} {x3 : Addr} {x4 : Addr} {ds : List Deferred} (hg : E2 g x0b x0n x0c x3 x4 ds) (hk : K x0b x0n x0c x3 x4 ds h) : D2 K g h := by
  obtain ⟨hg0, hg3, hg4, hds⟩ := hg
  unfold D2
  rw [hg0, hg3, hg4, hds]
  exact hk
noncomputable def n2_c1 : Code := cFst n1_c2
noncomputable def n3_c1 : Code := cFst n2_c1
noncomputable def n3_c2 : Code := cSnd n2_c1
noncomputable def n4_c1 : Code := cFst n3_c2
noncomputable def n4_c2 : Code := cSnd n3_c2
abbrev n5 (x4 : Addr) (ds : List Deferred) (Kn : T0) (Kr : T0) (h : H) : Prop :=
  stL x4 [(.int .i64 (-1 : Int))] 0 h fun h25 => Kr x4 ds h25
theorem n5_ok (x4 : Addr) (ds : List Deferred) (Kn : T0) (Kr : T0) (g : Env) (hg : E0 g x4 ds) (h : H) (hS : n5 x4 ds Kn Kr h) : wpC none Try.prog 21 n4_c2 (Q0 Kn Kr) g h := by
  obtain ⟨hg4, hds⟩ := hg
  refine wpC_of_wpx (by kernel_rfl) (by kernel_rfl) (g' := (⟨g.v, ds⟩ : Env).upd (some 4) (.pointer (some x4))) (by rw [env_ds hds, upd_self hg4]) ?_
  have e : (n5 x4 ds Kn Kr h) = wpx none Try.prog 21 n4_c2 (Q0 Kn Kr) ((⟨g.v, ds⟩ : Env).upd (some 4) (.pointer (some x4))) h := by kernel_rfl
  exact e ▸ hS
noncomputable def n6_c1 : Code := cFst n4_c1
noncomputable def n6_c2 : Code := cSnd n4_c1
abbrev T3 := Addr → Addr → Value → (List Deferred) → H → Prop
def E3 (g : Env) (x3 : Addr) (x4 : Addr) (x8 : Value) (ds : List Deferred) : Prop := g.v 3 = (.pointer (some x3)) ∧ g.v 4 = (.pointer (some x4)) ∧ g.v 8 = x8 ∧ g.ds = ds
def D3 (K : T3) (g : Env) (h : H) : Prop := vAddr (g.v 3) fun a26 => vAddr (g.v 4) fun a27 => K a26 a27 (g.v 8) g.ds h
theorem D3_ok {K : T3} {g : Env} {h : H} (hq : D3 K g h) : ∃ (x3 : Addr) (x4 : Addr) (x8 : Value) (ds : List Deferred), E3 g x3 x4 x8 ds ∧ K x3 x4 x8 ds h := by
  obtain ⟨y29, e28, q30⟩ := vAddr_ok hq
  obtain ⟨y32, e31, q33⟩ := vAddr_ok q30
  exact ⟨y29, y32, (g.v 8), g.ds, ⟨e28, e31, rfl, rfl⟩, q33⟩
theorem D3_mk {K : T3} {g : Env} {h : H} {x3 : Addr} {x4 : Addr} {x8 : Value} {ds : List Deferred} (hg : E3 g x3 x4 x8 ds) (hk : K x3 x4 x8 ds h) : D3 K g h := by
  obtain ⟨hg3, hg4, hg8, hds⟩ := hg
  unfold D3
  rw [hg3, hg4, hg8, hds]
  exact hk
noncomputable def n7_c1 : Code := cFst n6_c2
def Q1 (Kn : T0) (Ke0 : T0) (Kr : T0) : XPost
  | .normal, g, h => D0 Kn g h
  | .ret, g, h => D0 Kr g h
  | .exit id, g, h => cond (Nat.beq id 0) (D0 Ke0 g h) (False)
  | _, _, _ => False
noncomputable def n8_c1 : Code := cFst n7_c1
noncomputable def n8_c2 : Code := cSnd n7_c1
def n8_rd (x3 : Addr) (x4 : Addr) (x8 : Value) (ds : List Deferred) (Kn : T0) (Ke0 : T0) (Kr : T0) (h : H) (p9 : Int) (p10_0 : Int) (p10_1 : List UInt8) (p10_2b : Option Addr) (p10_2n : Nat) (p10_2c : Nat) (Mid : H → (H → Prop) → Prop) (Kc : H → H → Prop) (Fin : H → H → (H → Prop) → Prop) (h1 : H) : Prop :=
  newx h1 ⟨[(.int .i64 (0 : Int)), (S ([] : List UInt8)), (.slice none 0 0)]⟩ 25 fun a34 h35 => stL a34 [(.int .i64 p10_0), (S p10_1), (.slice p10_2b p10_2n p10_2c)] 0 h35 fun h36 => Mid h36 fun hb37 => ∃ i38, cell hb37 (a34.add 0) = some (.int .i64 i38) ∧ (Spl (i38 < (0 : Int)) (Fin hb37 hb37 fun h39 => Ke0 x4 (markD h.size :: ds) h39) (∃ s40, cell hb37 (a34.add 1) = some (S s40) ∧ (∃ s41, cell hb37 x3 = some (S s41) ∧ (Spl (s40 = s41) (stL x4 [(.int .i64 p9)] 0 hb37 fun h42 => Fin hb37 h42 fun h43 => Kr x4 (markD h.size :: ds) h43) (Kc hb37 hb37)))))
abbrev n8 (x3 : Addr) (x4 : Addr) (x8 : Value) (ds : List Deferred) (Kn : T0) (Ke0 : T0) (Kr : T0) (h : H) : Prop := Ranges Try.prog x8 2 h (fun l44 Mid Kc Fin h1 => uncons l44 fun e45 l46 => vInt .i64 e45 fun i47 => uncons l46 fun e48 l49 => vAgg e48 fun l50 => uncons l50 fun e51 l52 => vInt .i64 e51 fun i53 => uncons l52 fun e54 l55 => vStr e54 fun s56 => uncons l55 fun e57 l58 => vSlice e57 fun s59b s59n s59c => unnil l58 (unnil l49 (n8_rd x3 x4 x8 ds Kn Ke0 Kr h i47 i53 s56 s59b s59n s59c Mid Kc Fin h1))) (fun h4 => Kn x4 (markD h.size :: ds) h4)
theorem n8_ok (x3 : Addr) (x4 : Addr) (x8 : Value) (ds : List Deferred) (Kn : T0) (Ke0 : T0) (Kr : T0) (g : Env) (hg : E3 g x3 x4 x8 ds) (h : H) (hS : n8 x3 x4 x8 ds Kn Ke0 Kr h) : wpC none Try.prog 21 n7_c1 (Q1 Kn Ke0 Kr) g h := by
  obtain ⟨hg3, hg4, hg8, hds⟩ := hg
  subst hds
  have ho : ((((⟨g.v, g.ds⟩ : Env).upd (some 3) (.pointer (some x3))).upd (some 4) (.pointer (some x4))).upd (some 8) x8 : Env) = g := by rw [env_ds rfl, upd_self hg3, upd_self hg4, upd_self hg8]
  have hc : n7_c1 = .rangeFunc (.tmp 8) #[9, 10] n8_c1 n8_c2 := by kernel_rfl
  rw [hc]
  refine wpC_range (f := x8) (rd := (fun l44 Mid Kc Fin h1 => uncons l44 fun e45 l46 => vInt .i64 e45 fun i47 => uncons l46 fun e48 l49 => vAgg e48 fun l50 => uncons l50 fun e51 l52 => vInt .i64 e51 fun i53 => uncons l52 fun e54 l55 => vStr e54 fun s56 => uncons l55 fun e57 l58 => vSlice e57 fun s59b s59n s59c => unnil l58 (unnil l49 (n8_rd x3 x4 x8 g.ds Kn Ke0 Kr h i47 i53 s56 s59b s59n s59c Mid Kc Fin h1)))) (done := (fun h4 => Kn x4 (markD h.size :: g.ds) h4)) ?_ hS ?_ ?_
  · rw [← ho]; kernel_rfl
  · intro h4 hd
    have e : (Kn x4 (markD h.size :: g.ds) h4) = (Q1 Kn Ke0 Kr) .normal ⟨((((⟨g.v, g.ds⟩ : Env).upd (some 3) (.pointer (some x3))).upd (some 4) (.pointer (some x4))).upd (some 8) x8).v, markD h.size :: g.ds⟩ h4 := by kernel_rfl
    rw [ho] at e
    exact e ▸ hd
  · intro L x Mid Kc Fin h1 hM hx
    obtain ⟨u60, l61, rfl, q62⟩ := uncons_ok hx
    obtain ⟨y63, rfl, q64⟩ := vInt_ok q62
    obtain ⟨u65, l66, rfl, q67⟩ := uncons_ok q64
    obtain ⟨l68, rfl, q69⟩ := vAgg_ok q67
    obtain ⟨u70, l71, rfl, q72⟩ := uncons_ok q69
    obtain ⟨y73, rfl, q74⟩ := vInt_ok q72
    obtain ⟨u75, l76, rfl, q77⟩ := uncons_ok q74
    obtain ⟨y78, rfl, q79⟩ := vStr_ok q77
    obtain ⟨u80, l81, rfl, q82⟩ := uncons_ok q79
    obtain ⟨y83b, y83n, y83c, rfl, q84⟩ := vSlice_ok q82
    obtain ⟨rfl, q85⟩ := unnil_ok q84
    obtain ⟨rfl, q86⟩ := unnil_ok q85
    have e : (n8_rd x3 x4 x8 g.ds Kn Ke0 Kr h y63 y73 y78 y83b y83n y83c Mid Kc Fin h1) = wpx (some L) Try.prog 21 n8_c1 (thenX (fun g1 he => Mid he fun hb => wpx (some L) Try.prog 21 n8_c2 (rpost Kc Fin (Q1 Kn Ke0 Kr) ⟨((((⟨g.v, g.ds⟩ : Env).upd (some 3) (.pointer (some x3))).upd (some 4) (.pointer (some x4))).upd (some 8) x8).v, markD h.size :: g.ds⟩ hb) g1 hb) fun _ _ _ => False) (setps ((((⟨g.v, g.ds⟩ : Env).upd (some 3) (.pointer (some x3))).upd (some 4) (.pointer (some x4))).upd (some 8) x8) [9, 10] [(.int .i64 y63), (.agg ⟨[(.int .i64 y73), (S y78), (.slice y83b y83n y83c)]⟩)]) h1 := by kernel_rfl
    rw [ho] at e
    exact (wpx_ok (by kernel_rfl) _ _ _ _ (by kernel_rfl) (e ▸ q86)).mono (thenX_mono fun g1 he hm => hM he _ _ (fun hb => wpx_ok (by kernel_rfl) _ _ _ _ (by kernel_rfl)) hm)
abbrev n7 (x3 : Addr) (x4 : Addr) (x8 : Value) (ds : List Deferred) (Kn : T0) (Kr : T0) (h : H) : Prop := n8 x3 x4 x8 ds Kn Kn Kr h
theorem n7_ok (x3 : Addr) (x4 : Addr) (x8 : Value) (ds : List Deferred) (Kn : T0) (Kr : T0) (g : Env) (hg : E3 g x3 x4 x8 ds) (h : H) (hS : n7 x3 x4 x8 ds Kn Kr h) : wpC none Try.prog 21 n6_c2 (Q0 Kn Kr) g h := by
  refine wpC_block' (id := 0) (x := n7_c1) (by kernel_rfl) (n8_ok x3 x4 x8 ds Kn Kn Kr g hg h hS) ?_
  intro e g' h' hq
  cases e <;> exact hq
def Q2 (Kn : T3) (Kr : T0) : XPost
  | .normal, g, h => D3 Kn g h
  | .ret, g, h => D0 Kr g h
  | _, _, _ => False
abbrev n6 (x0b : Option Addr) (x0n : Nat) (x0c : Nat) (x3 : Addr) (x4 : Addr) (ds : List Deferred) (Kn : T0) (Kr : T0) (h : H) : Prop :=
  HCalls Try.prog 29 ⟨[(.slice x0b x0n x0c)]⟩ h fun v87 h88 => n7 x3 x4 v87 ds Kn Kr h88
theorem n6_ok (x0b : Option Addr) (x0n : Nat) (x0c : Nat) (x3 : Addr) (x4 : Addr) (ds : List Deferred) (Kn : T0) (Kr : T0) (g : Env) (hg : E2 g x0b x0n x0c x3 x4 ds) (h : H) (hS : n6 x0b x0n x0c x3 x4 ds Kn Kr h) : wpC none Try.prog 21 n4_c1 (Q0 Kn Kr) g h := by
  obtain ⟨hg0, hg3, hg4, hds⟩ := hg
  refine wpC_seq' (x := n6_c1) (y := n6_c2) (Q' := (Q2 (fun z3 z4 z8 zds h => n7 z3 z4 z8 zds Kn Kr h) Kr)) (by kernel_rfl) ?_ ?_
  · refine wpC_of_wpx (by kernel_rfl) (by kernel_rfl) (g' := (((⟨g.v, ds⟩ : Env).upd (some 0) (.slice x0b x0n x0c)).upd (some 3) (.pointer (some x3))).upd (some 4) (.pointer (some x4))) (by rw [env_ds hds, upd_self hg0, upd_self hg3, upd_self hg4]) ?_
    have e : (n6 x0b x0n x0c x3 x4 ds Kn Kr h) = wpx none Try.prog 21 n6_c1 (Q2 (fun z3 z4 z8 zds h => n7 z3 z4 z8 zds Kn Kr h) Kr) ((((⟨g.v, ds⟩ : Env).upd (some 0) (.slice x0b x0n x0c)).upd (some 3) (.pointer (some x3))).upd (some 4) (.pointer (some x4))) h := by kernel_rfl
    exact e ▸ hS
  · intro e g' h' hq
    cases e with
    | normal =>
      have hq : D3 (fun z3 z4 z8 zds h => n7 z3 z4 z8 zds Kn Kr h) g' h' := hq
      obtain ⟨y3, y4, y8, yds, hg', hq⟩ := D3_ok hq
      exact n7_ok y3 y4 y8 yds Kn Kr g' hg' h' hq
    | _ => exact hq
abbrev n4 (x0b : Option Addr) (x0n : Nat) (x0c : Nat) (x3 : Addr) (x4 : Addr) (ds : List Deferred) (Kn : T0) (Kr : T0) (h : H) : Prop := n6 x0b x0n x0c x3 x4 ds (fun z4 zds h => n5 z4 zds Kn Kr h) Kr h
theorem n4_ok (x0b : Option Addr) (x0n : Nat) (x0c : Nat) (x3 : Addr) (x4 : Addr) (ds : List Deferred) (Kn : T0) (Kr : T0) (g : Env) (hg : E2 g x0b x0n x0c x3 x4 ds) (h : H) (hS : n4 x0b x0n x0c x3 x4 ds Kn Kr h) : wpC none Try.prog 21 n3_c2 (Q0 Kn Kr) g h := by
  refine wpC_seq' (x := n4_c1) (y := n4_c2) (by kernel_rfl) (n6_ok x0b x0n x0c x3 x4 ds (fun z4 zds h => n5 z4 zds Kn Kr h) Kr g hg h hS) ?_
  intro e g' h' hq
  cases e with
  | normal =>
    have hq : D0 (fun z4 zds h => n5 z4 zds Kn Kr h) g' h' := hq
    obtain ⟨y4, yds, hg', hq⟩ := D0_ok hq
    exact n5_ok y4 yds Kn Kr g' hg' h' hq
  | _ => exact hq
def Q3 (Kn : T2) (Kr : T0) : XPost
  | .normal, g, h => D2 Kn g h
  | .ret, g, h => D0 Kr g h
  | _, _, _ => False
abbrev n3 (x0b : Option Addr) (x0n : Nat) (x0c : Nat) (x3 : Addr) (x4 : Addr) (ds : List Deferred) (Kn : T0) (Kr : T0) (h : H) : Prop :=
  n4 x0b x0n x0c x3 x4 ds Kn Kr h
theorem n3_ok (x0b : Option Addr) (x0n : Nat) (x0c : Nat) (x3 : Addr) (x4 : Addr) (ds : List Deferred) (Kn : T0) (Kr : T0) (g : Env) (hg : E2 g x0b x0n x0c x3 x4 ds) (h : H) (hS : n3 x0b x0n x0c x3 x4 ds Kn Kr h) : wpC none Try.prog 21 n2_c1 (Q0 Kn Kr) g h := by
  obtain ⟨hg0, hg3, hg4, hds⟩ := hg
  refine wpC_seq' (x := n3_c1) (y := n3_c2) (Q' := (Q3 (fun z0b z0n z0c z3 z4 zds h => n4 z0b z0n z0c z3 z4 zds Kn Kr h) Kr)) (by kernel_rfl) ?_ ?_
  · refine wpC_of_wpx (by kernel_rfl) (by kernel_rfl) (g' := (((⟨g.v, ds⟩ : Env).upd (some 0) (.slice x0b x0n x0c)).upd (some 3) (.pointer (some x3))).upd (some 4) (.pointer (some x4))) (by rw [env_ds hds, upd_self hg0, upd_self hg3, upd_self hg4]) ?_
    have e : (n3 x0b x0n x0c x3 x4 ds Kn Kr h) = wpx none Try.prog 21 n3_c1 (Q3 (fun z0b z0n z0c z3 z4 zds h => n4 z0b z0n z0c z3 z4 zds Kn Kr h) Kr) ((((⟨g.v, ds⟩ : Env).upd (some 0) (.slice x0b x0n x0c)).upd (some 3) (.pointer (some x3))).upd (some 4) (.pointer (some x4))) h := by kernel_rfl
    exact e ▸ hS
  · intro e g' h' hq
    cases e with
    | normal =>
      have hq : D2 (fun z0b z0n z0c z3 z4 zds h => n4 z0b z0n z0c z3 z4 zds Kn Kr h) g' h' := hq
      obtain ⟨y0b, y0n, y0c, y3, y4, yds, hg', hq⟩ := D2_ok hq
      exact n4_ok y0b y0n y0c y3 y4 yds Kn Kr g' hg' h' hq
    | _ => exact hq
abbrev n2 (x0b : Option Addr) (x0n : Nat) (x0c : Nat) (x3 : Addr) (x4 : Addr) (ds : List Deferred) (Kn : T0) (Kr : T0) (h : H) : Prop := n3 x0b x0n x0c x3 x4 ds Kn Kr h
theorem n2_ok (x0b : Option Addr) (x0n : Nat) (x0c : Nat) (x3 : Addr) (x4 : Addr) (ds : List Deferred) (Kn : T0) (Kr : T0) (g : Env) (hg : E2 g x0b x0n x0c x3 x4 ds) (h : H) (hS : n2 x0b x0n x0c x3 x4 ds Kn Kr h) : wpC none Try.prog 21 n1_c2 (Q0 Kn Kr) g h := by
  refine wpC_scope (body := n2_c1) (by kernel_rfl) (fun _ _ _ _ => False) (fun _ _ _ h => h) (fun _ _ _ _ h => h.elim) 0 ((n3_ok x0b x0n x0c x3 x4 ds Kn Kr g hg h hS).mono ?_)
  intro e g' h' hq
  cases e <;> exact hq
abbrev n1 (x0b : Option Addr) (x0n : Nat) (x0c : Nat) (x1 : List UInt8) (ds : List Deferred) (Kn : T0) (Kr : T0) (h : H) : Prop :=
  newx h #[(S x1)] 9 fun a89 h90 => newx h90 #[(.int .i64 (0 : Int))] 3 fun a91 h92 => n2 x0b x0n x0c a89 a91 ds Kn Kr h92
theorem n1_ok (x0b : Option Addr) (x0n : Nat) (x0c : Nat) (x1 : List UInt8) (ds : List Deferred) (Kn : T0) (Kr : T0) (g : Env) (hg : E1 g x0b x0n x0c x1 ds) (h : H) (hS : n1 x0b x0n x0c x1 ds Kn Kr h) : wpC none Try.prog 21 code (Q0 Kn Kr) g h := by
  obtain ⟨hg0, hg1, hds⟩ := hg
  refine wpC_seq' (x := n1_c1) (y := n1_c2) (Q' := (Q3 (fun z0b z0n z0c z3 z4 zds h => n2 z0b z0n z0c z3 z4 zds Kn Kr h) Kr)) (by kernel_rfl) ?_ ?_
  · refine wpC_of_wpx (by kernel_rfl) (by kernel_rfl) (g' := ((⟨g.v, ds⟩ : Env).upd (some 0) (.slice x0b x0n x0c)).upd (some 1) (S x1)) (by rw [env_ds hds, upd_self hg0, upd_self hg1]) ?_
    have e : (n1 x0b x0n x0c x1 ds Kn Kr h) = wpx none Try.prog 21 n1_c1 (Q3 (fun z0b z0n z0c z3 z4 zds h => n2 z0b z0n z0c z3 z4 zds Kn Kr h) Kr) (((⟨g.v, ds⟩ : Env).upd (some 0) (.slice x0b x0n x0c)).upd (some 1) (S x1)) h := by kernel_rfl
    exact e ▸ hS
  · intro e g' h' hq
    cases e with
    | normal =>
      have hq : D2 (fun z0b z0n z0c z3 z4 zds h => n2 z0b z0n z0c z3 z4 zds Kn Kr h) g' h' := hq
      obtain ⟨y0b, y0n, y0c, y3, y4, yds, hg', hq⟩ := D2_ok hq
      exact n2_ok y0b y0n y0c y3 y4 yds Kn Kr g' hg' h' hq
    | _ => exact hq
/-- WHAT tympan/marks.Last ASKS -/
abbrev asks (x0b : Option Addr) (x0n : Nat) (x0c : Nat) (x1 : List UInt8) (K : Value → H → Prop) (h : H) : Prop := n1 x0b x0n x0c x1 [] (fun y4 ds h => leaveX ds h fun h => ∃ i93, cell h y4 = some (.int .i64 i93) ∧ (K (.int .i64 i93) h)) (fun y4 ds h => leaveX ds h fun h => ∃ i93, cell h y4 = some (.int .i64 i93) ∧ (K (.int .i64 i93) h)) h
theorem ok (x0b : Option Addr) (x0n : Nat) (x0c : Nat) (x1 : List UInt8) (K : Value → H → Prop) (h : H) (hS : asks x0b x0n x0c x1 K h) : HCalls Try.prog 15 ⟨[(.slice x0b x0n x0c), (S x1)]⟩ h K := by
  refine calls_of_wpC (c := code) Try.func15 (by kernel_rfl) (Nat.le_of_ble_eq_true (by kernel_rfl)) ?_
  refine (n1_ok x0b x0n x0c x1 [] (fun y4 ds h => leaveX ds h fun h => ∃ i93, cell h y4 = some (.int .i64 i93) ∧ (K (.int .i64 i93) h)) (fun y4 ds h => leaveX ds h fun h => ∃ i93, cell h y4 = some (.int .i64 i93) ∧ (K (.int .i64 i93) h)) (env0 [(.slice x0b x0n x0c), (S x1)]) ⟨rfl, rfl, rfl⟩ h hS).mono ?_
  intro e g' h' hq
  cases e with
  | normal =>
    have hq : D0 (fun y4 ds h => leaveX ds h fun h => ∃ i93, cell h y4 = some (.int .i64 i93) ∧ (K (.int .i64 i93) h)) g' h' := hq
    obtain ⟨y4, ds, ⟨hg4, hd⟩, hq⟩ := D0_ok hq
    show leaveX g'.ds h' _
    rw [hd]
    show leaveX ds h' fun h => vAddr (g'.v 4) fun a94 => ldx Try.prog 3 a94 h fun v95 => K v95 h
    rw [hg4]
    exact hq
  | ret =>
    have hq : D0 (fun y4 ds h => leaveX ds h fun h => ∃ i93, cell h y4 = some (.int .i64 i93) ∧ (K (.int .i64 i93) h)) g' h' := hq
    obtain ⟨y4, ds, ⟨hg4, hd⟩, hq⟩ := D0_ok hq
    show leaveX g'.ds h' _
    rw [hd]
    show leaveX ds h' fun h => vAddr (g'.v 4) fun a94 => ldx Try.prog 3 a94 h fun v95 => K v95 h
    rw [hg4]
    exact hq
  | _ => exact hq
end Sx.marks_Last

/-! ### tympan/tympanref12.Last -/
namespace Sx.r12_Last
noncomputable def code : Code := bodyOf Try.f16
abbrev T0 := Int → H → Prop
def E0 (g : Env) (x4 : Int) : Prop := g.v 4 = (.int .i64 x4) ∧ g.ds = []
def D0 (K : T0) (g : Env) (h : H) : Prop := nilDs g.ds (vInt .i64 (g.v 4) fun i1 => K i1 h)
theorem D0_ok {K : T0} {g : Env} {h : H} (hq : D0 K g h) : ∃ (x4 : Int), E0 g x4 ∧ K x4 h := by
  obtain ⟨hd, hq⟩ := nilDs_ok hq
  obtain ⟨y3, e2, q4⟩ := vInt_ok hq
  exact ⟨y3, ⟨e2, hd⟩, q4⟩
def Q0 (Kn : T0) (Kr : T0) : XPost
  | .normal, g, h => D0 Kn g h
  | .ret, g, h => D0 Kr g h
  | _, _, _ => False
abbrev T1 := (Option Addr) → Nat → Nat → (List UInt8) → H → Prop
def E1 (g : Env) (x0b : Option Addr) (x0n : Nat) (x0c : Nat) (x1 : List UInt8) : Prop := g.v 0 = (.slice x0b x0n x0c) ∧ g.v 1 = (S x1) ∧ g.ds = []
def D1 (K : T1) (g : Env) (h : H) : Prop := nilDs g.ds (vSlice (g.v 0) fun s5b s5n s5c => vStr (g.v 1) fun s6 => K s5b s5n s5c s6 h)
theorem D1_ok {K : T1} {g : Env} {h : H} (hq : D1 K g h) : ∃ (x0b : Option Addr) (x0n : Nat) (x0c : Nat) (x1 : List UInt8), E1 g x0b x0n x0c x1 ∧ K x0b x0n x0c x1 h := by
  obtain ⟨hd, hq⟩ := nilDs_ok hq
  obtain ⟨y8b, y8n, y8c, e7, q9⟩ := vSlice_ok hq
  obtain ⟨y11, e10, q12⟩ := vStr_ok q9
  exact ⟨y8b, y8n, y8c, y11, ⟨e7, e10, hd⟩, q12⟩
noncomputable def n1_c1 : Code := cFst code
noncomputable def n1_c2 : Code := cSnd code
noncomputable def n2_c1 : Code := cFst n1_c2
noncomputable def n2_c2 : Code := cSnd n1_c2
abbrev T2 := H → Prop
def E2 (g : Env)  : Prop := g.ds = []
def D2 (K : T2) (g : Env) (h : H) : Prop := nilDs g.ds (K h)
theorem D2_ok {K : T2} {g : Env} {h : H} (hq : D2 K g h) : E2 g  ∧ K  h := by
  obtain ⟨hd, hq⟩ := nilDs_ok hq
  skip
  exact ⟨hd, hq⟩
abbrev n3  (Kn : T0) (Kr : T0) (h : H) : Prop :=
  Kr (-1 : Int) h
theorem n3_ok  (Kn : T0) (Kr : T0) (g : Env) (hg : E2 g ) (h : H) (hS : n3  Kn Kr h) : wpC none Try.prog 23 n2_c2 (Q0 Kn Kr) g h := by
  have hds : g.ds = [] := hg
  refine wpC_of_wpx (by kernel_rfl) (by kernel_rfl) (g' := ⟨g.v, []⟩) (by rw [env_ds hds]) ?_
  have e : (n3  Kn Kr h) = wpx none Try.prog 23 n2_c2 (Q0 Kn Kr) (⟨g.v, []⟩) h := by kernel_rfl
  exact e ▸ hS
def Q1 (Kn : T2) (Kr : T0) : XPost
  | .normal, g, h => D2 Kn g h
  | .ret, g, h => D0 Kr g h
  | _, _, _ => False
noncomputable def n4_c1 : Code := cFst n2_c1
noncomputable def n4_c2 : Code := cSnd n2_c1
abbrev T3 := (Option Addr) → Nat → Nat → (List UInt8) → Int → H → Prop
def E3 (g : Env) (x0b : Option Addr) (x0n : Nat) (x0c : Nat) (x1 : List UInt8) (x5 : Int) : Prop := g.v 0 = (.slice x0b x0n x0c) ∧ g.v 1 = (S x1) ∧ g.v 5 = (.int .i64 x5) ∧ g.ds = []
def D3 (K : T3) (g : Env) (h : H) : Prop := nilDs g.ds (vSlice (g.v 0) fun s13b s13n s13c => vStr (g.v 1) fun s14 => vInt .i64 (g.v 5) fun i15 => K s13b s13n s13c s14 i15 h)
theorem D3_ok {K : T3} {g : Env} {h : H} (hq : D3 K g h) : ∃ (x0b : Option Addr) (x0n : Nat) (x0c : Nat) (x1 : List UInt8) (x5 : Int), E3 g x0b x0n x0c x1 x5 ∧ K x0b x0n x0c x1 x5 h := by
  obtain ⟨hd, hq⟩ := nilDs_ok hq
  obtain ⟨y17b, y17n, y17c, e16, q18⟩ := vSlice_ok hq
  obtain ⟨y20, e19, q21⟩ := vStr_ok q18
  obtain ⟨y23, e22, q24⟩ := vInt_ok q21
  exact ⟨y17b, y17n, y17c, y20, y23, ⟨e16, e19, e22, hd⟩, q24⟩
noncomputable def n5_c1 : Code := cFst n4_c2
def Q2 (Kn : T2) (Ke0 : T2) (Kr : T0) : XPost
  | .normal, g, h => D2 Kn g h
  | .ret, g, h => D0 Kr g h
  | .exit id, g, h => cond (Nat.beq id 0) (D2 Ke0 g h) (False)
  | _, _, _ => False
noncomputable def n6_c1 : Code := cFst n5_c1
def Q3 (Kn : T3) (Ke0 : T2) (Kr : T0) : XPost
  | .normal, g, h => D3 Kn g h
  | .ret, g, h => D0 Kr g h
  | .exit id, g, h => cond (Nat.beq id 0) (D2 Ke0 g h) (False)
  | _, _, _ => False
def n6_L (Kn : T2) (Ke0 : T2) (Kr : T0) : Nat → (Option Addr) → Nat → Nat → (List UInt8) → Int → H → Prop
  | 0, _, _, _, _, _, _ => False
  | N + 1, x0b, x0n, x0c, x1, x5, h => HCalls Try.prog 26 ⟨[(.slice x0b x0n x0c)]⟩ h fun v25 h26 => vInt .i64 v25 fun i27 => Spl (x5 ≥ i27) ((0 ≤ x5 ∧ x5 < (x0n : Int)) ∧ (vSome x0b fun a28 => ∃ s29, cell h26 ((a28.add (Int.toNat x5 * 3)).add 1) = some (S s29) ∧ (Spl (s29 = x1) (Kr x5 h26) (Rng .i64 (x5 - (1 : Int)) ∧ (n6_L Kn Ke0 Kr N x0b x0n x0c x1 (x5 - (1 : Int)) h26))))) (Ke0 h26)
abbrev n6 (x0b : Option Addr) (x0n : Nat) (x0c : Nat) (x1 : List UInt8) (x5 : Int) (Kn : T2) (Ke0 : T2) (Kr : T0) (h : H) : Prop := ∃ N, n6_L Kn Ke0 Kr N x0b x0n x0c x1 x5 h
theorem n6_ok (x0b : Option Addr) (x0n : Nat) (x0c : Nat) (x1 : List UInt8) (x5 : Int) (Kn : T2) (Ke0 : T2) (Kr : T0) (g : Env) (hg : E3 g x0b x0n x0c x1 x5) (h : H) (hS : n6 x0b x0n x0c x1 x5 Kn Ke0 Kr h) : wpC none Try.prog 23 n5_c1 (Q2 Kn Ke0 Kr) g h := by
  obtain ⟨N0, hS⟩ := hS
  refine wpC_loop' (x := n6_c1) (by kernel_rfl) (fun k g h => ∃ (x0b : Option Addr) (x0n : Nat) (x0c : Nat) (x1 : List UInt8) (x5 : Int), E3 g x0b x0n x0c x1 x5 ∧ n6_L Kn Ke0 Kr k x0b x0n x0c x1 x5 h) (fun g h hr => ?_) (fun N g h hr => ?_) N0 ⟨x0b, x0n, x0c, x1, x5, hg, hS⟩
  · obtain ⟨x0b, x0n, x0c, x1, x5, hg, hS⟩ := hr
    exact hS.elim
  · obtain ⟨x0b, x0n, x0c, x1, x5, hg, hS⟩ := hr
    have hw : wpC none Try.prog 23 n6_c1 (Q3 (fun z0b z0n z0c z1 z5 h => n6_L Kn Ke0 Kr N z0b z0n z0c z1 z5 h) Ke0 Kr) g h := by
      obtain ⟨hg0, hg1, hg5, hds⟩ := hg
      refine wpC_of_wpx (by kernel_rfl) (by kernel_rfl) (g' := (((⟨g.v, []⟩ : Env).upd (some 0) (.slice x0b x0n x0c)).upd (some 1) (S x1)).upd (some 5) (.int .i64 x5)) (by rw [env_ds hds, upd_self hg0, upd_self hg1, upd_self hg5]) ?_
      have e : (n6_L Kn Ke0 Kr (N + 1) x0b x0n x0c x1 x5 h) = wpx none Try.prog 23 n6_c1 (Q3 (fun z0b z0n z0c z1 z5 h => n6_L Kn Ke0 Kr N z0b z0n z0c z1 z5 h) Ke0 Kr) ((((⟨g.v, []⟩ : Env).upd (some 0) (.slice x0b x0n x0c)).upd (some 1) (S x1)).upd (some 5) (.int .i64 x5)) h := by kernel_rfl
      exact e ▸ hS
    refine hw.mono ?_
    intro e g' h' hq
    cases e with
    | normal => exact D3_ok (K := (fun z0b z0n z0c z1 z5 h => n6_L Kn Ke0 Kr N z0b z0n z0c z1 z5 h)) hq
    | _ => exact hq
abbrev n5 (x0b : Option Addr) (x0n : Nat) (x0c : Nat) (x1 : List UInt8) (x5 : Int) (Kn : T2) (Kr : T0) (h : H) : Prop := n6 x0b x0n x0c x1 x5 Kn Kn Kr h
theorem n5_ok (x0b : Option Addr) (x0n : Nat) (x0c : Nat) (x1 : List UInt8) (x5 : Int) (Kn : T2) (Kr : T0) (g : Env) (hg : E3 g x0b x0n x0c x1 x5) (h : H) (hS : n5 x0b x0n x0c x1 x5 Kn Kr h) : wpC none Try.prog 23 n4_c2 (Q1 Kn Kr) g h := by
  refine wpC_block' (id := 0) (x := n5_c1) (by kernel_rfl) (n6_ok x0b x0n x0c x1 x5 Kn Kn Kr g hg h hS) ?_
  intro e g' h' hq
  cases e <;> exact hq
def Q4 (Kn : T3) (Kr : T0) : XPost
  | .normal, g, h => D3 Kn g h
  | .ret, g, h => D0 Kr g h
  | _, _, _ => False
abbrev n4 (x0b : Option Addr) (x0n : Nat) (x0c : Nat) (x1 : List UInt8) (Kn : T2) (Kr : T0) (h : H) : Prop :=
  Rng .i64 ((x0n : Int) - (1 : Int)) ∧ (n5 x0b x0n x0c x1 ((x0n : Int) - (1 : Int)) Kn Kr h)
theorem n4_ok (x0b : Option Addr) (x0n : Nat) (x0c : Nat) (x1 : List UInt8) (Kn : T2) (Kr : T0) (g : Env) (hg : E1 g x0b x0n x0c x1) (h : H) (hS : n4 x0b x0n x0c x1 Kn Kr h) : wpC none Try.prog 23 n2_c1 (Q1 Kn Kr) g h := by
  obtain ⟨hg0, hg1, hds⟩ := hg
  refine wpC_seq' (x := n4_c1) (y := n4_c2) (Q' := (Q4 (fun z0b z0n z0c z1 z5 h => n5 z0b z0n z0c z1 z5 Kn Kr h) Kr)) (by kernel_rfl) ?_ ?_
  · refine wpC_of_wpx (by kernel_rfl) (by kernel_rfl) (g' := ((⟨g.v, []⟩ : Env).upd (some 0) (.slice x0b x0n x0c)).upd (some 1) (S x1)) (by rw [env_ds hds, upd_self hg0, upd_self hg1]) ?_
    have e : (n4 x0b x0n x0c x1 Kn Kr h) = wpx none Try.prog 23 n4_c1 (Q4 (fun z0b z0n z0c z1 z5 h => n5 z0b z0n z0c z1 z5 Kn Kr h) Kr) (((⟨g.v, []⟩ : Env).upd (some 0) (.slice x0b x0n x0c)).upd (some 1) (S x1)) h := by kernel_rfl
    exact e ▸ hS
  · intro e g' h' hq
    cases e with
    | normal =>
      have hq : D3 (fun z0b z0n z0c z1 z5 h => n5 z0b z0n z0c z1 z5 Kn Kr h) g' h' := hq
      obtain ⟨y0b, y0n, y0c, y1, y5, hg', hq⟩ := D3_ok hq
      exact n5_ok y0b y0n y0c y1 y5 Kn Kr g' hg' h' hq
    | _ => exact hq
abbrev n2 (x0b : Option Addr) (x0n : Nat) (x0c : Nat) (x1 : List UInt8) (Kn : T0) (Kr : T0) (h : H) : Prop := n4 x0b x0n x0c x1 (fun  h => n3 Kn Kr h) Kr h
theorem n2_ok (x0b : Option Addr) (x0n : Nat) (x0c : Nat) (x1 : List UInt8) (Kn : T0) (Kr : T0) (g : Env) (hg : E1 g x0b x0n x0c x1) (h : H) (hS : n2 x0b x0n x0c x1 Kn Kr h) : wpC none Try.prog 23 n1_c2 (Q0 Kn Kr) g h := by
  refine wpC_seq' (x := n2_c1) (y := n2_c2) (by kernel_rfl) (n4_ok x0b x0n x0c x1 (fun  h => n3 Kn Kr h) Kr g hg h hS) ?_
  intro e g' h' hq
  cases e with
  | normal =>
    have hq : D2 (fun  h => n3 Kn Kr h) g' h' := hq
    obtain ⟨hg', hq⟩ := D2_ok hq
    exact n3_ok  Kn Kr g' hg' h' hq
  | _ => exact hq
def Q5 (Kn : T1) (Kr : T0) : XPost
  | .normal, g, h => D1 Kn g h
  | .ret, g, h => D0 Kr g h
  | _, _, _ => False
abbrev n1 (x0b : Option Addr) (x0n : Nat) (x0c : Nat) (x1 : List UInt8) (Kn : T0) (Kr : T0) (h : H) : Prop :=
  n2 x0b x0n x0c x1 Kn Kr h
theorem n1_ok (x0b : Option Addr) (x0n : Nat) (x0c : Nat) (x1 : List UInt8) (Kn : T0) (Kr : T0) (g : Env) (hg : E1 g x0b x0n x0c x1) (h : H) (hS : n1 x0b x0n x0c x1 Kn Kr h) : wpC none Try.prog 23 code (Q0 Kn Kr) g h := by
  obtain ⟨hg0, hg1, hds⟩ := hg
  refine wpC_seq' (x := n1_c1) (y := n1_c2) (Q' := (Q5 (fun z0b z0n z0c z1 h => n2 z0b z0n z0c z1 Kn Kr h) Kr)) (by kernel_rfl) ?_ ?_
  · refine wpC_of_wpx (by kernel_rfl) (by kernel_rfl) (g' := ((⟨g.v, []⟩ : Env).upd (some 0) (.slice x0b x0n x0c)).upd (some 1) (S x1)) (by rw [env_ds hds, upd_self hg0, upd_self hg1]) ?_
    have e : (n1 x0b x0n x0c x1 Kn Kr h) = wpx none Try.prog 23 n1_c1 (Q5 (fun z0b z0n z0c z1 h => n2 z0b z0n z0c z1 Kn Kr h) Kr) (((⟨g.v, []⟩ : Env).upd (some 0) (.slice x0b x0n x0c)).upd (some 1) (S x1)) h := by kernel_rfl
    exact e ▸ hS
  · intro e g' h' hq
    cases e with
    | normal =>
      have hq : D1 (fun z0b z0n z0c z1 h => n2 z0b z0n z0c z1 Kn Kr h) g' h' := hq
      obtain ⟨y0b, y0n, y0c, y1, hg', hq⟩ := D1_ok hq
      exact n2_ok y0b y0n y0c y1 Kn Kr g' hg' h' hq
    | _ => exact hq
/-- WHAT tympan/tympanref12.Last ASKS -/
abbrev asks (x0b : Option Addr) (x0n : Nat) (x0c : Nat) (x1 : List UInt8) (K : Value → H → Prop) (h : H) : Prop := n1 x0b x0n x0c x1 (fun y4 h => K (.int .i64 y4) h) (fun y4 h => K (.int .i64 y4) h) h
theorem ok (x0b : Option Addr) (x0n : Nat) (x0c : Nat) (x1 : List UInt8) (K : Value → H → Prop) (h : H) (hS : asks x0b x0n x0c x1 K h) : HCalls Try.prog 16 ⟨[(.slice x0b x0n x0c), (S x1)]⟩ h K := by
  refine calls_of_wpC (c := code) Try.func16 (by kernel_rfl) (Nat.le_of_ble_eq_true (by kernel_rfl)) ?_
  refine (n1_ok x0b x0n x0c x1 (fun y4 h => K (.int .i64 y4) h) (fun y4 h => K (.int .i64 y4) h) (env0 [(.slice x0b x0n x0c), (S x1)]) ⟨rfl, rfl, rfl⟩ h hS).mono ?_
  intro e g' h' hq
  cases e with
  | normal =>
    have hq : D0 (fun y4 h => K (.int .i64 y4) h) g' h' := hq
    obtain ⟨y4, ⟨hg4, hd⟩, hq⟩ := D0_ok hq
    show leaveX g'.ds h' _
    rw [hd]
    show K (g'.v 4) h'
    rw [hg4]
    exact hq
  | ret =>
    have hq : D0 (fun y4 h => K (.int .i64 y4) h) g' h' := hq
    obtain ⟨y4, ⟨hg4, hd⟩, hq⟩ := D0_ok hq
    show leaveX g'.ds h' _
    rw [hd]
    show K (g'.v 4) h'
    rw [hg4]
    exact hq
  | _ => exact hq
end Sx.r12_Last

/-! ### tympan/marks.Find -/
namespace Sx.marks_Find
noncomputable def code : Code := bodyOf Try.f17
abbrev T0 := Int → H → Prop
def E0 (g : Env) (x4 : Int) : Prop := g.v 4 = (.int .i64 x4) ∧ g.ds = []
def D0 (K : T0) (g : Env) (h : H) : Prop := nilDs g.ds (vInt .i64 (g.v 4) fun i1 => K i1 h)
theorem D0_ok {K : T0} {g : Env} {h : H} (hq : D0 K g h) : ∃ (x4 : Int), E0 g x4 ∧ K x4 h := by
  obtain ⟨hd, hq⟩ := nilDs_ok hq
  obtain ⟨y3, e2, q4⟩ := vInt_ok hq
  exact ⟨y3, ⟨e2, hd⟩, q4⟩
def Q0 (Kn : T0) (Kr : T0) : XPost
  | .normal, g, h => D0 Kn g h
  | .ret, g, h => D0 Kr g h
  | _, _, _ => False
abbrev T1 := (Option Addr) → Nat → Nat → Int → H → Prop
def E1 (g : Env) (x0b : Option Addr) (x0n : Nat) (x0c : Nat) (x1 : Int) : Prop := g.v 0 = (.slice x0b x0n x0c) ∧ g.v 1 = (.int .i64 x1) ∧ g.ds = []
def D1 (K : T1) (g : Env) (h : H) : Prop := nilDs g.ds (vSlice (g.v 0) fun s5b s5n s5c => vInt .i64 (g.v 1) fun i6 => K s5b s5n s5c i6 h)
theorem D1_ok {K : T1} {g : Env} {h : H} (hq : D1 K g h) : ∃ (x0b : Option Addr) (x0n : Nat) (x0c : Nat) (x1 : Int), E1 g x0b x0n x0c x1 ∧ K x0b x0n x0c x1 h := by
  obtain ⟨hd, hq⟩ := nilDs_ok hq
  obtain ⟨y8b, y8n, y8c, e7, q9⟩ := vSlice_ok hq
  obtain ⟨y11, e10, q12⟩ := vInt_ok q9
  exact ⟨y8b, y8n, y8c, y11, ⟨e7, e10, hd⟩, q12⟩
abbrev n1 (x0b : Option Addr) (x0n : Nat) (x0c : Nat) (x1 : Int) (Kn : T0) (Kr : T0) (h : H) : Prop :=
  newx h #[(.int .i64 x1)] 3 fun a13 h14 => ∃ i15, cell h14 a13 = some (.int .i64 i15) ∧ (Spl (i15 < (0 : Int)) (Kr (-1 : Int) h14) (HCalls Try.prog 30 ⟨[(.slice x0b x0n x0c), (.func (.func 31) ⟨[]⟩ ⟨[(.pointer (some a13))]⟩)]⟩ h14 fun v16 h17 => vInt .i64 v16 fun i18 => Kr i18 h17))
theorem n1_ok (x0b : Option Addr) (x0n : Nat) (x0c : Nat) (x1 : Int) (Kn : T0) (Kr : T0) (g : Env) (hg : E1 g x0b x0n x0c x1) (h : H) (hS : n1 x0b x0n x0c x1 Kn Kr h) : wpC none Try.prog 10 code (Q0 Kn Kr) g h := by
  obtain ⟨hg0, hg1, hds⟩ := hg
  refine wpC_of_wpx (by kernel_rfl) (by kernel_rfl) (g' := ((⟨g.v, []⟩ : Env).upd (some 0) (.slice x0b x0n x0c)).upd (some 1) (.int .i64 x1)) (by rw [env_ds hds, upd_self hg0, upd_self hg1]) ?_
  have e : (n1 x0b x0n x0c x1 Kn Kr h) = wpx none Try.prog 10 code (Q0 Kn Kr) (((⟨g.v, []⟩ : Env).upd (some 0) (.slice x0b x0n x0c)).upd (some 1) (.int .i64 x1)) h := by kernel_rfl
  exact e ▸ hS
/-- WHAT tympan/marks.Find ASKS -/
abbrev asks (x0b : Option Addr) (x0n : Nat) (x0c : Nat) (x1 : Int) (K : Value → H → Prop) (h : H) : Prop := n1 x0b x0n x0c x1 (fun y4 h => K (.int .i64 y4) h) (fun y4 h => K (.int .i64 y4) h) h
theorem ok (x0b : Option Addr) (x0n : Nat) (x0c : Nat) (x1 : Int) (K : Value → H → Prop) (h : H) (hS : asks x0b x0n x0c x1 K h) : HCalls Try.prog 17 ⟨[(.slice x0b x0n x0c), (.int .i64 x1)]⟩ h K := by
  refine calls_of_wpC (c := code) Try.func17 (by kernel_rfl) (Nat.le_of_ble_eq_true (by kernel_rfl)) ?_
  refine (n1_ok x0b x0n x0c x1 (fun y4 h => K (.int .i64 y4) h) (fun y4 h => K (.int .i64 y4) h) (env0 [(.slice x0b x0n x0c), (.int .i64 x1)]) ⟨rfl, rfl, rfl⟩ h hS).mono ?_
  intro e g' h' hq
  cases e with
  | normal =>
    have hq : D0 (fun y4 h => K (.int .i64 y4) h) g' h' := hq
    obtain ⟨y4, ⟨hg4, hd⟩, hq⟩ := D0_ok hq
    show leaveX g'.ds h' _
    rw [hd]
    show K (g'.v 4) h'
    rw [hg4]
    exact hq
  | ret =>
    have hq : D0 (fun y4 h => K (.int .i64 y4) h) g' h' := hq
    obtain ⟨y4, ⟨hg4, hd⟩, hq⟩ := D0_ok hq
    show leaveX g'.ds h' _
    rw [hd]
    show K (g'.v 4) h'
    rw [hg4]
    exact hq
  | _ => exact hq
end Sx.marks_Find

/-! ### tympan/tympanref12.Find -/
namespace Sx.r12_Find
noncomputable def code : Code := bodyOf Try.f18
abbrev T0 := Int → H → Prop
def E0 (g : Env) (x4 : Int) : Prop := g.v 4 = (.int .i64 x4) ∧ g.ds = []
def D0 (K : T0) (g : Env) (h : H) : Prop := nilDs g.ds (vInt .i64 (g.v 4) fun i1 => K i1 h)
theorem D0_ok {K : T0} {g : Env} {h : H} (hq : D0 K g h) : ∃ (x4 : Int), E0 g x4 ∧ K x4 h := by
  obtain ⟨hd, hq⟩ := nilDs_ok hq
  obtain ⟨y3, e2, q4⟩ := vInt_ok hq
  exact ⟨y3, ⟨e2, hd⟩, q4⟩
def Q0 (Kn : T0) (Kr : T0) : XPost
  | .normal, g, h => D0 Kn g h
  | .ret, g, h => D0 Kr g h
  | _, _, _ => False
abbrev T1 := (Option Addr) → Nat → Nat → Int → H → Prop
def E1 (g : Env) (x0b : Option Addr) (x0n : Nat) (x0c : Nat) (x1 : Int) : Prop := g.v 0 = (.slice x0b x0n x0c) ∧ g.v 1 = (.int .i64 x1) ∧ g.ds = []
def D1 (K : T1) (g : Env) (h : H) : Prop := nilDs g.ds (vSlice (g.v 0) fun s5b s5n s5c => vInt .i64 (g.v 1) fun i6 => K s5b s5n s5c i6 h)
theorem D1_ok {K : T1} {g : Env} {h : H} (hq : D1 K g h) : ∃ (x0b : Option Addr) (x0n : Nat) (x0c : Nat) (x1 : Int), E1 g x0b x0n x0c x1 ∧ K x0b x0n x0c x1 h := by
  obtain ⟨hd, hq⟩ := nilDs_ok hq
  obtain ⟨y8b, y8n, y8c, e7, q9⟩ := vSlice_ok hq
  obtain ⟨y11, e10, q12⟩ := vInt_ok q9
  exact ⟨y8b, y8n, y8c, y11, ⟨e7, e10, hd⟩, q12⟩
noncomputable def n1_c1 : Code := cFst code
noncomputable def n1_c2 : Code := cSnd code
noncomputable def n2_c1 : Code := cFst n1_c2
noncomputable def n2_c2 : Code := cSnd n1_c2
abbrev T2 := H → Prop
def E2 (g : Env)  : Prop := g.ds = []
def D2 (K : T2) (g : Env) (h : H) : Prop := nilDs g.ds (K h)
theorem D2_ok {K : T2} {g : Env} {h : H} (hq : D2 K g h) : E2 g  ∧ K  h := by
  obtain ⟨hd, hq⟩ := nilDs_ok hq
  skip
  exact ⟨hd, hq⟩
abbrev n3  (Kn : T0) (Kr : T0) (h : H) : Prop :=
  Kr (-1 : Int) h
theorem n3_ok  (Kn : T0) (Kr : T0) (g : Env) (hg : E2 g ) (h : H) (hS : n3  Kn Kr h) : wpC none Try.prog 24 n2_c2 (Q0 Kn Kr) g h := by
  have hds : g.ds = [] := hg
  refine wpC_of_wpx (by kernel_rfl) (by kernel_rfl) (g' := ⟨g.v, []⟩) (by rw [env_ds hds]) ?_
  have e : (n3  Kn Kr h) = wpx none Try.prog 24 n2_c2 (Q0 Kn Kr) (⟨g.v, []⟩) h := by kernel_rfl
  exact e ▸ hS
def Q1 (Kn : T2) (Kr : T0) : XPost
  | .normal, g, h => D2 Kn g h
  | .ret, g, h => D0 Kr g h
  | _, _, _ => False
noncomputable def n4_c1 : Code := cFst n2_c1
noncomputable def n4_c2 : Code := cSnd n2_c1
abbrev T3 := (Option Addr) → Nat → Nat → Int → Int → H → Prop
def E3 (g : Env) (x0b : Option Addr) (x0n : Nat) (x0c : Nat) (x1 : Int) (x5 : Int) : Prop := g.v 0 = (.slice x0b x0n x0c) ∧ g.v 1 = (.int .i64 x1) ∧ g.v 5 = (.int .i64 x5) ∧ g.ds = []
def D3 (K : T3) (g : Env) (h : H) : Prop := nilDs g.ds (vSlice (g.v 0) fun s13b s13n s13c => vInt .i64 (g.v 1) fun i14 => vInt .i64 (g.v 5) fun i15 => K s13b s13n s13c i14 i15 h)
theorem D3_ok {K : T3} {g : Env} {h : H} (hq : D3 K g h) : ∃ (x0b : Option Addr) (x0n : Nat) (x0c : Nat) (x1 : Int) (x5 : Int), E3 g x0b x0n x0c x1 x5 ∧ K x0b x0n x0c x1 x5 h := by
  obtain ⟨hd, hq⟩ := nilDs_ok hq
  obtain ⟨y17b, y17n, y17c, e16, q18⟩ := vSlice_ok hq
  obtain ⟨y20, e19, q21⟩ := vInt_ok q18
  obtain ⟨y23, e22, q24⟩ := vInt_ok q21
  exact ⟨y17b, y17n, y17c, y20, y23, ⟨e16, e19, e22, hd⟩, q24⟩
noncomputable def n5_c1 : Code := cFst n4_c2
def Q2 (Kn : T2) (Ke0 : T2) (Kr : T0) : XPost
  | .normal, g, h => D2 Kn g h
  | .ret, g, h => D0 Kr g h
  | .exit id, g, h => cond (Nat.beq id 0) (D2 Ke0 g h) (False)
  | _, _, _ => False
noncomputable def n6_c1 : Code := cFst n5_c1
def Q3 (Kn : T3) (Ke0 : T2) (Kr : T0) : XPost
  | .normal, g, h => D3 Kn g h
  | .ret, g, h => D0 Kr g h
  | .exit id, g, h => cond (Nat.beq id 0) (D2 Ke0 g h) (False)
  | _, _, _ => False
def n6_L (Kn : T2) (Ke0 : T2) (Kr : T0) : Nat → (Option Addr) → Nat → Nat → Int → Int → H → Prop
  | 0, _, _, _, _, _, _ => False
  | N + 1, x0b, x0n, x0c, x1, x5, h => Spl (x5 < (x0n : Int)) (Spl (x1 ≥ (0 : Int)) ((0 ≤ x5 ∧ x5 < (x0n : Int)) ∧ (vSome x0b fun a25 => ∃ i26, cell h ((a25.add (Int.toNat x5 * 3)).add 0) = some (.int .i64 i26) ∧ (Spl (i26 = x1) (Kr x5 h) (Rng .i64 (x5 + (1 : Int)) ∧ (n6_L Kn Ke0 Kr N x0b x0n x0c x1 (x5 + (1 : Int)) h))))) (Ke0 h)) (Ke0 h)
abbrev n6 (x0b : Option Addr) (x0n : Nat) (x0c : Nat) (x1 : Int) (x5 : Int) (Kn : T2) (Ke0 : T2) (Kr : T0) (h : H) : Prop := ∃ N, n6_L Kn Ke0 Kr N x0b x0n x0c x1 x5 h
theorem n6_ok (x0b : Option Addr) (x0n : Nat) (x0c : Nat) (x1 : Int) (x5 : Int) (Kn : T2) (Ke0 : T2) (Kr : T0) (g : Env) (hg : E3 g x0b x0n x0c x1 x5) (h : H) (hS : n6 x0b x0n x0c x1 x5 Kn Ke0 Kr h) : wpC none Try.prog 24 n5_c1 (Q2 Kn Ke0 Kr) g h := by
  obtain ⟨N0, hS⟩ := hS
  refine wpC_loop' (x := n6_c1) (by kernel_rfl) (fun k g h => ∃ (x0b : Option Addr) (x0n : Nat) (x0c : Nat) (x1 : Int) (x5 : Int), E3 g x0b x0n x0c x1 x5 ∧ n6_L Kn Ke0 Kr k x0b x0n x0c x1 x5 h) (fun g h hr => ?_) (fun N g h hr => ?_) N0 ⟨x0b, x0n, x0c, x1, x5, hg, hS⟩
  · obtain ⟨x0b, x0n, x0c, x1, x5, hg, hS⟩ := hr
    exact hS.elim
  · obtain ⟨x0b, x0n, x0c, x1, x5, hg, hS⟩ := hr
    have hw : wpC none Try.prog 24 n6_c1 (Q3 (fun z0b z0n z0c z1 z5 h => n6_L Kn Ke0 Kr N z0b z0n z0c z1 z5 h) Ke0 Kr) g h := by
      obtain ⟨hg0, hg1, hg5, hds⟩ := hg
      refine wpC_of_wpx (by kernel_rfl) (by kernel_rfl) (g' := (((⟨g.v, []⟩ : Env).upd (some 0) (.slice x0b x0n x0c)).upd (some 1) (.int .i64 x1)).upd (some 5) (.int .i64 x5)) (by rw [env_ds hds, upd_self hg0, upd_self hg1, upd_self hg5]) ?_
      have e : (n6_L Kn Ke0 Kr (N + 1) x0b x0n x0c x1 x5 h) = wpx none Try.prog 24 n6_c1 (Q3 (fun z0b z0n z0c z1 z5 h => n6_L Kn Ke0 Kr N z0b z0n z0c z1 z5 h) Ke0 Kr) ((((⟨g.v, []⟩ : Env).upd (some 0) (.slice x0b x0n x0c)).upd (some 1) (.int .i64 x1)).upd (some 5) (.int .i64 x5)) h := by kernel_rfl
      exact e ▸ hS
    refine hw.mono ?_
    intro e g' h' hq
    cases e with
    | normal => exact D3_ok (K := (fun z0b z0n z0c z1 z5 h => n6_L Kn Ke0 Kr N z0b z0n z0c z1 z5 h)) hq
    | _ => exact hq
abbrev n5 (x0b : Option Addr) (x0n : Nat) (x0c : Nat) (x1 : Int) (x5 : Int) (Kn : T2) (Kr : T0) (h : H) : Prop := n6 x0b x0n x0c x1 x5 Kn Kn Kr h
theorem n5_ok (x0b : Option Addr) (x0n : Nat) (x0c : Nat) (x1 : Int) (x5 : Int) (Kn : T2) (Kr : T0) (g : Env) (hg : E3 g x0b x0n x0c x1 x5) (h : H) (hS : n5 x0b x0n x0c x1 x5 Kn Kr h) : wpC none Try.prog 24 n4_c2 (Q1 Kn Kr) g h := by
  refine wpC_block' (id := 0) (x := n5_c1) (by kernel_rfl) (n6_ok x0b x0n x0c x1 x5 Kn Kn Kr g hg h hS) ?_
  intro e g' h' hq
  cases e <;> exact hq
def Q4 (Kn : T3) (Kr : T0) : XPost
  | .normal, g, h => D3 Kn g h
  | .ret, g, h => D0 Kr g h
  | _, _, _ => False
abbrev n4 (x0b : Option Addr) (x0n : Nat) (x0c : Nat) (x1 : Int) (Kn : T2) (Kr : T0) (h : H) : Prop :=
  n5 x0b x0n x0c x1 (0 : Int) Kn Kr h
theorem n4_ok (x0b : Option Addr) (x0n : Nat) (x0c : Nat) (x1 : Int) (Kn : T2) (Kr : T0) (g : Env) (hg : E1 g x0b x0n x0c x1) (h : H) (hS : n4 x0b x0n x0c x1 Kn Kr h) : wpC none Try.prog 24 n2_c1 (Q1 Kn Kr) g h := by
  obtain ⟨hg0, hg1, hds⟩ := hg
  refine wpC_seq' (x := n4_c1) (y := n4_c2) (Q' := (Q4 (fun z0b z0n z0c z1 z5 h => n5 z0b z0n z0c z1 z5 Kn Kr h) Kr)) (by kernel_rfl) ?_ ?_
  · refine wpC_of_wpx (by kernel_rfl) (by kernel_rfl) (g' := ((⟨g.v, []⟩ : Env).upd (some 0) (.slice x0b x0n x0c)).upd (some 1) (.int .i64 x1)) (by rw [env_ds hds, upd_self hg0, upd_self hg1]) ?_
    have e : (n4 x0b x0n x0c x1 Kn Kr h) = wpx none Try.prog 24 n4_c1 (Q4 (fun z0b z0n z0c z1 z5 h => n5 z0b z0n z0c z1 z5 Kn Kr h) Kr) (((⟨g.v, []⟩ : Env).upd (some 0) (.slice x0b x0n x0c)).upd (some 1) (.int .i64 x1)) h := by kernel_rfl
    exact e ▸ hS
  · intro e g' h' hq
    cases e with
    | normal =>
      have hq : D3 (fun z0b z0n z0c z1 z5 h => n5 z0b z0n z0c z1 z5 Kn Kr h) g' h' := hq
      obtain ⟨y0b, y0n, y0c, y1, y5, hg', hq⟩ := D3_ok hq
      exact n5_ok y0b y0n y0c y1 y5 Kn Kr g' hg' h' hq
    | _ => exact hq
abbrev n2 (x0b : Option Addr) (x0n : Nat) (x0c : Nat) (x1 : Int) (Kn : T0) (Kr : T0) (h : H) : Prop := n4 x0b x0n x0c x1 (fun  h => n3 Kn Kr h) Kr h
theorem n2_ok (x0b : Option Addr) (x0n : Nat) (x0c : Nat) (x1 : Int) (Kn : T0) (Kr : T0) (g : Env) (hg : E1 g x0b x0n x0c x1) (h : H) (hS : n2 x0b x0n x0c x1 Kn Kr h) : wpC none Try.prog 24 n1_c2 (Q0 Kn Kr) g h := by
  refine wpC_seq' (x := n2_c1) (y := n2_c2) (by kernel_rfl) (n4_ok x0b x0n x0c x1 (fun  h => n3 Kn Kr h) Kr g hg h hS) ?_
  intro e g' h' hq
  cases e with
  | normal =>
    have hq : D2 (fun  h => n3 Kn Kr h) g' h' := hq
    obtain ⟨hg', hq⟩ := D2_ok hq
    exact n3_ok  Kn Kr g' hg' h' hq
  | _ => exact hq
def Q5 (Kn : T1) (Kr : T0) : XPost
  | .normal, g, h => D1 Kn g h
  | .ret, g, h => D0 Kr g h
  | _, _, _ => False
abbrev n1 (x0b : Option Addr) (x0n : Nat) (x0c : Nat) (x1 : Int) (Kn : T0) (Kr : T0) (h : H) : Prop :=
  n2 x0b x0n x0c x1 Kn Kr h
theorem n1_ok (x0b : Option Addr) (x0n : Nat) (x0c : Nat) (x1 : Int) (Kn : T0) (Kr : T0) (g : Env) (hg : E1 g x0b x0n x0c x1) (h : H) (hS : n1 x0b x0n x0c x1 Kn Kr h) : wpC none Try.prog 24 code (Q0 Kn Kr) g h := by
  obtain ⟨hg0, hg1, hds⟩ := hg
  refine wpC_seq' (x := n1_c1) (y := n1_c2) (Q' := (Q5 (fun z0b z0n z0c z1 h => n2 z0b z0n z0c z1 Kn Kr h) Kr)) (by kernel_rfl) ?_ ?_
  · refine wpC_of_wpx (by kernel_rfl) (by kernel_rfl) (g' := ((⟨g.v, []⟩ : Env).upd (some 0) (.slice x0b x0n x0c)).upd (some 1) (.int .i64 x1)) (by rw [env_ds hds, upd_self hg0, upd_self hg1]) ?_
    have e : (n1 x0b x0n x0c x1 Kn Kr h) = wpx none Try.prog 24 n1_c1 (Q5 (fun z0b z0n z0c z1 h => n2 z0b z0n z0c z1 Kn Kr h) Kr) (((⟨g.v, []⟩ : Env).upd (some 0) (.slice x0b x0n x0c)).upd (some 1) (.int .i64 x1)) h := by kernel_rfl
    exact e ▸ hS
  · intro e g' h' hq
    cases e with
    | normal =>
      have hq : D1 (fun z0b z0n z0c z1 h => n2 z0b z0n z0c z1 Kn Kr h) g' h' := hq
      obtain ⟨y0b, y0n, y0c, y1, hg', hq⟩ := D1_ok hq
      exact n2_ok y0b y0n y0c y1 Kn Kr g' hg' h' hq
    | _ => exact hq
/-- WHAT tympan/tympanref12.Find ASKS -/
abbrev asks (x0b : Option Addr) (x0n : Nat) (x0c : Nat) (x1 : Int) (K : Value → H → Prop) (h : H) : Prop := n1 x0b x0n x0c x1 (fun y4 h => K (.int .i64 y4) h) (fun y4 h => K (.int .i64 y4) h) h
theorem ok (x0b : Option Addr) (x0n : Nat) (x0c : Nat) (x1 : Int) (K : Value → H → Prop) (h : H) (hS : asks x0b x0n x0c x1 K h) : HCalls Try.prog 18 ⟨[(.slice x0b x0n x0c), (.int .i64 x1)]⟩ h K := by
  refine calls_of_wpC (c := code) Try.func18 (by kernel_rfl) (Nat.le_of_ble_eq_true (by kernel_rfl)) ?_
  refine (n1_ok x0b x0n x0c x1 (fun y4 h => K (.int .i64 y4) h) (fun y4 h => K (.int .i64 y4) h) (env0 [(.slice x0b x0n x0c), (.int .i64 x1)]) ⟨rfl, rfl, rfl⟩ h hS).mono ?_
  intro e g' h' hq
  cases e with
  | normal =>
    have hq : D0 (fun y4 h => K (.int .i64 y4) h) g' h' := hq
    obtain ⟨y4, ⟨hg4, hd⟩, hq⟩ := D0_ok hq
    show leaveX g'.ds h' _
    rw [hd]
    show K (g'.v 4) h'
    rw [hg4]
    exact hq
  | ret =>
    have hq : D0 (fun y4 h => K (.int .i64 y4) h) g' h' := hq
    obtain ⟨y4, ⟨hg4, hd⟩, hq⟩ := D0_ok hq
    show leaveX g'.ds h' _
    rw [hd]
    show K (g'.v 4) h'
    rw [hg4]
    exact hq
  | _ => exact hq
end Sx.r12_Find

/-! ### tympan/marks.Lost -/
namespace Sx.marks_Lost
noncomputable def code : Code := bodyOf Try.f19
abbrev T0 := Addr → (List Deferred) → H → Prop
def E0 (g : Env) (x4 : Addr) (ds : List Deferred) : Prop := g.v 4 = (.pointer (some x4)) ∧ g.ds = ds
def D0 (K : T0) (g : Env) (h : H) : Prop := vAddr (g.v 4) fun a1 => K a1 g.ds h
theorem D0_ok {K : T0} {g : Env} {h : H} (hq : D0 K g h) : ∃ (x4 : Addr) (ds : List Deferred), E0 g x4 ds ∧ K x4 ds h := by
  obtain ⟨y3, e2, q4⟩ := vAddr_ok hq
  exact ⟨y3, g.ds, ⟨e2, rfl⟩, q4⟩
theorem D0_mk {K : T0} {g : Env} {h : H} {x4 : Addr} {ds : List Deferred} (hg : E0 g x4 ds) (hk : K x4 ds h) : D0 K g h := by
  obtain ⟨hg4, hds⟩ := hg
  unfold D0
  rw [hg4, hds]
  exact hk
def Q0 (Kn : T0) (Kr : T0) : XPost
  | .normal, g, h => D0 Kn g h
  | .ret, g, h => D0 Kr g h
  | _, _, _ => False
abbrev T1 := (Option Addr) → Nat → Nat → (Option Addr) → Nat → Nat → (List Deferred) → H → Prop
def E1 (g : Env) (x0b : Option Addr) (x0n : Nat) (x0c : Nat) (x1b : Option Addr) (x1n : Nat) (x1c : Nat) (ds : List Deferred) : Prop := g.v 0 = (.slice x0b x0n x0c) ∧ g.v 1 = (.slice x1b x1n x1c) ∧ g.ds = ds
def D1 (K : T1) (g : Env) (h : H) : Prop := vSlice (g.v 0) fun s5b s5n s5c => vSlice (g.v 1) fun s6b s6n s6c => K s5b s5n s5c s6b s6n s6c g.ds h
theorem D1_ok {K : T1} {g : Env} {h : H} (hq : D1 K g h) : ∃ (x0b : Option Addr) (x0n : Nat) (x0c : Nat) (x1b : Option Addr) (x1n : Nat) (x1c : Nat) (ds : List Deferred), E1 g x0b x0n x0c x1b x1n x1c ds ∧ K x0b x0n x0c x1b x1n x1c ds h := by
  obtain ⟨y8b, y8n, y8c, e7, q9⟩ := vSlice_ok hq
  obtain ⟨y11b, y11n, y11c, e10, q12⟩ := vSlice_ok q9
  exact ⟨y8b, y8n, y8c, y11b, y11n, y11c, g.ds, ⟨e7, e10, rfl⟩, q12⟩
theorem D1_mk {K : T1} {g : Env} {h : H} {x0b : Option Addr} {x0n : Nat} {x0c : Nat} {x1b : Option Addr} {x1n : Nat} {x1c : Nat} {ds : List Deferred} (hg : E1 g x0b x0n x0c x1b x1n x1c ds) (hk : K x0b x0n x0c x1b x1n x1c ds h) : D1 K g h := by
  obtain ⟨hg0, hg1, hds⟩ := hg
  unfold D1
  rw [hg0, hg1, hds]
  exact hk
noncomputable def n1_c1 : Code := cFst code
noncomputable def n1_c2 : Code := cSnd code
abbrev T2 := (Option Addr) → Nat → Nat → Addr → Addr → (List Deferred) → H → Prop
def E2 (g : Env) (x0b : Option Addr) (x0n : Nat) (x0c : Nat) (x3 : Addr) (x4 : Addr) (ds : List Deferred) : Prop := g.v 0 = (.slice x0b x0n x0c) ∧ g.v 3 = (.pointer (some x3)) ∧ g.v 4 = (.pointer (some x4)) ∧ g.ds = ds
def D2 (K : T2) (g : Env) (h : H) : Prop := vSlice (g.v 0) fun s13b s13n s13c => vAddr (g.v 3) fun a14 => vAddr (g.v 4) fun a15 => K s13b s13n s13c a14 a15 g.ds h
theorem D2_ok {K : T2} {g : Env} {h : H} (hq : D2 K g h) : ∃ (x0b : Option Addr) (x0n : Nat) (x0c : Nat) (x3 : Addr) (x4 : Addr) (ds : List Deferred), E2 g x0b x0n x0c x3 x4 ds ∧ K x0b x0n x0c x3 x4 ds h := by
  obtain ⟨y17b, y17n, y17c, e16, q18⟩ := vSlice_ok hq
  obtain ⟨y20, e19, q21⟩ := vAddr_ok q18
  obtain ⟨y23, e22, q24⟩ := vAddr_ok q21
  exact ⟨y17b, y17n, y17c, y20, y23, g.ds, ⟨e16, e19, e22, rfl⟩, q24⟩
theorem D2_mk {K : T2} {g : Env} {h : H} {x0b : Option Addr} {x0n : Nat} {x0c : Nat} {x3 : Addr} {x4 : Addr} {ds : List Deferred} (hg : E2 g x0b x0n x0c x3 x4 ds) (hk : K x0b x0n x0c x3 x4 ds h) : D2 K g h := by
  obtain ⟨hg0, hg3, hg4, hds⟩ := hg
  unfold D2
  rw [hg0, hg3, hg4, hds]
  exact hk
noncomputable def n2_c1 : Code := cFst n1_c2
noncomputable def n2_c2 : Code := cSnd n1_c2
abbrev n3 (x4 : Addr) (ds : List Deferred) (Kn : T0) (Kr : T0) (h : H) : Prop :=
  stL x4 [(.int .i64 (0 : Int))] 0 h fun h25 => Kr x4 ds h25
theorem n3_ok (x4 : Addr) (ds : List Deferred) (Kn : T0) (Kr : T0) (g : Env) (hg : E0 g x4 ds) (h : H) (hS : n3 x4 ds Kn Kr h) : wpC none Try.prog 21 n2_c2 (Q0 Kn Kr) g h := by
  obtain ⟨hg4, hds⟩ := hg
  refine wpC_of_wpx (by kernel_rfl) (by kernel_rfl) (g' := (⟨g.v, ds⟩ : Env).upd (some 4) (.pointer (some x4))) (by rw [env_ds hds, upd_self hg4]) ?_
  have e : (n3 x4 ds Kn Kr h) = wpx none Try.prog 21 n2_c2 (Q0 Kn Kr) ((⟨g.v, ds⟩ : Env).upd (some 4) (.pointer (some x4))) h := by kernel_rfl
  exact e ▸ hS
noncomputable def n4_c1 : Code := cFst n2_c1
noncomputable def n4_c2 : Code := cSnd n2_c1
abbrev T3 := Addr → Addr → Value → (List Deferred) → H → Prop
def E3 (g : Env) (x3 : Addr) (x4 : Addr) (x8 : Value) (ds : List Deferred) : Prop := g.v 3 = (.pointer (some x3)) ∧ g.v 4 = (.pointer (some x4)) ∧ g.v 8 = x8 ∧ g.ds = ds
def D3 (K : T3) (g : Env) (h : H) : Prop := vAddr (g.v 3) fun a26 => vAddr (g.v 4) fun a27 => K a26 a27 (g.v 8) g.ds h
theorem D3_ok {K : T3} {g : Env} {h : H} (hq : D3 K g h) : ∃ (x3 : Addr) (x4 : Addr) (x8 : Value) (ds : List Deferred), E3 g x3 x4 x8 ds ∧ K x3 x4 x8 ds h := by
  obtain ⟨y29, e28, q30⟩ := vAddr_ok hq
  obtain ⟨y32, e31, q33⟩ := vAddr_ok q30
  exact ⟨y29, y32, (g.v 8), g.ds, ⟨e28, e31, rfl, rfl⟩, q33⟩
theorem D3_mk {K : T3} {g : Env} {h : H} {x3 : Addr} {x4 : Addr} {x8 : Value} {ds : List Deferred} (hg : E3 g x3 x4 x8 ds) (hk : K x3 x4 x8 ds h) : D3 K g h := by
  obtain ⟨hg3, hg4, hg8, hds⟩ := hg
  unfold D3
  rw [hg3, hg4, hg8, hds]
  exact hk
noncomputable def n5_c1 : Code := cFst n4_c2
def Q1 (Kn : T0) (Ke0 : T0) (Kr : T0) : XPost
  | .normal, g, h => D0 Kn g h
  | .ret, g, h => D0 Kr g h
  | .exit id, g, h => cond (Nat.beq id 0) (D0 Ke0 g h) (False)
  | _, _, _ => False
noncomputable def n6_c1 : Code := cFst n5_c1
noncomputable def n6_c2 : Code := cSnd n5_c1
def n6_rd (x3 : Addr) (x4 : Addr) (x8 : Value) (ds : List Deferred) (Kn : T0) (Ke0 : T0) (Kr : T0) (h : H) (p9 : Int) (p10_0 : Int) (p10_1 : List UInt8) (p10_2b : Option Addr) (p10_2n : Nat) (p10_2c : Nat) (Mid : H → (H → Prop) → Prop) (Kc : H → H → Prop) (Fin : H → H → (H → Prop) → Prop) (h1 : H) : Prop :=
  newx h1 ⟨[(.int .i64 (0 : Int)), (S ([] : List UInt8)), (.slice none 0 0)]⟩ 25 fun a34 h35 => stL a34 [(.int .i64 p10_0), (S p10_1), (.slice p10_2b p10_2n p10_2c)] 0 h35 fun h36 => Mid h36 fun hb37 => ∃ i38, cell hb37 (a34.add 0) = some (.int .i64 i38) ∧ (Spl (i38 < (0 : Int)) (Rng .i64 (p9 + (1 : Int)) ∧ (stL x4 [(.int .i64 (p9 + (1 : Int)))] 0 hb37 fun h39 => Fin hb37 h39 fun h40 => Kr x4 (markD h.size :: ds) h40)) (∃ s41b s41n s41c, cell hb37 x3 = some (.slice s41b s41n s41c) ∧ (HCalls Try.prog 32 ⟨[(.slice s41b s41n s41c), (.func (.func 33) ⟨[]⟩ ⟨[(.pointer (some a34))]⟩)]⟩ hb37 fun v42 h43 => vBool v42 fun b44 => cond b44 (Rng .i64 (p9 + (1 : Int)) ∧ (stL x4 [(.int .i64 (p9 + (1 : Int)))] 0 h43 fun h45 => Fin hb37 h45 fun h46 => Kr x4 (markD h.size :: ds) h46)) (Kc hb37 h43))))
abbrev n6 (x3 : Addr) (x4 : Addr) (x8 : Value) (ds : List Deferred) (Kn : T0) (Ke0 : T0) (Kr : T0) (h : H) : Prop := Ranges Try.prog x8 2 h (fun l47 Mid Kc Fin h1 => uncons l47 fun e48 l49 => vInt .i64 e48 fun i50 => uncons l49 fun e51 l52 => vAgg e51 fun l53 => uncons l53 fun e54 l55 => vInt .i64 e54 fun i56 => uncons l55 fun e57 l58 => vStr e57 fun s59 => uncons l58 fun e60 l61 => vSlice e60 fun s62b s62n s62c => unnil l61 (unnil l52 (n6_rd x3 x4 x8 ds Kn Ke0 Kr h i50 i56 s59 s62b s62n s62c Mid Kc Fin h1))) (fun h4 => Kn x4 (markD h.size :: ds) h4)
theorem n6_ok (x3 : Addr) (x4 : Addr) (x8 : Value) (ds : List Deferred) (Kn : T0) (Ke0 : T0) (Kr : T0) (g : Env) (hg : E3 g x3 x4 x8 ds) (h : H) (hS : n6 x3 x4 x8 ds Kn Ke0 Kr h) : wpC none Try.prog 21 n5_c1 (Q1 Kn Ke0 Kr) g h := by
  obtain ⟨hg3, hg4, hg8, hds⟩ := hg
  subst hds
  have ho : ((((⟨g.v, g.ds⟩ : Env).upd (some 3) (.pointer (some x3))).upd (some 4) (.pointer (some x4))).upd (some 8) x8 : Env) = g := by rw [env_ds rfl, upd_self hg3, upd_self hg4, upd_self hg8]
  have hc : n5_c1 = .rangeFunc (.tmp 8) #[9, 10] n6_c1 n6_c2 := by kernel_rfl
  rw [hc]
  refine wpC_range (f := x8) (rd := (fun l47 Mid Kc Fin h1 => uncons l47 fun e48 l49 => vInt .i64 e48 fun i50 => uncons l49 fun e51 l52 => vAgg e51 fun l53 => uncons l53 fun e54 l55 => vInt .i64 e54 fun i56 => uncons l55 fun e57 l58 => vStr e57 fun s59 => uncons l58 fun e60 l61 => vSlice e60 fun s62b s62n s62c => unnil l61 (unnil l52 (n6_rd x3 x4 x8 g.ds Kn Ke0 Kr h i50 i56 s59 s62b s62n s62c Mid Kc Fin h1)))) (done := (fun h4 => Kn x4 (markD h.size :: g.ds) h4)) ?_ hS ?_ ?_
  · rw [← ho]; kernel_rfl
  · intro h4 hd
    have e : (Kn x4 (markD h.size :: g.ds) h4) = (Q1 Kn Ke0 Kr) .normal ⟨((((⟨g.v, g.ds⟩ : Env).upd (some 3) (.pointer (some x3))).upd (some 4) (.pointer (some x4))).upd (some 8) x8).v, markD h.size :: g.ds⟩ h4 := by kernel_rfl
    rw [ho] at e
    exact e ▸ hd
  · intro L x Mid Kc Fin h1 hM hx
    obtain ⟨u63, l64, rfl, q65⟩ := uncons_ok hx
    obtain ⟨y66, rfl, q67⟩ := vInt_ok q65
    obtain ⟨u68, l69, rfl, q70⟩ := uncons_ok q67
    obtain ⟨l71, rfl, q72⟩ := vAgg_ok q70
    obtain ⟨u73, l74, rfl, q75⟩ := uncons_ok q72
    obtain ⟨y76, rfl, q77⟩ := vInt_ok q75
    obtain ⟨u78, l79, rfl, q80⟩ := uncons_ok q77
    obtain ⟨y81, rfl, q82⟩ := vStr_ok q80
    obtain ⟨u83, l84, rfl, q85⟩ := uncons_ok q82
    obtain ⟨y86b, y86n, y86c, rfl, q87⟩ := vSlice_ok q85
    obtain ⟨rfl, q88⟩ := unnil_ok q87
    obtain ⟨rfl, q89⟩ := unnil_ok q88
    have e : (n6_rd x3 x4 x8 g.ds Kn Ke0 Kr h y66 y76 y81 y86b y86n y86c Mid Kc Fin h1) = wpx (some L) Try.prog 21 n6_c1 (thenX (fun g1 he => Mid he fun hb => wpx (some L) Try.prog 21 n6_c2 (rpost Kc Fin (Q1 Kn Ke0 Kr) ⟨((((⟨g.v, g.ds⟩ : Env).upd (some 3) (.pointer (some x3))).upd (some 4) (.pointer (some x4))).upd (some 8) x8).v, markD h.size :: g.ds⟩ hb) g1 hb) fun _ _ _ => False) (setps ((((⟨g.v, g.ds⟩ : Env).upd (some 3) (.pointer (some x3))).upd (some 4) (.pointer (some x4))).upd (some 8) x8) [9, 10] [(.int .i64 y66), (.agg ⟨[(.int .i64 y76), (S y81), (.slice y86b y86n y86c)]⟩)]) h1 := by kernel_rfl
    rw [ho] at e
    exact (wpx_ok (by kernel_rfl) _ _ _ _ (by kernel_rfl) (e ▸ q89)).mono (thenX_mono fun g1 he hm => hM he _ _ (fun hb => wpx_ok (by kernel_rfl) _ _ _ _ (by kernel_rfl)) hm)
abbrev n5 (x3 : Addr) (x4 : Addr) (x8 : Value) (ds : List Deferred) (Kn : T0) (Kr : T0) (h : H) : Prop := n6 x3 x4 x8 ds Kn Kn Kr h
theorem n5_ok (x3 : Addr) (x4 : Addr) (x8 : Value) (ds : List Deferred) (Kn : T0) (Kr : T0) (g : Env) (hg : E3 g x3 x4 x8 ds) (h : H) (hS : n5 x3 x4 x8 ds Kn Kr h) : wpC none Try.prog 21 n4_c2 (Q0 Kn Kr) g h := by
  refine wpC_block' (id := 0) (x := n5_c1) (by kernel_rfl) (n6_ok x3 x4 x8 ds Kn Kn Kr g hg h hS) ?_
  intro e g' h' hq
  cases e <;> exact hq
def Q2 (Kn : T3) (Kr : T0) : XPost
  | .normal, g, h => D3 Kn g h
  | .ret, g, h => D0 Kr g h
  | _, _, _ => False
abbrev n4 (x0b : Option Addr) (x0n : Nat) (x0c : Nat) (x3 : Addr) (x4 : Addr) (ds : List Deferred) (Kn : T0) (Kr : T0) (h : H) : Prop :=
  HCalls Try.prog 29 ⟨[(.slice x0b x0n x0c)]⟩ h fun v90 h91 => n5 x3 x4 v90 ds Kn Kr h91
theorem n4_ok (x0b : Option Addr) (x0n : Nat) (x0c : Nat) (x3 : Addr) (x4 : Addr) (ds : List Deferred) (Kn : T0) (Kr : T0) (g : Env) (hg : E2 g x0b x0n x0c x3 x4 ds) (h : H) (hS : n4 x0b x0n x0c x3 x4 ds Kn Kr h) : wpC none Try.prog 21 n2_c1 (Q0 Kn Kr) g h := by
  obtain ⟨hg0, hg3, hg4, hds⟩ := hg
  refine wpC_seq' (x := n4_c1) (y := n4_c2) (Q' := (Q2 (fun z3 z4 z8 zds h => n5 z3 z4 z8 zds Kn Kr h) Kr)) (by kernel_rfl) ?_ ?_
  · refine wpC_of_wpx (by kernel_rfl) (by kernel_rfl) (g' := (((⟨g.v, ds⟩ : Env).upd (some 0) (.slice x0b x0n x0c)).upd (some 3) (.pointer (some x3))).upd (some 4) (.pointer (some x4))) (by rw [env_ds hds, upd_self hg0, upd_self hg3, upd_self hg4]) ?_
    have e : (n4 x0b x0n x0c x3 x4 ds Kn Kr h) = wpx none Try.prog 21 n4_c1 (Q2 (fun z3 z4 z8 zds h => n5 z3 z4 z8 zds Kn Kr h) Kr) ((((⟨g.v, ds⟩ : Env).upd (some 0) (.slice x0b x0n x0c)).upd (some 3) (.pointer (some x3))).upd (some 4) (.pointer (some x4))) h := by kernel_rfl
    exact e ▸ hS
  · intro e g' h' hq
    cases e with
    | normal =>
      have hq : D3 (fun z3 z4 z8 zds h => n5 z3 z4 z8 zds Kn Kr h) g' h' := hq
      obtain ⟨y3, y4, y8, yds, hg', hq⟩ := D3_ok hq
      exact n5_ok y3 y4 y8 yds Kn Kr g' hg' h' hq
    | _ => exact hq
abbrev n2 (x0b : Option Addr) (x0n : Nat) (x0c : Nat) (x3 : Addr) (x4 : Addr) (ds : List Deferred) (Kn : T0) (Kr : T0) (h : H) : Prop := n4 x0b x0n x0c x3 x4 ds (fun z4 zds h => n3 z4 zds Kn Kr h) Kr h
theorem n2_ok (x0b : Option Addr) (x0n : Nat) (x0c : Nat) (x3 : Addr) (x4 : Addr) (ds : List Deferred) (Kn : T0) (Kr : T0) (g : Env) (hg : E2 g x0b x0n x0c x3 x4 ds) (h : H) (hS : n2 x0b x0n x0c x3 x4 ds Kn Kr h) : wpC none Try.prog 21 n1_c2 (Q0 Kn Kr) g h := by
  refine wpC_seq' (x := n2_c1) (y := n2_c2) (by kernel_rfl) (n4_ok x0b x0n x0c x3 x4 ds (fun z4 zds h => n3 z4 zds Kn Kr h) Kr g hg h hS) ?_
  intro e g' h' hq
  cases e with
  | normal =>
    have hq : D0 (fun z4 zds h => n3 z4 zds Kn Kr h) g' h' := hq
    obtain ⟨y4, yds, hg', hq⟩ := D0_ok hq
    exact n3_ok y4 yds Kn Kr g' hg' h' hq
  | _ => exact hq
def Q3 (Kn : T2) (Kr : T0) : XPost
  | .normal, g, h => D2 Kn g h
  | .ret, g, h => D0 Kr g h
  | _, _, _ => False
abbrev n1 (x0b : Option Addr) (x0n : Nat) (x0c : Nat) (x1b : Option Addr) (x1n : Nat) (x1c : Nat) (ds : List Deferred) (Kn : T0) (Kr : T0) (h : H) : Prop :=
  newx h #[(.slice x1b x1n x1c)] 32 fun a92 h93 => newx h93 #[(.int .i64 (0 : Int))] 3 fun a94 h95 => n2 x0b x0n x0c a92 a94 ds Kn Kr h95
theorem n1_ok (x0b : Option Addr) (x0n : Nat) (x0c : Nat) (x1b : Option Addr) (x1n : Nat) (x1c : Nat) (ds : List Deferred) (Kn : T0) (Kr : T0) (g : Env) (hg : E1 g x0b x0n x0c x1b x1n x1c ds) (h : H) (hS : n1 x0b x0n x0c x1b x1n x1c ds Kn Kr h) : wpC none Try.prog 21 code (Q0 Kn Kr) g h := by
  obtain ⟨hg0, hg1, hds⟩ := hg
  refine wpC_seq' (x := n1_c1) (y := n1_c2) (Q' := (Q3 (fun z0b z0n z0c z3 z4 zds h => n2 z0b z0n z0c z3 z4 zds Kn Kr h) Kr)) (by kernel_rfl) ?_ ?_
  · refine wpC_of_wpx (by kernel_rfl) (by kernel_rfl) (g' := ((⟨g.v, ds⟩ : Env).upd (some 0) (.slice x0b x0n x0c)).upd (some 1) (.slice x1b x1n x1c)) (by rw [env_ds hds, upd_self hg0, upd_self hg1]) ?_
    have e : (n1 x0b x0n x0c x1b x1n x1c ds Kn Kr h) = wpx none Try.prog 21 n1_c1 (Q3 (fun z0b z0n z0c z3 z4 zds h => n2 z0b z0n z0c z3 z4 zds Kn Kr h) Kr) (((⟨g.v, ds⟩ : Env).upd (some 0) (.slice x0b x0n x0c)).upd (some 1) (.slice x1b x1n x1c)) h := by kernel_rfl
    exact e ▸ hS
  · intro e g' h' hq
    cases e with
    | normal =>
      have hq : D2 (fun z0b z0n z0c z3 z4 zds h => n2 z0b z0n z0c z3 z4 zds Kn Kr h) g' h' := hq
      obtain ⟨y0b, y0n, y0c, y3, y4, yds, hg', hq⟩ := D2_ok hq
      exact n2_ok y0b y0n y0c y3 y4 yds Kn Kr g' hg' h' hq
    | _ => exact hq
/-- WHAT tympan/marks.Lost ASKS -/
abbrev asks (x0b : Option Addr) (x0n : Nat) (x0c : Nat) (x1b : Option Addr) (x1n : Nat) (x1c : Nat) (K : Value → H → Prop) (h : H) : Prop := n1 x0b x0n x0c x1b x1n x1c [] (fun y4 ds h => leaveX ds h fun h => ∃ i96, cell h y4 = some (.int .i64 i96) ∧ (K (.int .i64 i96) h)) (fun y4 ds h => leaveX ds h fun h => ∃ i96, cell h y4 = some (.int .i64 i96) ∧ (K (.int .i64 i96) h)) h
theorem ok (x0b : Option Addr) (x0n : Nat) (x0c : Nat) (x1b : Option Addr) (x1n : Nat) (x1c : Nat) (K : Value → H → Prop) (h : H) (hS : asks x0b x0n x0c x1b x1n x1c K h) : HCalls Try.prog 19 ⟨[(.slice x0b x0n x0c), (.slice x1b x1n x1c)]⟩ h K := by
  refine calls_of_wpC (c := code) Try.func19 (by kernel_rfl) (Nat.le_of_ble_eq_true (by kernel_rfl)) ?_
  refine (n1_ok x0b x0n x0c x1b x1n x1c [] (fun y4 ds h => leaveX ds h fun h => ∃ i96, cell h y4 = some (.int .i64 i96) ∧ (K (.int .i64 i96) h)) (fun y4 ds h => leaveX ds h fun h => ∃ i96, cell h y4 = some (.int .i64 i96) ∧ (K (.int .i64 i96) h)) (env0 [(.slice x0b x0n x0c), (.slice x1b x1n x1c)]) ⟨rfl, rfl, rfl⟩ h hS).mono ?_
  intro e g' h' hq
  cases e with
  | normal =>
    have hq : D0 (fun y4 ds h => leaveX ds h fun h => ∃ i96, cell h y4 = some (.int .i64 i96) ∧ (K (.int .i64 i96) h)) g' h' := hq
    obtain ⟨y4, ds, ⟨hg4, hd⟩, hq⟩ := D0_ok hq
    show leaveX g'.ds h' _
    rw [hd]
    show leaveX ds h' fun h => vAddr (g'.v 4) fun a97 => ldx Try.prog 3 a97 h fun v98 => K v98 h
    rw [hg4]
    exact hq
  | ret =>
    have hq : D0 (fun y4 ds h => leaveX ds h fun h => ∃ i96, cell h y4 = some (.int .i64 i96) ∧ (K (.int .i64 i96) h)) g' h' := hq
    obtain ⟨y4, ds, ⟨hg4, hd⟩, hq⟩ := D0_ok hq
    show leaveX g'.ds h' _
    rw [hd]
    show leaveX ds h' fun h => vAddr (g'.v 4) fun a97 => ldx Try.prog 3 a97 h fun v98 => K v98 h
    rw [hg4]
    exact hq
  | _ => exact hq
end Sx.marks_Lost

/-! ### tympan/tympanref12.Lost -/
namespace Sx.r12_Lost
noncomputable def code : Code := bodyOf Try.f20
abbrev T0 := Int → H → Prop
def E0 (g : Env) (x4 : Int) : Prop := g.v 4 = (.int .i64 x4) ∧ g.ds = []
def D0 (K : T0) (g : Env) (h : H) : Prop := nilDs g.ds (vInt .i64 (g.v 4) fun i1 => K i1 h)
theorem D0_ok {K : T0} {g : Env} {h : H} (hq : D0 K g h) : ∃ (x4 : Int), E0 g x4 ∧ K x4 h := by
  obtain ⟨hd, hq⟩ := nilDs_ok hq
  obtain ⟨y3, e2, q4⟩ := vInt_ok hq
  exact ⟨y3, ⟨e2, hd⟩, q4⟩
def Q0 (Kn : T0) (Kr : T0) : XPost
  | .normal, g, h => D0 Kn g h
  | .ret, g, h => D0 Kr g h
  | _, _, _ => False
abbrev T1 := (Option Addr) → Nat → Nat → (Option Addr) → Nat → Nat → H → Prop
def E1 (g : Env) (x0b : Option Addr) (x0n : Nat) (x0c : Nat) (x1b : Option Addr) (x1n : Nat) (x1c : Nat) : Prop := g.v 0 = (.slice x0b x0n x0c) ∧ g.v 1 = (.slice x1b x1n x1c) ∧ g.ds = []
def D1 (K : T1) (g : Env) (h : H) : Prop := nilDs g.ds (vSlice (g.v 0) fun s5b s5n s5c => vSlice (g.v 1) fun s6b s6n s6c => K s5b s5n s5c s6b s6n s6c h)
theorem D1_ok {K : T1} {g : Env} {h : H} (hq : D1 K g h) : ∃ (x0b : Option Addr) (x0n : Nat) (x0c : Nat) (x1b : Option Addr) (x1n : Nat) (x1c : Nat), E1 g x0b x0n x0c x1b x1n x1c ∧ K x0b x0n x0c x1b x1n x1c h := by
  obtain ⟨hd, hq⟩ := nilDs_ok hq
  obtain ⟨y8b, y8n, y8c, e7, q9⟩ := vSlice_ok hq
  obtain ⟨y11b, y11n, y11c, e10, q12⟩ := vSlice_ok q9
  exact ⟨y8b, y8n, y8c, y11b, y11n, y11c, ⟨e7, e10, hd⟩, q12⟩
noncomputable def n1_c1 : Code := cFst code
noncomputable def n1_c2 : Code := cSnd code
noncomputable def n2_c1 : Code := cFst n1_c2
noncomputable def n2_c2 : Code := cSnd n1_c2
abbrev T2 := H → Prop
def E2 (g : Env)  : Prop := g.ds = []
def D2 (K : T2) (g : Env) (h : H) : Prop := nilDs g.ds (K h)
theorem D2_ok {K : T2} {g : Env} {h : H} (hq : D2 K g h) : E2 g  ∧ K  h := by
  obtain ⟨hd, hq⟩ := nilDs_ok hq
  skip
  exact ⟨hd, hq⟩
abbrev n3  (Kn : T0) (Kr : T0) (h : H) : Prop :=
  Kr (0 : Int) h
theorem n3_ok  (Kn : T0) (Kr : T0) (g : Env) (hg : E2 g ) (h : H) (hS : n3  Kn Kr h) : wpC none Try.prog 44 n2_c2 (Q0 Kn Kr) g h := by
  have hds : g.ds = [] := hg
  refine wpC_of_wpx (by kernel_rfl) (by kernel_rfl) (g' := ⟨g.v, []⟩) (by rw [env_ds hds]) ?_
  have e : (n3  Kn Kr h) = wpx none Try.prog 44 n2_c2 (Q0 Kn Kr) (⟨g.v, []⟩) h := by kernel_rfl
  exact e ▸ hS
def Q1 (Kn : T2) (Kr : T0) : XPost
  | .normal, g, h => D2 Kn g h
  | .ret, g, h => D0 Kr g h
  | _, _, _ => False
noncomputable def n4_c1 : Code := cFst n2_c1
noncomputable def n4_c2 : Code := cSnd n2_c1
abbrev T3 := (Option Addr) → Nat → Nat → (Option Addr) → Nat → Nat → Int → H → Prop
def E3 (g : Env) (x0b : Option Addr) (x0n : Nat) (x0c : Nat) (x1b : Option Addr) (x1n : Nat) (x1c : Nat) (x5 : Int) : Prop := g.v 0 = (.slice x0b x0n x0c) ∧ g.v 1 = (.slice x1b x1n x1c) ∧ g.v 5 = (.int .i64 x5) ∧ g.ds = []
def D3 (K : T3) (g : Env) (h : H) : Prop := nilDs g.ds (vSlice (g.v 0) fun s13b s13n s13c => vSlice (g.v 1) fun s14b s14n s14c => vInt .i64 (g.v 5) fun i15 => K s13b s13n s13c s14b s14n s14c i15 h)
theorem D3_ok {K : T3} {g : Env} {h : H} (hq : D3 K g h) : ∃ (x0b : Option Addr) (x0n : Nat) (x0c : Nat) (x1b : Option Addr) (x1n : Nat) (x1c : Nat) (x5 : Int), E3 g x0b x0n x0c x1b x1n x1c x5 ∧ K x0b x0n x0c x1b x1n x1c x5 h := by
  obtain ⟨hd, hq⟩ := nilDs_ok hq
  obtain ⟨y17b, y17n, y17c, e16, q18⟩ := vSlice_ok hq
  obtain ⟨y20b, y20n, y20c, e19, q21⟩ := vSlice_ok q18
  obtain ⟨y23, e22, q24⟩ := vInt_ok q21
  exact ⟨y17b, y17n, y17c, y20b, y20n, y20c, y23, ⟨e16, e19, e22, hd⟩, q24⟩
noncomputable def n5_c1 : Code := cFst n4_c2
def Q2 (Kn : T2) (Ke0 : T2) (Kr : T0) : XPost
  | .normal, g, h => D2 Kn g h
  | .ret, g, h => D0 Kr g h
  | .exit id, g, h => cond (Nat.beq id 0) (D2 Ke0 g h) (False)
  | _, _, _ => False
noncomputable def n6_c1 : Code := cFst n5_c1
def Q3 (Kn : T3) (Ke0 : T2) (Kr : T0) : XPost
  | .normal, g, h => D3 Kn g h
  | .ret, g, h => D0 Kr g h
  | .exit id, g, h => cond (Nat.beq id 0) (D2 Ke0 g h) (False)
  | _, _, _ => False
noncomputable def n7_c1 : Code := cFst n6_c1
noncomputable def n7_c2 : Code := cSnd n6_c1
noncomputable def n8_c1 : Code := cFst n7_c2
noncomputable def n8_c2 : Code := cSnd n7_c2
abbrev n9 (x0b : Option Addr) (x0n : Nat) (x0c : Nat) (x1b : Option Addr) (x1n : Nat) (x1c : Nat) (x5 : Int) (Kn : T3) (Ke0 : T2) (Kr : T0) (h : H) : Prop :=
  Rng .i64 (x5 - (1 : Int)) ∧ (Kn x0b x0n x0c x1b x1n x1c (x5 - (1 : Int)) h)
theorem n9_ok (x0b : Option Addr) (x0n : Nat) (x0c : Nat) (x1b : Option Addr) (x1n : Nat) (x1c : Nat) (x5 : Int) (Kn : T3) (Ke0 : T2) (Kr : T0) (g : Env) (hg : E3 g x0b x0n x0c x1b x1n x1c x5) (h : H) (hS : n9 x0b x0n x0c x1b x1n x1c x5 Kn Ke0 Kr h) : wpC none Try.prog 44 n8_c2 (Q3 Kn Ke0 Kr) g h := by
  obtain ⟨hg0, hg1, hg5, hds⟩ := hg
  refine wpC_of_wpx (by kernel_rfl) (by kernel_rfl) (g' := (((⟨g.v, []⟩ : Env).upd (some 0) (.slice x0b x0n x0c)).upd (some 1) (.slice x1b x1n x1c)).upd (some 5) (.int .i64 x5)) (by rw [env_ds hds, upd_self hg0, upd_self hg1, upd_self hg5]) ?_
  have e : (n9 x0b x0n x0c x1b x1n x1c x5 Kn Ke0 Kr h) = wpx none Try.prog 44 n8_c2 (Q3 Kn Ke0 Kr) ((((⟨g.v, []⟩ : Env).upd (some 0) (.slice x0b x0n x0c)).upd (some 1) (.slice x1b x1n x1c)).upd (some 5) (.int .i64 x5)) h := by kernel_rfl
  exact e ▸ hS
noncomputable def n10_c1 : Code := cFst n8_c1
def Q4 (Kn : T3) (Ke1 : T3) (Ke0 : T2) (Kr : T0) : XPost
  | .normal, g, h => D3 Kn g h
  | .ret, g, h => D0 Kr g h
  | .exit id, g, h => cond (Nat.beq id 1) (D3 Ke1 g h) (cond (Nat.beq id 0) (D2 Ke0 g h) (False))
  | _, _, _ => False
noncomputable def n11_c1 : Code := cFst n10_c1
noncomputable def n11_c2 : Code := cSnd n10_c1
abbrev T4 := (Option Addr) → Nat → Nat → (Option Addr) → Nat → Nat → Int → Bool → H → Prop
def E4 (g : Env) (x0b : Option Addr) (x0n : Nat) (x0c : Nat) (x1b : Option Addr) (x1n : Nat) (x1c : Nat) (x5 : Int) (x6 : Bool) : Prop := g.v 0 = (.slice x0b x0n x0c) ∧ g.v 1 = (.slice x1b x1n x1c) ∧ g.v 5 = (.int .i64 x5) ∧ g.v 6 = (.bool x6) ∧ g.ds = []
def D4 (K : T4) (g : Env) (h : H) : Prop := nilDs g.ds (vSlice (g.v 0) fun s25b s25n s25c => vSlice (g.v 1) fun s26b s26n s26c => vInt .i64 (g.v 5) fun i27 => vBool (g.v 6) fun b28 => K s25b s25n s25c s26b s26n s26c i27 b28 h)
theorem D4_ok {K : T4} {g : Env} {h : H} (hq : D4 K g h) : ∃ (x0b : Option Addr) (x0n : Nat) (x0c : Nat) (x1b : Option Addr) (x1n : Nat) (x1c : Nat) (x5 : Int) (x6 : Bool), E4 g x0b x0n x0c x1b x1n x1c x5 x6 ∧ K x0b x0n x0c x1b x1n x1c x5 x6 h := by
  obtain ⟨hd, hq⟩ := nilDs_ok hq
  obtain ⟨y30b, y30n, y30c, e29, q31⟩ := vSlice_ok hq
  obtain ⟨y33b, y33n, y33c, e32, q34⟩ := vSlice_ok q31
  obtain ⟨y36, e35, q37⟩ := vInt_ok q34
  obtain ⟨y39, e38, q40⟩ := vBool_ok q37
  exact ⟨y30b, y30n, y30c, y33b, y33n, y33c, y36, y39, ⟨e29, e32, e35, e38, hd⟩, q40⟩
noncomputable def n12_c1 : Code := cFst n11_c2
noncomputable def n12_c2 : Code := cSnd n11_c2
abbrev n13 (x0b : Option Addr) (x0n : Nat) (x0c : Nat) (x1b : Option Addr) (x1n : Nat) (x1c : Nat) (x5 : Int) (x6 : Bool) (Kn : T3) (Ke1 : T3) (Ke0 : T2) (Kr : T0) (h : H) : Prop :=
  cond x6 (Rng .i64 (x5 + (1 : Int)) ∧ (Kr (x5 + (1 : Int)) h)) (Kn x0b x0n x0c x1b x1n x1c x5 h)
theorem n13_ok (x0b : Option Addr) (x0n : Nat) (x0c : Nat) (x1b : Option Addr) (x1n : Nat) (x1c : Nat) (x5 : Int) (x6 : Bool) (Kn : T3) (Ke1 : T3) (Ke0 : T2) (Kr : T0) (g : Env) (hg : E4 g x0b x0n x0c x1b x1n x1c x5 x6) (h : H) (hS : n13 x0b x0n x0c x1b x1n x1c x5 x6 Kn Ke1 Ke0 Kr h) : wpC none Try.prog 44 n12_c2 (Q4 Kn Ke1 Ke0 Kr) g h := by
  obtain ⟨hg0, hg1, hg5, hg6, hds⟩ := hg
  refine wpC_of_wpx (by kernel_rfl) (by kernel_rfl) (g' := ((((⟨g.v, []⟩ : Env).upd (some 0) (.slice x0b x0n x0c)).upd (some 1) (.slice x1b x1n x1c)).upd (some 5) (.int .i64 x5)).upd (some 6) (.bool x6)) (by rw [env_ds hds, upd_self hg0, upd_self hg1, upd_self hg5, upd_self hg6]) ?_
  have e : (n13 x0b x0n x0c x1b x1n x1c x5 x6 Kn Ke1 Ke0 Kr h) = wpx none Try.prog 44 n12_c2 (Q4 Kn Ke1 Ke0 Kr) (((((⟨g.v, []⟩ : Env).upd (some 0) (.slice x0b x0n x0c)).upd (some 1) (.slice x1b x1n x1c)).upd (some 5) (.int .i64 x5)).upd (some 6) (.bool x6)) h := by kernel_rfl
  exact e ▸ hS
def Q5 (Kn : T4) (Ke1 : T3) (Ke0 : T2) (Kr : T0) : XPost
  | .normal, g, h => D4 Kn g h
  | .ret, g, h => D0 Kr g h
  | .exit id, g, h => cond (Nat.beq id 1) (D3 Ke1 g h) (cond (Nat.beq id 0) (D2 Ke0 g h) (False))
  | _, _, _ => False
noncomputable def n14_c1 : Code := cFst n12_c1
noncomputable def n14_c2 : Code := cSnd n12_c1
abbrev T5 := (Option Addr) → Nat → Nat → (Option Addr) → Nat → Nat → Int → Bool → Int → H → Prop
def E5 (g : Env) (x0b : Option Addr) (x0n : Nat) (x0c : Nat) (x1b : Option Addr) (x1n : Nat) (x1c : Nat) (x5 : Int) (x6 : Bool) (x7 : Int) : Prop := g.v 0 = (.slice x0b x0n x0c) ∧ g.v 1 = (.slice x1b x1n x1c) ∧ g.v 5 = (.int .i64 x5) ∧ g.v 6 = (.bool x6) ∧ g.v 7 = (.int .i64 x7) ∧ g.ds = []
def D5 (K : T5) (g : Env) (h : H) : Prop := nilDs g.ds (vSlice (g.v 0) fun s41b s41n s41c => vSlice (g.v 1) fun s42b s42n s42c => vInt .i64 (g.v 5) fun i43 => vBool (g.v 6) fun b44 => vInt .i64 (g.v 7) fun i45 => K s41b s41n s41c s42b s42n s42c i43 b44 i45 h)
theorem D5_ok {K : T5} {g : Env} {h : H} (hq : D5 K g h) : ∃ (x0b : Option Addr) (x0n : Nat) (x0c : Nat) (x1b : Option Addr) (x1n : Nat) (x1c : Nat) (x5 : Int) (x6 : Bool) (x7 : Int), E5 g x0b x0n x0c x1b x1n x1c x5 x6 x7 ∧ K x0b x0n x0c x1b x1n x1c x5 x6 x7 h := by
  obtain ⟨hd, hq⟩ := nilDs_ok hq
  obtain ⟨y47b, y47n, y47c, e46, q48⟩ := vSlice_ok hq
  obtain ⟨y50b, y50n, y50c, e49, q51⟩ := vSlice_ok q48
  obtain ⟨y53, e52, q54⟩ := vInt_ok q51
  obtain ⟨y56, e55, q57⟩ := vBool_ok q54
  obtain ⟨y59, e58, q60⟩ := vInt_ok q57
  exact ⟨y47b, y47n, y47c, y50b, y50n, y50c, y53, y56, y59, ⟨e46, e49, e52, e55, e58, hd⟩, q60⟩
noncomputable def n15_c1 : Code := cFst n14_c2
def Q6 (Kn : T4) (Ke2 : T4) (Ke1 : T3) (Ke0 : T2) (Kr : T0) : XPost
  | .normal, g, h => D4 Kn g h
  | .ret, g, h => D0 Kr g h
  | .exit id, g, h => cond (Nat.beq id 2) (D4 Ke2 g h) (cond (Nat.beq id 1) (D3 Ke1 g h) (cond (Nat.beq id 0) (D2 Ke0 g h) (False)))
  | _, _, _ => False
noncomputable def n16_c1 : Code := cFst n15_c1
def Q7 (Kn : T5) (Ke2 : T4) (Ke1 : T3) (Ke0 : T2) (Kr : T0) : XPost
  | .normal, g, h => D5 Kn g h
  | .ret, g, h => D0 Kr g h
  | .exit id, g, h => cond (Nat.beq id 2) (D4 Ke2 g h) (cond (Nat.beq id 1) (D3 Ke1 g h) (cond (Nat.beq id 0) (D2 Ke0 g h) (False)))
  | _, _, _ => False
def n16_L (Kn : T4) (Ke2 : T4) (Ke1 : T3) (Ke0 : T2) (Kr : T0) : Nat → (Option Addr) → Nat → Nat → (Option Addr) → Nat → Nat → Int → Bool → Int → H → Prop
  | 0, _, _, _, _, _, _, _, _, _, _ => False
  | N + 1, x0b, x0n, x0c, x1b, x1n, x1c, x5, x6, x7, h => Spl (x7 < (x1n : Int)) (cond x6 (Rng .i64 (x7 + (1 : Int)) ∧ (n16_L Kn Ke2 Ke1 Ke0 Kr N x0b x0n x0c x1b x1n x1c x5 true (x7 + (1 : Int)) h)) ((0 ≤ x7 ∧ x7 < (x1n : Int)) ∧ (vSome x1b fun a61 => ∃ i62, cell h ((a61.add (Int.toNat x7 * 4)).add 0) = some (.int .i64 i62) ∧ ((0 ≤ x5 ∧ x5 < (x0n : Int)) ∧ (vSome x0b fun a63 => ∃ i64, cell h ((a63.add (Int.toNat x5 * 3)).add 0) = some (.int .i64 i64) ∧ (Spl (i62 = i64) (Rng .i64 (x7 + (1 : Int)) ∧ (n16_L Kn Ke2 Ke1 Ke0 Kr N x0b x0n x0c x1b x1n x1c x5 true (x7 + (1 : Int)) h)) (Rng .i64 (x7 + (1 : Int)) ∧ (n16_L Kn Ke2 Ke1 Ke0 Kr N x0b x0n x0c x1b x1n x1c x5 false (x7 + (1 : Int)) h)))))))) (Ke2 x0b x0n x0c x1b x1n x1c x5 x6 h)
abbrev n16 (x0b : Option Addr) (x0n : Nat) (x0c : Nat) (x1b : Option Addr) (x1n : Nat) (x1c : Nat) (x5 : Int) (x6 : Bool) (x7 : Int) (Kn : T4) (Ke2 : T4) (Ke1 : T3) (Ke0 : T2) (Kr : T0) (h : H) : Prop := ∃ N, n16_L Kn Ke2 Ke1 Ke0 Kr N x0b x0n x0c x1b x1n x1c x5 x6 x7 h
theorem n16_ok (x0b : Option Addr) (x0n : Nat) (x0c : Nat) (x1b : Option Addr) (x1n : Nat) (x1c : Nat) (x5 : Int) (x6 : Bool) (x7 : Int) (Kn : T4) (Ke2 : T4) (Ke1 : T3) (Ke0 : T2) (Kr : T0) (g : Env) (hg : E5 g x0b x0n x0c x1b x1n x1c x5 x6 x7) (h : H) (hS : n16 x0b x0n x0c x1b x1n x1c x5 x6 x7 Kn Ke2 Ke1 Ke0 Kr h) : wpC none Try.prog 44 n15_c1 (Q6 Kn Ke2 Ke1 Ke0 Kr) g h := by
  obtain ⟨N0, hS⟩ := hS
  refine wpC_loop' (x := n16_c1) (by kernel_rfl) (fun k g h => ∃ (x0b : Option Addr) (x0n : Nat) (x0c : Nat) (x1b : Option Addr) (x1n : Nat) (x1c : Nat) (x5 : Int) (x6 : Bool) (x7 : Int), E5 g x0b x0n x0c x1b x1n x1c x5 x6 x7 ∧ n16_L Kn Ke2 Ke1 Ke0 Kr k x0b x0n x0c x1b x1n x1c x5 x6 x7 h) (fun g h hr => ?_) (fun N g h hr => ?_) N0 ⟨x0b, x0n, x0c, x1b, x1n, x1c, x5, x6, x7, hg, hS⟩
  · obtain ⟨x0b, x0n, x0c, x1b, x1n, x1c, x5, x6, x7, hg, hS⟩ := hr
    exact hS.elim
  · obtain ⟨x0b, x0n, x0c, x1b, x1n, x1c, x5, x6, x7, hg, hS⟩ := hr
    have hw : wpC none Try.prog 44 n16_c1 (Q7 (fun z0b z0n z0c z1b z1n z1c z5 z6 z7 h => n16_L Kn Ke2 Ke1 Ke0 Kr N z0b z0n z0c z1b z1n z1c z5 z6 z7 h) Ke2 Ke1 Ke0 Kr) g h := by
      obtain ⟨hg0, hg1, hg5, hg6, hg7, hds⟩ := hg
      refine wpC_of_wpx (by kernel_rfl) (by kernel_rfl) (g' := (((((⟨g.v, []⟩ : Env).upd (some 0) (.slice x0b x0n x0c)).upd (some 1) (.slice x1b x1n x1c)).upd (some 5) (.int .i64 x5)).upd (some 6) (.bool x6)).upd (some 7) (.int .i64 x7)) (by rw [env_ds hds, upd_self hg0, upd_self hg1, upd_self hg5, upd_self hg6, upd_self hg7]) ?_
      have e : (n16_L Kn Ke2 Ke1 Ke0 Kr (N + 1) x0b x0n x0c x1b x1n x1c x5 x6 x7 h) = wpx none Try.prog 44 n16_c1 (Q7 (fun z0b z0n z0c z1b z1n z1c z5 z6 z7 h => n16_L Kn Ke2 Ke1 Ke0 Kr N z0b z0n z0c z1b z1n z1c z5 z6 z7 h) Ke2 Ke1 Ke0 Kr) ((((((⟨g.v, []⟩ : Env).upd (some 0) (.slice x0b x0n x0c)).upd (some 1) (.slice x1b x1n x1c)).upd (some 5) (.int .i64 x5)).upd (some 6) (.bool x6)).upd (some 7) (.int .i64 x7)) h := by kernel_rfl
      exact e ▸ hS
    refine hw.mono ?_
    intro e g' h' hq
    cases e with
    | normal => exact D5_ok (K := (fun z0b z0n z0c z1b z1n z1c z5 z6 z7 h => n16_L Kn Ke2 Ke1 Ke0 Kr N z0b z0n z0c z1b z1n z1c z5 z6 z7 h)) hq
    | _ => exact hq
abbrev n15 (x0b : Option Addr) (x0n : Nat) (x0c : Nat) (x1b : Option Addr) (x1n : Nat) (x1c : Nat) (x5 : Int) (x6 : Bool) (x7 : Int) (Kn : T4) (Ke1 : T3) (Ke0 : T2) (Kr : T0) (h : H) : Prop := n16 x0b x0n x0c x1b x1n x1c x5 x6 x7 Kn Kn Ke1 Ke0 Kr h
theorem n15_ok (x0b : Option Addr) (x0n : Nat) (x0c : Nat) (x1b : Option Addr) (x1n : Nat) (x1c : Nat) (x5 : Int) (x6 : Bool) (x7 : Int) (Kn : T4) (Ke1 : T3) (Ke0 : T2) (Kr : T0) (g : Env) (hg : E5 g x0b x0n x0c x1b x1n x1c x5 x6 x7) (h : H) (hS : n15 x0b x0n x0c x1b x1n x1c x5 x6 x7 Kn Ke1 Ke0 Kr h) : wpC none Try.prog 44 n14_c2 (Q5 Kn Ke1 Ke0 Kr) g h := by
  refine wpC_block' (id := 2) (x := n15_c1) (by kernel_rfl) (n16_ok x0b x0n x0c x1b x1n x1c x5 x6 x7 Kn Kn Ke1 Ke0 Kr g hg h hS) ?_
  intro e g' h' hq
  cases e <;> exact hq
def Q8 (Kn : T5) (Ke1 : T3) (Ke0 : T2) (Kr : T0) : XPost
  | .normal, g, h => D5 Kn g h
  | .ret, g, h => D0 Kr g h
  | .exit id, g, h => cond (Nat.beq id 1) (D3 Ke1 g h) (cond (Nat.beq id 0) (D2 Ke0 g h) (False))
  | _, _, _ => False
abbrev n14 (x0b : Option Addr) (x0n : Nat) (x0c : Nat) (x1b : Option Addr) (x1n : Nat) (x1c : Nat) (x5 : Int) (x6 : Bool) (Kn : T4) (Ke1 : T3) (Ke0 : T2) (Kr : T0) (h : H) : Prop :=
  n15 x0b x0n x0c x1b x1n x1c x5 x6 (0 : Int) Kn Ke1 Ke0 Kr h
theorem n14_ok (x0b : Option Addr) (x0n : Nat) (x0c : Nat) (x1b : Option Addr) (x1n : Nat) (x1c : Nat) (x5 : Int) (x6 : Bool) (Kn : T4) (Ke1 : T3) (Ke0 : T2) (Kr : T0) (g : Env) (hg : E4 g x0b x0n x0c x1b x1n x1c x5 x6) (h : H) (hS : n14 x0b x0n x0c x1b x1n x1c x5 x6 Kn Ke1 Ke0 Kr h) : wpC none Try.prog 44 n12_c1 (Q5 Kn Ke1 Ke0 Kr) g h := by
  obtain ⟨hg0, hg1, hg5, hg6, hds⟩ := hg
  refine wpC_seq' (x := n14_c1) (y := n14_c2) (Q' := (Q8 (fun z0b z0n z0c z1b z1n z1c z5 z6 z7 h => n15 z0b z0n z0c z1b z1n z1c z5 z6 z7 Kn Ke1 Ke0 Kr h) Ke1 Ke0 Kr)) (by kernel_rfl) ?_ ?_
  · refine wpC_of_wpx (by kernel_rfl) (by kernel_rfl) (g' := ((((⟨g.v, []⟩ : Env).upd (some 0) (.slice x0b x0n x0c)).upd (some 1) (.slice x1b x1n x1c)).upd (some 5) (.int .i64 x5)).upd (some 6) (.bool x6)) (by rw [env_ds hds, upd_self hg0, upd_self hg1, upd_self hg5, upd_self hg6]) ?_
    have e : (n14 x0b x0n x0c x1b x1n x1c x5 x6 Kn Ke1 Ke0 Kr h) = wpx none Try.prog 44 n14_c1 (Q8 (fun z0b z0n z0c z1b z1n z1c z5 z6 z7 h => n15 z0b z0n z0c z1b z1n z1c z5 z6 z7 Kn Ke1 Ke0 Kr h) Ke1 Ke0 Kr) (((((⟨g.v, []⟩ : Env).upd (some 0) (.slice x0b x0n x0c)).upd (some 1) (.slice x1b x1n x1c)).upd (some 5) (.int .i64 x5)).upd (some 6) (.bool x6)) h := by kernel_rfl
    exact e ▸ hS
  · intro e g' h' hq
    cases e with
    | normal =>
      have hq : D5 (fun z0b z0n z0c z1b z1n z1c z5 z6 z7 h => n15 z0b z0n z0c z1b z1n z1c z5 z6 z7 Kn Ke1 Ke0 Kr h) g' h' := hq
      obtain ⟨y0b, y0n, y0c, y1b, y1n, y1c, y5, y6, y7, hg', hq⟩ := D5_ok hq
      exact n15_ok y0b y0n y0c y1b y1n y1c y5 y6 y7 Kn Ke1 Ke0 Kr g' hg' h' hq
    | _ => exact hq
abbrev n12 (x0b : Option Addr) (x0n : Nat) (x0c : Nat) (x1b : Option Addr) (x1n : Nat) (x1c : Nat) (x5 : Int) (x6 : Bool) (Kn : T3) (Ke1 : T3) (Ke0 : T2) (Kr : T0) (h : H) : Prop := n14 x0b x0n x0c x1b x1n x1c x5 x6 (fun z0b z0n z0c z1b z1n z1c z5 z6 h => n13 z0b z0n z0c z1b z1n z1c z5 z6 Kn Ke1 Ke0 Kr h) Ke1 Ke0 Kr h
theorem n12_ok (x0b : Option Addr) (x0n : Nat) (x0c : Nat) (x1b : Option Addr) (x1n : Nat) (x1c : Nat) (x5 : Int) (x6 : Bool) (Kn : T3) (Ke1 : T3) (Ke0 : T2) (Kr : T0) (g : Env) (hg : E4 g x0b x0n x0c x1b x1n x1c x5 x6) (h : H) (hS : n12 x0b x0n x0c x1b x1n x1c x5 x6 Kn Ke1 Ke0 Kr h) : wpC none Try.prog 44 n11_c2 (Q4 Kn Ke1 Ke0 Kr) g h := by
  refine wpC_seq' (x := n12_c1) (y := n12_c2) (by kernel_rfl) (n14_ok x0b x0n x0c x1b x1n x1c x5 x6 (fun z0b z0n z0c z1b z1n z1c z5 z6 h => n13 z0b z0n z0c z1b z1n z1c z5 z6 Kn Ke1 Ke0 Kr h) Ke1 Ke0 Kr g hg h hS) ?_
  intro e g' h' hq
  cases e with
  | normal =>
    have hq : D4 (fun z0b z0n z0c z1b z1n z1c z5 z6 h => n13 z0b z0n z0c z1b z1n z1c z5 z6 Kn Ke1 Ke0 Kr h) g' h' := hq
    obtain ⟨y0b, y0n, y0c, y1b, y1n, y1c, y5, y6, hg', hq⟩ := D4_ok hq
    exact n13_ok y0b y0n y0c y1b y1n y1c y5 y6 Kn Ke1 Ke0 Kr g' hg' h' hq
  | _ => exact hq
abbrev n11 (x0b : Option Addr) (x0n : Nat) (x0c : Nat) (x1b : Option Addr) (x1n : Nat) (x1c : Nat) (x5 : Int) (Kn : T3) (Ke1 : T3) (Ke0 : T2) (Kr : T0) (h : H) : Prop :=
  (0 ≤ x5 ∧ x5 < (x0n : Int)) ∧ (vSome x0b fun a65 => ∃ i66, cell h ((a65.add (Int.toNat x5 * 3)).add 0) = some (.int .i64 i66) ∧ (Spl (i66 < (0 : Int)) (n12 x0b x0n x0c x1b x1n x1c x5 true Kn Ke1 Ke0 Kr h) (n12 x0b x0n x0c x1b x1n x1c x5 false Kn Ke1 Ke0 Kr h)))
theorem n11_ok (x0b : Option Addr) (x0n : Nat) (x0c : Nat) (x1b : Option Addr) (x1n : Nat) (x1c : Nat) (x5 : Int) (Kn : T3) (Ke1 : T3) (Ke0 : T2) (Kr : T0) (g : Env) (hg : E3 g x0b x0n x0c x1b x1n x1c x5) (h : H) (hS : n11 x0b x0n x0c x1b x1n x1c x5 Kn Ke1 Ke0 Kr h) : wpC none Try.prog 44 n10_c1 (Q4 Kn Ke1 Ke0 Kr) g h := by
  obtain ⟨hg0, hg1, hg5, hds⟩ := hg
  refine wpC_seq' (x := n11_c1) (y := n11_c2) (Q' := (Q5 (fun z0b z0n z0c z1b z1n z1c z5 z6 h => n12 z0b z0n z0c z1b z1n z1c z5 z6 Kn Ke1 Ke0 Kr h) Ke1 Ke0 Kr)) (by kernel_rfl) ?_ ?_
  · refine wpC_of_wpx (by kernel_rfl) (by kernel_rfl) (g' := (((⟨g.v, []⟩ : Env).upd (some 0) (.slice x0b x0n x0c)).upd (some 1) (.slice x1b x1n x1c)).upd (some 5) (.int .i64 x5)) (by rw [env_ds hds, upd_self hg0, upd_self hg1, upd_self hg5]) ?_
    have e : (n11 x0b x0n x0c x1b x1n x1c x5 Kn Ke1 Ke0 Kr h) = wpx none Try.prog 44 n11_c1 (Q5 (fun z0b z0n z0c z1b z1n z1c z5 z6 h => n12 z0b z0n z0c z1b z1n z1c z5 z6 Kn Ke1 Ke0 Kr h) Ke1 Ke0 Kr) ((((⟨g.v, []⟩ : Env).upd (some 0) (.slice x0b x0n x0c)).upd (some 1) (.slice x1b x1n x1c)).upd (some 5) (.int .i64 x5)) h := by kernel_rfl
    exact e ▸ hS
  · intro e g' h' hq
    cases e with
    | normal =>
      have hq : D4 (fun z0b z0n z0c z1b z1n z1c z5 z6 h => n12 z0b z0n z0c z1b z1n z1c z5 z6 Kn Ke1 Ke0 Kr h) g' h' := hq
      obtain ⟨y0b, y0n, y0c, y1b, y1n, y1c, y5, y6, hg', hq⟩ := D4_ok hq
      exact n12_ok y0b y0n y0c y1b y1n y1c y5 y6 Kn Ke1 Ke0 Kr g' hg' h' hq
    | _ => exact hq
abbrev n10 (x0b : Option Addr) (x0n : Nat) (x0c : Nat) (x1b : Option Addr) (x1n : Nat) (x1c : Nat) (x5 : Int) (Kn : T3) (Ke0 : T2) (Kr : T0) (h : H) : Prop := n11 x0b x0n x0c x1b x1n x1c x5 Kn Kn Ke0 Kr h
theorem n10_ok (x0b : Option Addr) (x0n : Nat) (x0c : Nat) (x1b : Option Addr) (x1n : Nat) (x1c : Nat) (x5 : Int) (Kn : T3) (Ke0 : T2) (Kr : T0) (g : Env) (hg : E3 g x0b x0n x0c x1b x1n x1c x5) (h : H) (hS : n10 x0b x0n x0c x1b x1n x1c x5 Kn Ke0 Kr h) : wpC none Try.prog 44 n8_c1 (Q3 Kn Ke0 Kr) g h := by
  refine wpC_block' (id := 1) (x := n10_c1) (by kernel_rfl) (n11_ok x0b x0n x0c x1b x1n x1c x5 Kn Kn Ke0 Kr g hg h hS) ?_
  intro e g' h' hq
  cases e <;> exact hq
abbrev n8 (x0b : Option Addr) (x0n : Nat) (x0c : Nat) (x1b : Option Addr) (x1n : Nat) (x1c : Nat) (x5 : Int) (Kn : T3) (Ke0 : T2) (Kr : T0) (h : H) : Prop := n10 x0b x0n x0c x1b x1n x1c x5 (fun z0b z0n z0c z1b z1n z1c z5 h => n9 z0b z0n z0c z1b z1n z1c z5 Kn Ke0 Kr h) Ke0 Kr h
theorem n8_ok (x0b : Option Addr) (x0n : Nat) (x0c : Nat) (x1b : Option Addr) (x1n : Nat) (x1c : Nat) (x5 : Int) (Kn : T3) (Ke0 : T2) (Kr : T0) (g : Env) (hg : E3 g x0b x0n x0c x1b x1n x1c x5) (h : H) (hS : n8 x0b x0n x0c x1b x1n x1c x5 Kn Ke0 Kr h) : wpC none Try.prog 44 n7_c2 (Q3 Kn Ke0 Kr) g h := by
  refine wpC_seq' (x := n8_c1) (y := n8_c2) (by kernel_rfl) (n10_ok x0b x0n x0c x1b x1n x1c x5 (fun z0b z0n z0c z1b z1n z1c z5 h => n9 z0b z0n z0c z1b z1n z1c z5 Kn Ke0 Kr h) Ke0 Kr g hg h hS) ?_
  intro e g' h' hq
  cases e with
  | normal =>
    have hq : D3 (fun z0b z0n z0c z1b z1n z1c z5 h => n9 z0b z0n z0c z1b z1n z1c z5 Kn Ke0 Kr h) g' h' := hq
    obtain ⟨y0b, y0n, y0c, y1b, y1n, y1c, y5, hg', hq⟩ := D3_ok hq
    exact n9_ok y0b y0n y0c y1b y1n y1c y5 Kn Ke0 Kr g' hg' h' hq
  | _ => exact hq
abbrev n7 (x0b : Option Addr) (x0n : Nat) (x0c : Nat) (x1b : Option Addr) (x1n : Nat) (x1c : Nat) (x5 : Int) (Kn : T3) (Ke0 : T2) (Kr : T0) (h : H) : Prop :=
  Spl (x5 ≥ (0 : Int)) (n8 x0b x0n x0c x1b x1n x1c x5 Kn Ke0 Kr h) (Ke0 h)
theorem n7_ok (x0b : Option Addr) (x0n : Nat) (x0c : Nat) (x1b : Option Addr) (x1n : Nat) (x1c : Nat) (x5 : Int) (Kn : T3) (Ke0 : T2) (Kr : T0) (g : Env) (hg : E3 g x0b x0n x0c x1b x1n x1c x5) (h : H) (hS : n7 x0b x0n x0c x1b x1n x1c x5 Kn Ke0 Kr h) : wpC none Try.prog 44 n6_c1 (Q3 Kn Ke0 Kr) g h := by
  obtain ⟨hg0, hg1, hg5, hds⟩ := hg
  refine wpC_seq' (x := n7_c1) (y := n7_c2) (Q' := (Q3 (fun z0b z0n z0c z1b z1n z1c z5 h => n8 z0b z0n z0c z1b z1n z1c z5 Kn Ke0 Kr h) Ke0 Kr)) (by kernel_rfl) ?_ ?_
  · refine wpC_of_wpx (by kernel_rfl) (by kernel_rfl) (g' := (((⟨g.v, []⟩ : Env).upd (some 0) (.slice x0b x0n x0c)).upd (some 1) (.slice x1b x1n x1c)).upd (some 5) (.int .i64 x5)) (by rw [env_ds hds, upd_self hg0, upd_self hg1, upd_self hg5]) ?_
    have e : (n7 x0b x0n x0c x1b x1n x1c x5 Kn Ke0 Kr h) = wpx none Try.prog 44 n7_c1 (Q3 (fun z0b z0n z0c z1b z1n z1c z5 h => n8 z0b z0n z0c z1b z1n z1c z5 Kn Ke0 Kr h) Ke0 Kr) ((((⟨g.v, []⟩ : Env).upd (some 0) (.slice x0b x0n x0c)).upd (some 1) (.slice x1b x1n x1c)).upd (some 5) (.int .i64 x5)) h := by kernel_rfl
    exact e ▸ hS
  · intro e g' h' hq
    cases e with
    | normal =>
      have hq : D3 (fun z0b z0n z0c z1b z1n z1c z5 h => n8 z0b z0n z0c z1b z1n z1c z5 Kn Ke0 Kr h) g' h' := hq
      obtain ⟨y0b, y0n, y0c, y1b, y1n, y1c, y5, hg', hq⟩ := D3_ok hq
      exact n8_ok y0b y0n y0c y1b y1n y1c y5 Kn Ke0 Kr g' hg' h' hq
    | _ => exact hq
def n6_L (Kn : T2) (Ke0 : T2) (Kr : T0) : Nat → (Option Addr) → Nat → Nat → (Option Addr) → Nat → Nat → Int → H → Prop
  | 0, _, _, _, _, _, _, _, _ => False
  | N + 1, x0b, x0n, x0c, x1b, x1n, x1c, x5, h => n7 x0b x0n x0c x1b x1n x1c x5 (fun z0b z0n z0c z1b z1n z1c z5 h => n6_L Kn Ke0 Kr N z0b z0n z0c z1b z1n z1c z5 h) Ke0 Kr h
abbrev n6 (x0b : Option Addr) (x0n : Nat) (x0c : Nat) (x1b : Option Addr) (x1n : Nat) (x1c : Nat) (x5 : Int) (Kn : T2) (Ke0 : T2) (Kr : T0) (h : H) : Prop := ∃ N, n6_L Kn Ke0 Kr N x0b x0n x0c x1b x1n x1c x5 h
theorem n6_ok (x0b : Option Addr) (x0n : Nat) (x0c : Nat) (x1b : Option Addr) (x1n : Nat) (x1c : Nat) (x5 : Int) (Kn : T2) (Ke0 : T2) (Kr : T0) (g : Env) (hg : E3 g x0b x0n x0c x1b x1n x1c x5) (h : H) (hS : n6 x0b x0n x0c x1b x1n x1c x5 Kn Ke0 Kr h) : wpC none Try.prog 44 n5_c1 (Q2 Kn Ke0 Kr) g h := by
  obtain ⟨N0, hS⟩ := hS
  refine wpC_loop' (x := n6_c1) (by kernel_rfl) (fun k g h => ∃ (x0b : Option Addr) (x0n : Nat) (x0c : Nat) (x1b : Option Addr) (x1n : Nat) (x1c : Nat) (x5 : Int), E3 g x0b x0n x0c x1b x1n x1c x5 ∧ n6_L Kn Ke0 Kr k x0b x0n x0c x1b x1n x1c x5 h) (fun g h hr => ?_) (fun N g h hr => ?_) N0 ⟨x0b, x0n, x0c, x1b, x1n, x1c, x5, hg, hS⟩
  · obtain ⟨x0b, x0n, x0c, x1b, x1n, x1c, x5, hg, hS⟩ := hr
    exact hS.elim
  · obtain ⟨x0b, x0n, x0c, x1b, x1n, x1c, x5, hg, hS⟩ := hr
    refine (n7_ok x0b x0n x0c x1b x1n x1c x5 (fun z0b z0n z0c z1b z1n z1c z5 h => n6_L Kn Ke0 Kr N z0b z0n z0c z1b z1n z1c z5 h) Ke0 Kr g hg h hS).mono ?_
    intro e g' h' hq
    cases e with
    | normal => exact D3_ok (K := (fun z0b z0n z0c z1b z1n z1c z5 h => n6_L Kn Ke0 Kr N z0b z0n z0c z1b z1n z1c z5 h)) hq
    | _ => exact hq
abbrev n5 (x0b : Option Addr) (x0n : Nat) (x0c : Nat) (x1b : Option Addr) (x1n : Nat) (x1c : Nat) (x5 : Int) (Kn : T2) (Kr : T0) (h : H) : Prop := n6 x0b x0n x0c x1b x1n x1c x5 Kn Kn Kr h
theorem n5_ok (x0b : Option Addr) (x0n : Nat) (x0c : Nat) (x1b : Option Addr) (x1n : Nat) (x1c : Nat) (x5 : Int) (Kn : T2) (Kr : T0) (g : Env) (hg : E3 g x0b x0n x0c x1b x1n x1c x5) (h : H) (hS : n5 x0b x0n x0c x1b x1n x1c x5 Kn Kr h) : wpC none Try.prog 44 n4_c2 (Q1 Kn Kr) g h := by
  refine wpC_block' (id := 0) (x := n5_c1) (by kernel_rfl) (n6_ok x0b x0n x0c x1b x1n x1c x5 Kn Kn Kr g hg h hS) ?_
  intro e g' h' hq
  cases e <;> exact hq
def Q9 (Kn : T3) (Kr : T0) : XPost
  | .normal, g, h => D3 Kn g h
  | .ret, g, h => D0 Kr g h
  | _, _, _ => False
abbrev n4 (x0b : Option Addr) (x0n : Nat) (x0c : Nat) (x1b : Option Addr) (x1n : Nat) (x1c : Nat) (Kn : T2) (Kr : T0) (h : H) : Prop :=
  Rng .i64 ((x0n : Int) - (1 : Int)) ∧ (n5 x0b x0n x0c x1b x1n x1c ((x0n : Int) - (1 : Int)) Kn Kr h)
theorem n4_ok (x0b : Option Addr) (x0n : Nat) (x0c : Nat) (x1b : Option Addr) (x1n : Nat) (x1c : Nat) (Kn : T2) (Kr : T0) (g : Env) (hg : E1 g x0b x0n x0c x1b x1n x1c) (h : H) (hS : n4 x0b x0n x0c x1b x1n x1c Kn Kr h) : wpC none Try.prog 44 n2_c1 (Q1 Kn Kr) g h := by
  obtain ⟨hg0, hg1, hds⟩ := hg
  refine wpC_seq' (x := n4_c1) (y := n4_c2) (Q' := (Q9 (fun z0b z0n z0c z1b z1n z1c z5 h => n5 z0b z0n z0c z1b z1n z1c z5 Kn Kr h) Kr)) (by kernel_rfl) ?_ ?_
  · refine wpC_of_wpx (by kernel_rfl) (by kernel_rfl) (g' := ((⟨g.v, []⟩ : Env).upd (some 0) (.slice x0b x0n x0c)).upd (some 1) (.slice x1b x1n x1c)) (by rw [env_ds hds, upd_self hg0, upd_self hg1]) ?_
    have e : (n4 x0b x0n x0c x1b x1n x1c Kn Kr h) = wpx none Try.prog 44 n4_c1 (Q9 (fun z0b z0n z0c z1b z1n z1c z5 h => n5 z0b z0n z0c z1b z1n z1c z5 Kn Kr h) Kr) (((⟨g.v, []⟩ : Env).upd (some 0) (.slice x0b x0n x0c)).upd (some 1) (.slice x1b x1n x1c)) h := by kernel_rfl
    exact e ▸ hS
  · intro e g' h' hq
    cases e with
    | normal =>
      have hq : D3 (fun z0b z0n z0c z1b z1n z1c z5 h => n5 z0b z0n z0c z1b z1n z1c z5 Kn Kr h) g' h' := hq
      obtain ⟨y0b, y0n, y0c, y1b, y1n, y1c, y5, hg', hq⟩ := D3_ok hq
      exact n5_ok y0b y0n y0c y1b y1n y1c y5 Kn Kr g' hg' h' hq
    | _ => exact hq
abbrev n2 (x0b : Option Addr) (x0n : Nat) (x0c : Nat) (x1b : Option Addr) (x1n : Nat) (x1c : Nat) (Kn : T0) (Kr : T0) (h : H) : Prop := n4 x0b x0n x0c x1b x1n x1c (fun  h => n3 Kn Kr h) Kr h
theorem n2_ok (x0b : Option Addr) (x0n : Nat) (x0c : Nat) (x1b : Option Addr) (x1n : Nat) (x1c : Nat) (Kn : T0) (Kr : T0) (g : Env) (hg : E1 g x0b x0n x0c x1b x1n x1c) (h : H) (hS : n2 x0b x0n x0c x1b x1n x1c Kn Kr h) : wpC none Try.prog 44 n1_c2 (Q0 Kn Kr) g h := by
  refine wpC_seq' (x := n2_c1) (y := n2_c2) (by kernel_rfl) (n4_ok x0b x0n x0c x1b x1n x1c (fun  h => n3 Kn Kr h) Kr g hg h hS) ?_
  intro e g' h' hq
  cases e with
  | normal =>
    have hq : D2 (fun  h => n3 Kn Kr h) g' h' := hq
    obtain ⟨hg', hq⟩ := D2_ok hq
    exact n3_ok  Kn Kr g' hg' h' hq
  | _ => exact hq
def Q10 (Kn : T1) (Kr : T0) : XPost
  | .normal, g, h => D1 Kn g h
  | .ret, g, h => D0 Kr g h
  | _, _, _ => False
abbrev n1 (x0b : Option Addr) (x0n : Nat) (x0c : Nat) (x1b : Option Addr) (x1n : Nat) (x1c : Nat) (Kn : T0) (Kr : T0) (h : H) : Prop :=
  n2 x0b x0n x0c x1b x1n x1c Kn Kr h
theorem n1_ok (x0b : Option Addr) (x0n : Nat) (x0c : Nat) (x1b : Option Addr) (x1n : Nat) (x1c : Nat) (Kn : T0) (Kr : T0) (g : Env) (hg : E1 g x0b x0n x0c x1b x1n x1c) (h : H) (hS : n1 x0b x0n x0c x1b x1n x1c Kn Kr h) : wpC none Try.prog 44 code (Q0 Kn Kr) g h := by
  obtain ⟨hg0, hg1, hds⟩ := hg
  refine wpC_seq' (x := n1_c1) (y := n1_c2) (Q' := (Q10 (fun z0b z0n z0c z1b z1n z1c h => n2 z0b z0n z0c z1b z1n z1c Kn Kr h) Kr)) (by kernel_rfl) ?_ ?_
  · refine wpC_of_wpx (by kernel_rfl) (by kernel_rfl) (g' := ((⟨g.v, []⟩ : Env).upd (some 0) (.slice x0b x0n x0c)).upd (some 1) (.slice x1b x1n x1c)) (by rw [env_ds hds, upd_self hg0, upd_self hg1]) ?_
    have e : (n1 x0b x0n x0c x1b x1n x1c Kn Kr h) = wpx none Try.prog 44 n1_c1 (Q10 (fun z0b z0n z0c z1b z1n z1c h => n2 z0b z0n z0c z1b z1n z1c Kn Kr h) Kr) (((⟨g.v, []⟩ : Env).upd (some 0) (.slice x0b x0n x0c)).upd (some 1) (.slice x1b x1n x1c)) h := by kernel_rfl
    exact e ▸ hS
  · intro e g' h' hq
    cases e with
    | normal =>
      have hq : D1 (fun z0b z0n z0c z1b z1n z1c h => n2 z0b z0n z0c z1b z1n z1c Kn Kr h) g' h' := hq
      obtain ⟨y0b, y0n, y0c, y1b, y1n, y1c, hg', hq⟩ := D1_ok hq
      exact n2_ok y0b y0n y0c y1b y1n y1c Kn Kr g' hg' h' hq
    | _ => exact hq
/-- WHAT tympan/tympanref12.Lost ASKS -/
abbrev asks (x0b : Option Addr) (x0n : Nat) (x0c : Nat) (x1b : Option Addr) (x1n : Nat) (x1c : Nat) (K : Value → H → Prop) (h : H) : Prop := n1 x0b x0n x0c x1b x1n x1c (fun y4 h => K (.int .i64 y4) h) (fun y4 h => K (.int .i64 y4) h) h
theorem ok (x0b : Option Addr) (x0n : Nat) (x0c : Nat) (x1b : Option Addr) (x1n : Nat) (x1c : Nat) (K : Value → H → Prop) (h : H) (hS : asks x0b x0n x0c x1b x1n x1c K h) : HCalls Try.prog 20 ⟨[(.slice x0b x0n x0c), (.slice x1b x1n x1c)]⟩ h K := by
  refine calls_of_wpC (c := code) Try.func20 (by kernel_rfl) (Nat.le_of_ble_eq_true (by kernel_rfl)) ?_
  refine (n1_ok x0b x0n x0c x1b x1n x1c (fun y4 h => K (.int .i64 y4) h) (fun y4 h => K (.int .i64 y4) h) (env0 [(.slice x0b x0n x0c), (.slice x1b x1n x1c)]) ⟨rfl, rfl, rfl⟩ h hS).mono ?_
  intro e g' h' hq
  cases e with
  | normal =>
    have hq : D0 (fun y4 h => K (.int .i64 y4) h) g' h' := hq
    obtain ⟨y4, ⟨hg4, hd⟩, hq⟩ := D0_ok hq
    show leaveX g'.ds h' _
    rw [hd]
    show K (g'.v 4) h'
    rw [hg4]
    exact hq
  | ret =>
    have hq : D0 (fun y4 h => K (.int .i64 y4) h) g' h' := hq
    obtain ⟨y4, ⟨hg4, hd⟩, hq⟩ := D0_ok hq
    show leaveX g'.ds h' _
    rw [hd]
    show K (g'.v 4) h'
    rw [hg4]
    exact hq
  | _ => exact hq
end Sx.r12_Lost

/-! ### tympan/tympanref00.LentAttrs -/
namespace Sx.r00_LentAttrs
noncomputable def code : Code := bodyOf Try.f21
abbrev T0 := (Option Addr) → Nat → Nat → H → Prop
def E0 (g : Env) (x2b : Option Addr) (x2n : Nat) (x2c : Nat) : Prop := g.v 2 = (.slice x2b x2n x2c) ∧ g.ds = []
def D0 (K : T0) (g : Env) (h : H) : Prop := nilDs g.ds (vSlice (g.v 2) fun s1b s1n s1c => K s1b s1n s1c h)
theorem D0_ok {K : T0} {g : Env} {h : H} (hq : D0 K g h) : ∃ (x2b : Option Addr) (x2n : Nat) (x2c : Nat), E0 g x2b x2n x2c ∧ K x2b x2n x2c h := by
  obtain ⟨hd, hq⟩ := nilDs_ok hq
  obtain ⟨y3b, y3n, y3c, e2, q4⟩ := vSlice_ok hq
  exact ⟨y3b, y3n, y3c, ⟨e2, hd⟩, q4⟩
def Q0 (Kn : T0) (Kr : T0) : XPost
  | .normal, g, h => D0 Kn g h
  | .ret, g, h => D0 Kr g h
  | _, _, _ => False
abbrev T1 := (Option Addr) → Nat → Nat → H → Prop
def E1 (g : Env) (x0b : Option Addr) (x0n : Nat) (x0c : Nat) : Prop := g.v 0 = (.slice x0b x0n x0c) ∧ g.ds = []
def D1 (K : T1) (g : Env) (h : H) : Prop := nilDs g.ds (vSlice (g.v 0) fun s5b s5n s5c => K s5b s5n s5c h)
theorem D1_ok {K : T1} {g : Env} {h : H} (hq : D1 K g h) : ∃ (x0b : Option Addr) (x0n : Nat) (x0c : Nat), E1 g x0b x0n x0c ∧ K x0b x0n x0c h := by
  obtain ⟨hd, hq⟩ := nilDs_ok hq
  obtain ⟨y7b, y7n, y7c, e6, q8⟩ := vSlice_ok hq
  exact ⟨y7b, y7n, y7c, ⟨e6, hd⟩, q8⟩
abbrev n1 (x0b : Option Addr) (x0n : Nat) (x0c : Nat) (Kn : T0) (Kr : T0) (h : H) : Prop :=
  SemH Try.prog (Builtin.append_ #[23, 23] 23 ⟨[(.slice none 0 0), (.slice x0b x0n x0c)]⟩) h fun v9 h10 => vSlice v9 fun s11b s11n s11c => Kr s11b s11n s11c h10
theorem n1_ok (x0b : Option Addr) (x0n : Nat) (x0c : Nat) (Kn : T0) (Kr : T0) (g : Env) (hg : E1 g x0b x0n x0c) (h : H) (hS : n1 x0b x0n x0c Kn Kr h) : wpC none Try.prog 7 code (Q0 Kn Kr) g h := by
  obtain ⟨hg0, hds⟩ := hg
  refine wpC_of_wpx (by kernel_rfl) (by kernel_rfl) (g' := (⟨g.v, []⟩ : Env).upd (some 0) (.slice x0b x0n x0c)) (by rw [env_ds hds, upd_self hg0]) ?_
  have e : (n1 x0b x0n x0c Kn Kr h) = wpx none Try.prog 7 code (Q0 Kn Kr) ((⟨g.v, []⟩ : Env).upd (some 0) (.slice x0b x0n x0c)) h := by kernel_rfl
  exact e ▸ hS
/-- WHAT tympan/tympanref00.LentAttrs ASKS -/
abbrev asks (x0b : Option Addr) (x0n : Nat) (x0c : Nat) (K : Value → H → Prop) (h : H) : Prop := n1 x0b x0n x0c (fun y2b y2n y2c h => K (.slice y2b y2n y2c) h) (fun y2b y2n y2c h => K (.slice y2b y2n y2c) h) h
theorem ok (x0b : Option Addr) (x0n : Nat) (x0c : Nat) (K : Value → H → Prop) (h : H) (hS : asks x0b x0n x0c K h) : HCalls Try.prog 21 ⟨[(.slice x0b x0n x0c)]⟩ h K := by
  refine calls_of_wpC (c := code) Try.func21 (by kernel_rfl) (Nat.le_of_ble_eq_true (by kernel_rfl)) ?_
  refine (n1_ok x0b x0n x0c (fun y2b y2n y2c h => K (.slice y2b y2n y2c) h) (fun y2b y2n y2c h => K (.slice y2b y2n y2c) h) (env0 [(.slice x0b x0n x0c)]) ⟨rfl, rfl⟩ h hS).mono ?_
  intro e g' h' hq
  cases e with
  | normal =>
    have hq : D0 (fun y2b y2n y2c h => K (.slice y2b y2n y2c) h) g' h' := hq
    obtain ⟨y2b, y2n, y2c, ⟨hg2, hd⟩, hq⟩ := D0_ok hq
    show leaveX g'.ds h' _
    rw [hd]
    show K (g'.v 2) h'
    rw [hg2]
    exact hq
  | ret =>
    have hq : D0 (fun y2b y2n y2c h => K (.slice y2b y2n y2c) h) g' h' := hq
    obtain ⟨y2b, y2n, y2c, ⟨hg2, hd⟩, hq⟩ := D0_ok hq
    show leaveX g'.ds h' _
    rw [hd]
    show K (g'.v 2) h'
    rw [hg2]
    exact hq
  | _ => exact hq
end Sx.r00_LentAttrs

/-! ### tympan/marks.fresh -/
namespace Sx.marks_fresh
noncomputable def code : Code := bodyOf Try.f22
abbrev T0 := Addr → (List Deferred) → H → Prop
def E0 (g : Env) (x2 : Addr) (ds : List Deferred) : Prop := g.v 2 = (.pointer (some x2)) ∧ g.ds = ds
def D0 (K : T0) (g : Env) (h : H) : Prop := vAddr (g.v 2) fun a1 => K a1 g.ds h
theorem D0_ok {K : T0} {g : Env} {h : H} (hq : D0 K g h) : ∃ (x2 : Addr) (ds : List Deferred), E0 g x2 ds ∧ K x2 ds h := by
  obtain ⟨y3, e2, q4⟩ := vAddr_ok hq
  exact ⟨y3, g.ds, ⟨e2, rfl⟩, q4⟩
theorem D0_mk {K : T0} {g : Env} {h : H} {x2 : Addr} {ds : List Deferred} (hg : E0 g x2 ds) (hk : K x2 ds h) : D0 K g h := by
  obtain ⟨hg2, hds⟩ := hg
  unfold D0
  rw [hg2, hds]
  exact hk
def Q0 (Kn : T0) (Kr : T0) : XPost
  | .normal, g, h => D0 Kn g h
  | .ret, g, h => D0 Kr g h
  | _, _, _ => False
abbrev T1 := (Option Addr) → Nat → Nat → (List Deferred) → H → Prop
def E1 (g : Env) (x0b : Option Addr) (x0n : Nat) (x0c : Nat) (ds : List Deferred) : Prop := g.v 0 = (.slice x0b x0n x0c) ∧ g.ds = ds
def D1 (K : T1) (g : Env) (h : H) : Prop := vSlice (g.v 0) fun s5b s5n s5c => K s5b s5n s5c g.ds h
theorem D1_ok {K : T1} {g : Env} {h : H} (hq : D1 K g h) : ∃ (x0b : Option Addr) (x0n : Nat) (x0c : Nat) (ds : List Deferred), E1 g x0b x0n x0c ds ∧ K x0b x0n x0c ds h := by
  obtain ⟨y7b, y7n, y7c, e6, q8⟩ := vSlice_ok hq
  exact ⟨y7b, y7n, y7c, g.ds, ⟨e6, rfl⟩, q8⟩
theorem D1_mk {K : T1} {g : Env} {h : H} {x0b : Option Addr} {x0n : Nat} {x0c : Nat} {ds : List Deferred} (hg : E1 g x0b x0n x0c ds) (hk : K x0b x0n x0c ds h) : D1 K g h := by
  obtain ⟨hg0, hds⟩ := hg
  unfold D1
  rw [hg0, hds]
  exact hk
noncomputable def n1_c1 : Code := cFst code
noncomputable def n1_c2 : Code := cSnd code
abbrev T2 := (Option Addr) → Nat → Nat → Addr → (List Deferred) → H → Prop
def E2 (g : Env) (x0b : Option Addr) (x0n : Nat) (x0c : Nat) (x2 : Addr) (ds : List Deferred) : Prop := g.v 0 = (.slice x0b x0n x0c) ∧ g.v 2 = (.pointer (some x2)) ∧ g.ds = ds
def D2 (K : T2) (g : Env) (h : H) : Prop := vSlice (g.v 0) fun s9b s9n s9c => vAddr (g.v 2) fun a10 => K s9b s9n s9c a10 g.ds h
theorem D2_ok {K : T2} {g : Env} {h : H} (hq : D2 K g h) : ∃ (x0b : Option Addr) (x0n : Nat) (x0c : Nat) (x2 : Addr) (ds : List Deferred), E2 g x0b x0n x0c x2 ds ∧ K x0b x0n x0c x2 ds h := by
  obtain ⟨y12b, y12n, y12c, e11, q13⟩ := vSlice_ok hq
  obtain ⟨y15, e14, q16⟩ := vAddr_ok q13
  exact ⟨y12b, y12n, y12c, y15, g.ds, ⟨e11, e14, rfl⟩, q16⟩
theorem D2_mk {K : T2} {g : Env} {h : H} {x0b : Option Addr} {x0n : Nat} {x0c : Nat} {x2 : Addr} {ds : List Deferred} (hg : E2 g x0b x0n x0c x2 ds) (hk : K x0b x0n x0c x2 ds h) : D2 K g h := by
  obtain ⟨hg0, hg2, hds⟩ := hg
  unfold D2
  rw [hg0, hg2, hds]
  exact hk
noncomputable def n2_c1 : Code := cFst n1_c2
noncomputable def n2_c2 : Code := cSnd n1_c2
abbrev n3 (x2 : Addr) (ds : List Deferred) (Kn : T0) (Kr : T0) (h : H) : Prop :=
  stL x2 [(.int .i64 (0 : Int))] 0 h fun h17 => Kr x2 ds h17
theorem n3_ok (x2 : Addr) (ds : List Deferred) (Kn : T0) (Kr : T0) (g : Env) (hg : E0 g x2 ds) (h : H) (hS : n3 x2 ds Kn Kr h) : wpC none Try.prog 14 n2_c2 (Q0 Kn Kr) g h := by
  obtain ⟨hg2, hds⟩ := hg
  refine wpC_of_wpx (by kernel_rfl) (by kernel_rfl) (g' := (⟨g.v, ds⟩ : Env).upd (some 2) (.pointer (some x2))) (by rw [env_ds hds, upd_self hg2]) ?_
  have e : (n3 x2 ds Kn Kr h) = wpx none Try.prog 14 n2_c2 (Q0 Kn Kr) ((⟨g.v, ds⟩ : Env).upd (some 2) (.pointer (some x2))) h := by kernel_rfl
  exact e ▸ hS
noncomputable def n4_c1 : Code := cFst n2_c1
noncomputable def n4_c2 : Code := cSnd n2_c1
abbrev T3 := Addr → Value → (List Deferred) → H → Prop
def E3 (g : Env) (x2 : Addr) (x6 : Value) (ds : List Deferred) : Prop := g.v 2 = (.pointer (some x2)) ∧ g.v 6 = x6 ∧ g.ds = ds
def D3 (K : T3) (g : Env) (h : H) : Prop := vAddr (g.v 2) fun a18 => K a18 (g.v 6) g.ds h
theorem D3_ok {K : T3} {g : Env} {h : H} (hq : D3 K g h) : ∃ (x2 : Addr) (x6 : Value) (ds : List Deferred), E3 g x2 x6 ds ∧ K x2 x6 ds h := by
  obtain ⟨y20, e19, q21⟩ := vAddr_ok hq
  exact ⟨y20, (g.v 6), g.ds, ⟨e19, rfl, rfl⟩, q21⟩
theorem D3_mk {K : T3} {g : Env} {h : H} {x2 : Addr} {x6 : Value} {ds : List Deferred} (hg : E3 g x2 x6 ds) (hk : K x2 x6 ds h) : D3 K g h := by
  obtain ⟨hg2, hg6, hds⟩ := hg
  unfold D3
  rw [hg2, hg6, hds]
  exact hk
noncomputable def n5_c1 : Code := cFst n4_c2
def Q1 (Kn : T0) (Ke0 : T0) (Kr : T0) : XPost
  | .normal, g, h => D0 Kn g h
  | .ret, g, h => D0 Kr g h
  | .exit id, g, h => cond (Nat.beq id 0) (D0 Ke0 g h) (False)
  | _, _, _ => False
noncomputable def n6_c1 : Code := cFst n5_c1
noncomputable def n6_c2 : Code := cSnd n5_c1
def n6_rd (x2 : Addr) (x6 : Value) (ds : List Deferred) (Kn : T0) (Ke0 : T0) (Kr : T0) (h : H) (p7 : Int) (p8_0 : Int) (p8_1 : List UInt8) (p8_2b : Option Addr) (p8_2n : Nat) (p8_2c : Nat) (Mid : H → (H → Prop) → Prop) (Kc : H → H → Prop) (Fin : H → H → (H → Prop) → Prop) (h1 : H) : Prop :=
  newx h1 ⟨[(.int .i64 (0 : Int)), (S ([] : List UInt8)), (.slice none 0 0)]⟩ 25 fun a22 h23 => stL a22 [(.int .i64 p8_0), (S p8_1), (.slice p8_2b p8_2n p8_2c)] 0 h23 fun h24 => Mid h24 fun hb25 => ∃ i26, cell hb25 (a22.add 0) = some (.int .i64 i26) ∧ (Spl (i26 < (0 : Int)) (Rng .i64 (p7 + (1 : Int)) ∧ (stL x2 [(.int .i64 (p7 + (1 : Int)))] 0 hb25 fun h27 => Fin hb25 h27 fun h28 => Kr x2 (markD h.size :: ds) h28)) (Kc hb25 hb25))
abbrev n6 (x2 : Addr) (x6 : Value) (ds : List Deferred) (Kn : T0) (Ke0 : T0) (Kr : T0) (h : H) : Prop := Ranges Try.prog x6 2 h (fun l29 Mid Kc Fin h1 => uncons l29 fun e30 l31 => vInt .i64 e30 fun i32 => uncons l31 fun e33 l34 => vAgg e33 fun l35 => uncons l35 fun e36 l37 => vInt .i64 e36 fun i38 => uncons l37 fun e39 l40 => vStr e39 fun s41 => uncons l40 fun e42 l43 => vSlice e42 fun s44b s44n s44c => unnil l43 (unnil l34 (n6_rd x2 x6 ds Kn Ke0 Kr h i32 i38 s41 s44b s44n s44c Mid Kc Fin h1))) (fun h4 => Kn x2 (markD h.size :: ds) h4)
theorem n6_ok (x2 : Addr) (x6 : Value) (ds : List Deferred) (Kn : T0) (Ke0 : T0) (Kr : T0) (g : Env) (hg : E3 g x2 x6 ds) (h : H) (hS : n6 x2 x6 ds Kn Ke0 Kr h) : wpC none Try.prog 14 n5_c1 (Q1 Kn Ke0 Kr) g h := by
  obtain ⟨hg2, hg6, hds⟩ := hg
  subst hds
  have ho : (((⟨g.v, g.ds⟩ : Env).upd (some 2) (.pointer (some x2))).upd (some 6) x6 : Env) = g := by rw [env_ds rfl, upd_self hg2, upd_self hg6]
  have hc : n5_c1 = .rangeFunc (.tmp 6) #[7, 8] n6_c1 n6_c2 := by kernel_rfl
  rw [hc]
  refine wpC_range (f := x6) (rd := (fun l29 Mid Kc Fin h1 => uncons l29 fun e30 l31 => vInt .i64 e30 fun i32 => uncons l31 fun e33 l34 => vAgg e33 fun l35 => uncons l35 fun e36 l37 => vInt .i64 e36 fun i38 => uncons l37 fun e39 l40 => vStr e39 fun s41 => uncons l40 fun e42 l43 => vSlice e42 fun s44b s44n s44c => unnil l43 (unnil l34 (n6_rd x2 x6 g.ds Kn Ke0 Kr h i32 i38 s41 s44b s44n s44c Mid Kc Fin h1)))) (done := (fun h4 => Kn x2 (markD h.size :: g.ds) h4)) ?_ hS ?_ ?_
  · rw [← ho]; kernel_rfl
  · intro h4 hd
    have e : (Kn x2 (markD h.size :: g.ds) h4) = (Q1 Kn Ke0 Kr) .normal ⟨(((⟨g.v, g.ds⟩ : Env).upd (some 2) (.pointer (some x2))).upd (some 6) x6).v, markD h.size :: g.ds⟩ h4 := by kernel_rfl
    rw [ho] at e
    exact e ▸ hd
  · intro L x Mid Kc Fin h1 hM hx
    obtain ⟨u45, l46, rfl, q47⟩ := uncons_ok hx
    obtain ⟨y48, rfl, q49⟩ := vInt_ok q47
    obtain ⟨u50, l51, rfl, q52⟩ := uncons_ok q49
    obtain ⟨l53, rfl, q54⟩ := vAgg_ok q52
    obtain ⟨u55, l56, rfl, q57⟩ := uncons_ok q54
    obtain ⟨y58, rfl, q59⟩ := vInt_ok q57
    obtain ⟨u60, l61, rfl, q62⟩ := uncons_ok q59
    obtain ⟨y63, rfl, q64⟩ := vStr_ok q62
    obtain ⟨u65, l66, rfl, q67⟩ := uncons_ok q64
    obtain ⟨y68b, y68n, y68c, rfl, q69⟩ := vSlice_ok q67
    obtain ⟨rfl, q70⟩ := unnil_ok q69
    obtain ⟨rfl, q71⟩ := unnil_ok q70
    have e : (n6_rd x2 x6 g.ds Kn Ke0 Kr h y48 y58 y63 y68b y68n y68c Mid Kc Fin h1) = wpx (some L) Try.prog 14 n6_c1 (thenX (fun g1 he => Mid he fun hb => wpx (some L) Try.prog 14 n6_c2 (rpost Kc Fin (Q1 Kn Ke0 Kr) ⟨(((⟨g.v, g.ds⟩ : Env).upd (some 2) (.pointer (some x2))).upd (some 6) x6).v, markD h.size :: g.ds⟩ hb) g1 hb) fun _ _ _ => False) (setps (((⟨g.v, g.ds⟩ : Env).upd (some 2) (.pointer (some x2))).upd (some 6) x6) [7, 8] [(.int .i64 y48), (.agg ⟨[(.int .i64 y58), (S y63), (.slice y68b y68n y68c)]⟩)]) h1 := by kernel_rfl
    rw [ho] at e
    exact (wpx_ok (by kernel_rfl) _ _ _ _ (by kernel_rfl) (e ▸ q71)).mono (thenX_mono fun g1 he hm => hM he _ _ (fun hb => wpx_ok (by kernel_rfl) _ _ _ _ (by kernel_rfl)) hm)
abbrev n5 (x2 : Addr) (x6 : Value) (ds : List Deferred) (Kn : T0) (Kr : T0) (h : H) : Prop := n6 x2 x6 ds Kn Kn Kr h
theorem n5_ok (x2 : Addr) (x6 : Value) (ds : List Deferred) (Kn : T0) (Kr : T0) (g : Env) (hg : E3 g x2 x6 ds) (h : H) (hS : n5 x2 x6 ds Kn Kr h) : wpC none Try.prog 14 n4_c2 (Q0 Kn Kr) g h := by
  refine wpC_block' (id := 0) (x := n5_c1) (by kernel_rfl) (n6_ok x2 x6 ds Kn Kn Kr g hg h hS) ?_
  intro e g' h' hq
  cases e <;> exact hq
def Q2 (Kn : T3) (Kr : T0) : XPost
  | .normal, g, h => D3 Kn g h
  | .ret, g, h => D0 Kr g h
  | _, _, _ => False
abbrev n4 (x0b : Option Addr) (x0n : Nat) (x0c : Nat) (x2 : Addr) (ds : List Deferred) (Kn : T0) (Kr : T0) (h : H) : Prop :=
  HCalls Try.prog 29 ⟨[(.slice x0b x0n x0c)]⟩ h fun v72 h73 => n5 x2 v72 ds Kn Kr h73
theorem n4_ok (x0b : Option Addr) (x0n : Nat) (x0c : Nat) (x2 : Addr) (ds : List Deferred) (Kn : T0) (Kr : T0) (g : Env) (hg : E2 g x0b x0n x0c x2 ds) (h : H) (hS : n4 x0b x0n x0c x2 ds Kn Kr h) : wpC none Try.prog 14 n2_c1 (Q0 Kn Kr) g h := by
  obtain ⟨hg0, hg2, hds⟩ := hg
  refine wpC_seq' (x := n4_c1) (y := n4_c2) (Q' := (Q2 (fun z2 z6 zds h => n5 z2 z6 zds Kn Kr h) Kr)) (by kernel_rfl) ?_ ?_
  · refine wpC_of_wpx (by kernel_rfl) (by kernel_rfl) (g' := ((⟨g.v, ds⟩ : Env).upd (some 0) (.slice x0b x0n x0c)).upd (some 2) (.pointer (some x2))) (by rw [env_ds hds, upd_self hg0, upd_self hg2]) ?_
    have e : (n4 x0b x0n x0c x2 ds Kn Kr h) = wpx none Try.prog 14 n4_c1 (Q2 (fun z2 z6 zds h => n5 z2 z6 zds Kn Kr h) Kr) (((⟨g.v, ds⟩ : Env).upd (some 0) (.slice x0b x0n x0c)).upd (some 2) (.pointer (some x2))) h := by kernel_rfl
    exact e ▸ hS
  · intro e g' h' hq
    cases e with
    | normal =>
      have hq : D3 (fun z2 z6 zds h => n5 z2 z6 zds Kn Kr h) g' h' := hq
      obtain ⟨y2, y6, yds, hg', hq⟩ := D3_ok hq
      exact n5_ok y2 y6 yds Kn Kr g' hg' h' hq
    | _ => exact hq
abbrev n2 (x0b : Option Addr) (x0n : Nat) (x0c : Nat) (x2 : Addr) (ds : List Deferred) (Kn : T0) (Kr : T0) (h : H) : Prop := n4 x0b x0n x0c x2 ds (fun z2 zds h => n3 z2 zds Kn Kr h) Kr h
theorem n2_ok (x0b : Option Addr) (x0n : Nat) (x0c : Nat) (x2 : Addr) (ds : List Deferred) (Kn : T0) (Kr : T0) (g : Env) (hg : E2 g x0b x0n x0c x2 ds) (h : H) (hS : n2 x0b x0n x0c x2 ds Kn Kr h) : wpC none Try.prog 14 n1_c2 (Q0 Kn Kr) g h := by
  refine wpC_seq' (x := n2_c1) (y := n2_c2) (by kernel_rfl) (n4_ok x0b x0n x0c x2 ds (fun z2 zds h => n3 z2 zds Kn Kr h) Kr g hg h hS) ?_
  intro e g' h' hq
  cases e with
  | normal =>
    have hq : D0 (fun z2 zds h => n3 z2 zds Kn Kr h) g' h' := hq
    obtain ⟨y2, yds, hg', hq⟩ := D0_ok hq
    exact n3_ok y2 yds Kn Kr g' hg' h' hq
  | _ => exact hq
def Q3 (Kn : T2) (Kr : T0) : XPost
  | .normal, g, h => D2 Kn g h
  | .ret, g, h => D0 Kr g h
  | _, _, _ => False
abbrev n1 (x0b : Option Addr) (x0n : Nat) (x0c : Nat) (ds : List Deferred) (Kn : T0) (Kr : T0) (h : H) : Prop :=
  newx h #[(.int .i64 (0 : Int))] 3 fun a74 h75 => n2 x0b x0n x0c a74 ds Kn Kr h75
theorem n1_ok (x0b : Option Addr) (x0n : Nat) (x0c : Nat) (ds : List Deferred) (Kn : T0) (Kr : T0) (g : Env) (hg : E1 g x0b x0n x0c ds) (h : H) (hS : n1 x0b x0n x0c ds Kn Kr h) : wpC none Try.prog 14 code (Q0 Kn Kr) g h := by
  obtain ⟨hg0, hds⟩ := hg
  refine wpC_seq' (x := n1_c1) (y := n1_c2) (Q' := (Q3 (fun z0b z0n z0c z2 zds h => n2 z0b z0n z0c z2 zds Kn Kr h) Kr)) (by kernel_rfl) ?_ ?_
  · refine wpC_of_wpx (by kernel_rfl) (by kernel_rfl) (g' := (⟨g.v, ds⟩ : Env).upd (some 0) (.slice x0b x0n x0c)) (by rw [env_ds hds, upd_self hg0]) ?_
    have e : (n1 x0b x0n x0c ds Kn Kr h) = wpx none Try.prog 14 n1_c1 (Q3 (fun z0b z0n z0c z2 zds h => n2 z0b z0n z0c z2 zds Kn Kr h) Kr) ((⟨g.v, ds⟩ : Env).upd (some 0) (.slice x0b x0n x0c)) h := by kernel_rfl
    exact e ▸ hS
  · intro e g' h' hq
    cases e with
    | normal =>
      have hq : D2 (fun z0b z0n z0c z2 zds h => n2 z0b z0n z0c z2 zds Kn Kr h) g' h' := hq
      obtain ⟨y0b, y0n, y0c, y2, yds, hg', hq⟩ := D2_ok hq
      exact n2_ok y0b y0n y0c y2 yds Kn Kr g' hg' h' hq
    | _ => exact hq
/-- WHAT tympan/marks.fresh ASKS -/
abbrev asks (x0b : Option Addr) (x0n : Nat) (x0c : Nat) (K : Value → H → Prop) (h : H) : Prop := n1 x0b x0n x0c [] (fun y2 ds h => leaveX ds h fun h => ∃ i76, cell h y2 = some (.int .i64 i76) ∧ (K (.int .i64 i76) h)) (fun y2 ds h => leaveX ds h fun h => ∃ i76, cell h y2 = some (.int .i64 i76) ∧ (K (.int .i64 i76) h)) h
theorem ok (x0b : Option Addr) (x0n : Nat) (x0c : Nat) (K : Value → H → Prop) (h : H) (hS : asks x0b x0n x0c K h) : HCalls Try.prog 22 ⟨[(.slice x0b x0n x0c)]⟩ h K := by
  refine calls_of_wpC (c := code) Try.func22 (by kernel_rfl) (Nat.le_of_ble_eq_true (by kernel_rfl)) ?_
  refine (n1_ok x0b x0n x0c [] (fun y2 ds h => leaveX ds h fun h => ∃ i76, cell h y2 = some (.int .i64 i76) ∧ (K (.int .i64 i76) h)) (fun y2 ds h => leaveX ds h fun h => ∃ i76, cell h y2 = some (.int .i64 i76) ∧ (K (.int .i64 i76) h)) (env0 [(.slice x0b x0n x0c)]) ⟨rfl, rfl⟩ h hS).mono ?_
  intro e g' h' hq
  cases e with
  | normal =>
    have hq : D0 (fun y2 ds h => leaveX ds h fun h => ∃ i76, cell h y2 = some (.int .i64 i76) ∧ (K (.int .i64 i76) h)) g' h' := hq
    obtain ⟨y2, ds, ⟨hg2, hd⟩, hq⟩ := D0_ok hq
    show leaveX g'.ds h' _
    rw [hd]
    show leaveX ds h' fun h => vAddr (g'.v 2) fun a77 => ldx Try.prog 3 a77 h fun v78 => K v78 h
    rw [hg2]
    exact hq
  | ret =>
    have hq : D0 (fun y2 ds h => leaveX ds h fun h => ∃ i76, cell h y2 = some (.int .i64 i76) ∧ (K (.int .i64 i76) h)) g' h' := hq
    obtain ⟨y2, ds, ⟨hg2, hd⟩, hq⟩ := D0_ok hq
    show leaveX g'.ds h' _
    rw [hd]
    show leaveX ds h' fun h => vAddr (g'.v 2) fun a77 => ldx Try.prog 3 a77 h fun v78 => K v78 h
    rw [hg2]
    exact hq
  | _ => exact hq
end Sx.marks_fresh

/-! ### tympan/marks.alike -/
namespace Sx.marks_alike
noncomputable def code : Code := bodyOf Try.f23
abbrev T0 := Bool → H → Prop
def E0 (g : Env) (x4 : Bool) : Prop := g.v 4 = (.bool x4) ∧ g.ds = []
def D0 (K : T0) (g : Env) (h : H) : Prop := nilDs g.ds (vBool (g.v 4) fun b1 => K b1 h)
theorem D0_ok {K : T0} {g : Env} {h : H} (hq : D0 K g h) : ∃ (x4 : Bool), E0 g x4 ∧ K x4 h := by
  obtain ⟨hd, hq⟩ := nilDs_ok hq
  obtain ⟨y3, e2, q4⟩ := vBool_ok hq
  exact ⟨y3, ⟨e2, hd⟩, q4⟩
def Q0 (Kn : T0) (Kr : T0) : XPost
  | .normal, g, h => D0 Kn g h
  | .ret, g, h => D0 Kr g h
  | _, _, _ => False
abbrev T1 := Int → (List UInt8) → (Option Addr) → Nat → Nat → Int → (List UInt8) → (Option Addr) → Nat → Nat → H → Prop
def E1 (g : Env) (x0_0 : Int) (x0_1 : List UInt8) (x0_2b : Option Addr) (x0_2n : Nat) (x0_2c : Nat) (x1_0 : Int) (x1_1 : List UInt8) (x1_2b : Option Addr) (x1_2n : Nat) (x1_2c : Nat) : Prop := g.v 0 = (.agg ⟨[(.int .i64 x0_0), (S x0_1), (.slice x0_2b x0_2n x0_2c)]⟩) ∧ g.v 1 = (.agg ⟨[(.int .i64 x1_0), (S x1_1), (.slice x1_2b x1_2n x1_2c)]⟩) ∧ g.ds = []
def D1 (K : T1) (g : Env) (h : H) : Prop := nilDs g.ds (vAgg (g.v 0) fun l5 => uncons l5 fun e6 l7 => vInt .i64 e6 fun i8 => uncons l7 fun e9 l10 => vStr e9 fun s11 => uncons l10 fun e12 l13 => vSlice e12 fun s14b s14n s14c => unnil l13 (vAgg (g.v 1) fun l15 => uncons l15 fun e16 l17 => vInt .i64 e16 fun i18 => uncons l17 fun e19 l20 => vStr e19 fun s21 => uncons l20 fun e22 l23 => vSlice e22 fun s24b s24n s24c => unnil l23 (K i8 s11 s14b s14n s14c i18 s21 s24b s24n s24c h)))
theorem D1_ok {K : T1} {g : Env} {h : H} (hq : D1 K g h) : ∃ (x0_0 : Int) (x0_1 : List UInt8) (x0_2b : Option Addr) (x0_2n : Nat) (x0_2c : Nat) (x1_0 : Int) (x1_1 : List UInt8) (x1_2b : Option Addr) (x1_2n : Nat) (x1_2c : Nat), E1 g x0_0 x0_1 x0_2b x0_2n x0_2c x1_0 x1_1 x1_2b x1_2n x1_2c ∧ K x0_0 x0_1 x0_2b x0_2n x0_2c x1_0 x1_1 x1_2b x1_2n x1_2c h := by
  obtain ⟨hd, hq⟩ := nilDs_ok hq
  obtain ⟨l26, e25, q27⟩ := vAgg_ok hq
  obtain ⟨u28, l29, rfl, q30⟩ := uncons_ok q27
  obtain ⟨y31, rfl, q32⟩ := vInt_ok q30
  obtain ⟨u33, l34, rfl, q35⟩ := uncons_ok q32
  obtain ⟨y36, rfl, q37⟩ := vStr_ok q35
  obtain ⟨u38, l39, rfl, q40⟩ := uncons_ok q37
  obtain ⟨y41b, y41n, y41c, rfl, q42⟩ := vSlice_ok q40
  obtain ⟨rfl, q43⟩ := unnil_ok q42
  obtain ⟨l45, e44, q46⟩ := vAgg_ok q43
  obtain ⟨u47, l48, rfl, q49⟩ := uncons_ok q46
  obtain ⟨y50, rfl, q51⟩ := vInt_ok q49
  obtain ⟨u52, l53, rfl, q54⟩ := uncons_ok q51
  obtain ⟨y55, rfl, q56⟩ := vStr_ok q54
  obtain ⟨u57, l58, rfl, q59⟩ := uncons_ok q56
  obtain ⟨y60b, y60n, y60c, rfl, q61⟩ := vSlice_ok q59
  obtain ⟨rfl, q62⟩ := unnil_ok q61
  exact ⟨y31, y36, y41b, y41n, y41c, y50, y55, y60b, y60n, y60c, ⟨e25, e44, hd⟩, q62⟩
abbrev n1 (x0_0 : Int) (x0_1 : List UInt8) (x0_2b : Option Addr) (x0_2n : Nat) (x0_2c : Nat) (x1_0 : Int) (x1_1 : List UInt8) (x1_2b : Option Addr) (x1_2n : Nat) (x1_2c : Nat) (Kn : T0) (Kr : T0) (h : H) : Prop :=
  newx h ⟨[(.int .i64 x0_0), (S x0_1), (.slice x0_2b x0_2n x0_2c)]⟩ 25 fun a63 h64 => newx h64 ⟨[(.int .i64 x1_0), (S x1_1), (.slice x1_2b x1_2n x1_2c)]⟩ 25 fun a65 h66 => ∃ s67, cell h66 (a63.add 1) = some (S s67) ∧ (∃ s68, cell h66 (a65.add 1) = some (S s68) ∧ (Spl (s67 = s68) (∃ s69b s69n s69c, cell h66 (a63.add 2) = some (.slice s69b s69n s69c) ∧ (∃ s70b s70n s70c, cell h66 (a65.add 2) = some (.slice s70b s70n s70c) ∧ (Spl ((s69n : Int) = (s70n : Int)) (∃ s71b s71n s71c, cell h66 (a63.add 2) = some (.slice s71b s71n s71c) ∧ (HCalls Try.prog 36 ⟨[(.slice s71b s71n s71c), (.func (.func 34) ⟨[]⟩ ⟨[(.pointer (some a65))]⟩)]⟩ h66 fun v72 h73 => vBool v72 fun b74 => cond b74 (Kr false h73) (Kr true h73))) (Kr false h66)))) (Kr false h66)))
theorem n1_ok (x0_0 : Int) (x0_1 : List UInt8) (x0_2b : Option Addr) (x0_2n : Nat) (x0_2c : Nat) (x1_0 : Int) (x1_1 : List UInt8) (x1_2b : Option Addr) (x1_2n : Nat) (x1_2c : Nat) (Kn : T0) (Kr : T0) (g : Env) (hg : E1 g x0_0 x0_1 x0_2b x0_2n x0_2c x1_0 x1_1 x1_2b x1_2n x1_2c) (h : H) (hS : n1 x0_0 x0_1 x0_2b x0_2n x0_2c x1_0 x1_1 x1_2b x1_2n x1_2c Kn Kr h) : wpC none Try.prog 28 code (Q0 Kn Kr) g h := by
  obtain ⟨hg0, hg1, hds⟩ := hg
  refine wpC_of_wpx (by kernel_rfl) (by kernel_rfl) (g' := ((⟨g.v, []⟩ : Env).upd (some 0) (.agg ⟨[(.int .i64 x0_0), (S x0_1), (.slice x0_2b x0_2n x0_2c)]⟩)).upd (some 1) (.agg ⟨[(.int .i64 x1_0), (S x1_1), (.slice x1_2b x1_2n x1_2c)]⟩)) (by rw [env_ds hds, upd_self hg0, upd_self hg1]) ?_
  have e : (n1 x0_0 x0_1 x0_2b x0_2n x0_2c x1_0 x1_1 x1_2b x1_2n x1_2c Kn Kr h) = wpx none Try.prog 28 code (Q0 Kn Kr) (((⟨g.v, []⟩ : Env).upd (some 0) (.agg ⟨[(.int .i64 x0_0), (S x0_1), (.slice x0_2b x0_2n x0_2c)]⟩)).upd (some 1) (.agg ⟨[(.int .i64 x1_0), (S x1_1), (.slice x1_2b x1_2n x1_2c)]⟩)) h := by kernel_rfl
  exact e ▸ hS
/-- WHAT tympan/marks.alike ASKS -/
abbrev asks (x0_0 : Int) (x0_1 : List UInt8) (x0_2b : Option Addr) (x0_2n : Nat) (x0_2c : Nat) (x1_0 : Int) (x1_1 : List UInt8) (x1_2b : Option Addr) (x1_2n : Nat) (x1_2c : Nat) (K : Value → H → Prop) (h : H) : Prop := n1 x0_0 x0_1 x0_2b x0_2n x0_2c x1_0 x1_1 x1_2b x1_2n x1_2c (fun y4 h => K (.bool y4) h) (fun y4 h => K (.bool y4) h) h
theorem ok (x0_0 : Int) (x0_1 : List UInt8) (x0_2b : Option Addr) (x0_2n : Nat) (x0_2c : Nat) (x1_0 : Int) (x1_1 : List UInt8) (x1_2b : Option Addr) (x1_2n : Nat) (x1_2c : Nat) (K : Value → H → Prop) (h : H) (hS : asks x0_0 x0_1 x0_2b x0_2n x0_2c x1_0 x1_1 x1_2b x1_2n x1_2c K h) : HCalls Try.prog 23 ⟨[(.agg ⟨[(.int .i64 x0_0), (S x0_1), (.slice x0_2b x0_2n x0_2c)]⟩), (.agg ⟨[(.int .i64 x1_0), (S x1_1), (.slice x1_2b x1_2n x1_2c)]⟩)]⟩ h K := by
  refine calls_of_wpC (c := code) Try.func23 (by kernel_rfl) (Nat.le_of_ble_eq_true (by kernel_rfl)) ?_
  refine (n1_ok x0_0 x0_1 x0_2b x0_2n x0_2c x1_0 x1_1 x1_2b x1_2n x1_2c (fun y4 h => K (.bool y4) h) (fun y4 h => K (.bool y4) h) (env0 [(.agg ⟨[(.int .i64 x0_0), (S x0_1), (.slice x0_2b x0_2n x0_2c)]⟩), (.agg ⟨[(.int .i64 x1_0), (S x1_1), (.slice x1_2b x1_2n x1_2c)]⟩)]) ⟨rfl, rfl, rfl⟩ h hS).mono ?_
  intro e g' h' hq
  cases e with
  | normal =>
    have hq : D0 (fun y4 h => K (.bool y4) h) g' h' := hq
    obtain ⟨y4, ⟨hg4, hd⟩, hq⟩ := D0_ok hq
    show leaveX g'.ds h' _
    rw [hd]
    show K (g'.v 4) h'
    rw [hg4]
    exact hq
  | ret =>
    have hq : D0 (fun y4 h => K (.bool y4) h) g' h' := hq
    obtain ⟨y4, ⟨hg4, hd⟩, hq⟩ := D0_ok hq
    show leaveX g'.ds h' _
    rw [hd]
    show K (g'.v 4) h'
    rw [hg4]
    exact hq
  | _ => exact hq
end Sx.marks_alike

/-! ### slices.Clone[[]tympan/api.Mark,tympan/api.Mark] -/
namespace Sx.slices_Clone_apiMark
noncomputable def code : Code := bodyOf Try.f24
abbrev T0 := (Option Addr) → Nat → Nat → H → Prop
def E0 (g : Env) (x2b : Option Addr) (x2n : Nat) (x2c : Nat) : Prop := g.v 2 = (.slice x2b x2n x2c) ∧ g.ds = []
def D0 (K : T0) (g : Env) (h : H) : Prop := nilDs g.ds (vSlice (g.v 2) fun s1b s1n s1c => K s1b s1n s1c h)
theorem D0_ok {K : T0} {g : Env} {h : H} (hq : D0 K g h) : ∃ (x2b : Option Addr) (x2n : Nat) (x2c : Nat), E0 g x2b x2n x2c ∧ K x2b x2n x2c h := by
  obtain ⟨hd, hq⟩ := nilDs_ok hq
  obtain ⟨y3b, y3n, y3c, e2, q4⟩ := vSlice_ok hq
  exact ⟨y3b, y3n, y3c, ⟨e2, hd⟩, q4⟩
def Q0 (Kn : T0) (Kr : T0) : XPost
  | .normal, g, h => D0 Kn g h
  | .ret, g, h => D0 Kr g h
  | _, _, _ => False
abbrev T1 := (Option Addr) → Nat → Nat → H → Prop
def E1 (g : Env) (x0b : Option Addr) (x0n : Nat) (x0c : Nat) : Prop := g.v 0 = (.slice x0b x0n x0c) ∧ g.ds = []
def D1 (K : T1) (g : Env) (h : H) : Prop := nilDs g.ds (vSlice (g.v 0) fun s5b s5n s5c => K s5b s5n s5c h)
theorem D1_ok {K : T1} {g : Env} {h : H} (hq : D1 K g h) : ∃ (x0b : Option Addr) (x0n : Nat) (x0c : Nat), E1 g x0b x0n x0c ∧ K x0b x0n x0c h := by
  obtain ⟨hd, hq⟩ := nilDs_ok hq
  obtain ⟨y7b, y7n, y7c, e6, q8⟩ := vSlice_ok hq
  exact ⟨y7b, y7n, y7c, ⟨e6, hd⟩, q8⟩
abbrev n1 (x0b : Option Addr) (x0n : Nat) (x0c : Nat) (Kn : T0) (Kr : T0) (h : H) : Prop :=
  SemH Try.prog (binS .eql 22 (.tmp 3) (.const (.slice none 0 0)) (.slice x0b x0n x0c) (.slice none 0 0)) h fun v9 h10 => vBool v9 fun b11 => cond b11 (Kr none 0 0 h10) (newx h10 #[] 25 fun a12 h13 => SemH Try.prog (Builtin.append_ #[22, 22] 22 ⟨[(.slice (some a12) 0 0), (.slice x0b x0n x0c)]⟩) h13 fun v14 h15 => vSlice v14 fun s16b s16n s16c => Kr s16b s16n s16c h15)
theorem n1_ok (x0b : Option Addr) (x0n : Nat) (x0c : Nat) (Kn : T0) (Kr : T0) (g : Env) (hg : E1 g x0b x0n x0c) (h : H) (hS : n1 x0b x0n x0c Kn Kr h) : wpC none Try.prog 8 code (Q0 Kn Kr) g h := by
  obtain ⟨hg0, hds⟩ := hg
  refine wpC_of_wpx (by kernel_rfl) (by kernel_rfl) (g' := (⟨g.v, []⟩ : Env).upd (some 0) (.slice x0b x0n x0c)) (by rw [env_ds hds, upd_self hg0]) ?_
  have e : (n1 x0b x0n x0c Kn Kr h) = wpx none Try.prog 8 code (Q0 Kn Kr) ((⟨g.v, []⟩ : Env).upd (some 0) (.slice x0b x0n x0c)) h := by kernel_rfl
  exact e ▸ hS
/-- WHAT slices.Clone[[]tympan/api.Mark,tympan/api.Mark] ASKS -/
abbrev asks (x0b : Option Addr) (x0n : Nat) (x0c : Nat) (K : Value → H → Prop) (h : H) : Prop := n1 x0b x0n x0c (fun y2b y2n y2c h => K (.slice y2b y2n y2c) h) (fun y2b y2n y2c h => K (.slice y2b y2n y2c) h) h
theorem ok (x0b : Option Addr) (x0n : Nat) (x0c : Nat) (K : Value → H → Prop) (h : H) (hS : asks x0b x0n x0c K h) : HCalls Try.prog 24 ⟨[(.slice x0b x0n x0c)]⟩ h K := by
  refine calls_of_wpC (c := code) Try.func24 (by kernel_rfl) (Nat.le_of_ble_eq_true (by kernel_rfl)) ?_
  refine (n1_ok x0b x0n x0c (fun y2b y2n y2c h => K (.slice y2b y2n y2c) h) (fun y2b y2n y2c h => K (.slice y2b y2n y2c) h) (env0 [(.slice x0b x0n x0c)]) ⟨rfl, rfl⟩ h hS).mono ?_
  intro e g' h' hq
  cases e with
  | normal =>
    have hq : D0 (fun y2b y2n y2c h => K (.slice y2b y2n y2c) h) g' h' := hq
    obtain ⟨y2b, y2n, y2c, ⟨hg2, hd⟩, hq⟩ := D0_ok hq
    show leaveX g'.ds h' _
    rw [hd]
    show K (g'.v 2) h'
    rw [hg2]
    exact hq
  | ret =>
    have hq : D0 (fun y2b y2n y2c h => K (.slice y2b y2n y2c) h) g' h' := hq
    obtain ⟨y2b, y2n, y2c, ⟨hg2, hd⟩, hq⟩ := D0_ok hq
    show leaveX g'.ds h' _
    rw [hd]
    show K (g'.v 2) h'
    rw [hg2]
    exact hq
  | _ => exact hq
end Sx.slices_Clone_apiMark

/-! ### tympan/tympanref00.SameAttrs -/
namespace Sx.r00_SameAttrs
noncomputable def code : Code := bodyOf Try.f25
abbrev T0 := Bool → H → Prop
def E0 (g : Env) (x4 : Bool) : Prop := g.v 4 = (.bool x4) ∧ g.ds = []
def D0 (K : T0) (g : Env) (h : H) : Prop := nilDs g.ds (vBool (g.v 4) fun b1 => K b1 h)
theorem D0_ok {K : T0} {g : Env} {h : H} (hq : D0 K g h) : ∃ (x4 : Bool), E0 g x4 ∧ K x4 h := by
  obtain ⟨hd, hq⟩ := nilDs_ok hq
  obtain ⟨y3, e2, q4⟩ := vBool_ok hq
  exact ⟨y3, ⟨e2, hd⟩, q4⟩
def Q0 (Kn : T0) (Kr : T0) : XPost
  | .normal, g, h => D0 Kn g h
  | .ret, g, h => D0 Kr g h
  | _, _, _ => False
abbrev T1 := (Option Addr) → Nat → Nat → (Option Addr) → Nat → Nat → H → Prop
def E1 (g : Env) (x0b : Option Addr) (x0n : Nat) (x0c : Nat) (x1b : Option Addr) (x1n : Nat) (x1c : Nat) : Prop := g.v 0 = (.slice x0b x0n x0c) ∧ g.v 1 = (.slice x1b x1n x1c) ∧ g.ds = []
def D1 (K : T1) (g : Env) (h : H) : Prop := nilDs g.ds (vSlice (g.v 0) fun s5b s5n s5c => vSlice (g.v 1) fun s6b s6n s6c => K s5b s5n s5c s6b s6n s6c h)
theorem D1_ok {K : T1} {g : Env} {h : H} (hq : D1 K g h) : ∃ (x0b : Option Addr) (x0n : Nat) (x0c : Nat) (x1b : Option Addr) (x1n : Nat) (x1c : Nat), E1 g x0b x0n x0c x1b x1n x1c ∧ K x0b x0n x0c x1b x1n x1c h := by
  obtain ⟨hd, hq⟩ := nilDs_ok hq
  obtain ⟨y8b, y8n, y8c, e7, q9⟩ := vSlice_ok hq
  obtain ⟨y11b, y11n, y11c, e10, q12⟩ := vSlice_ok q9
  exact ⟨y8b, y8n, y8c, y11b, y11n, y11c, ⟨e7, e10, hd⟩, q12⟩
noncomputable def n1_c1 : Code := cFst code
noncomputable def n1_c2 : Code := cSnd code
noncomputable def n2_c1 : Code := cFst n1_c2
noncomputable def n2_c2 : Code := cSnd n1_c2
noncomputable def n3_c1 : Code := cFst n2_c2
noncomputable def n3_c2 : Code := cSnd n2_c2
abbrev T2 := H → Prop
def E2 (g : Env)  : Prop := g.ds = []
def D2 (K : T2) (g : Env) (h : H) : Prop := nilDs g.ds (K h)
theorem D2_ok {K : T2} {g : Env} {h : H} (hq : D2 K g h) : E2 g  ∧ K  h := by
  obtain ⟨hd, hq⟩ := nilDs_ok hq
  skip
  exact ⟨hd, hq⟩
abbrev n4  (Kn : T0) (Kr : T0) (h : H) : Prop :=
  Kr true h
theorem n4_ok  (Kn : T0) (Kr : T0) (g : Env) (hg : E2 g ) (h : H) (hS : n4  Kn Kr h) : wpC none Try.prog 26 n3_c2 (Q0 Kn Kr) g h := by
  have hds : g.ds = [] := hg
  refine wpC_of_wpx (by kernel_rfl) (by kernel_rfl) (g' := ⟨g.v, []⟩) (by rw [env_ds hds]) ?_
  have e : (n4  Kn Kr h) = wpx none Try.prog 26 n3_c2 (Q0 Kn Kr) (⟨g.v, []⟩) h := by kernel_rfl
  exact e ▸ hS
def Q1 (Kn : T2) (Kr : T0) : XPost
  | .normal, g, h => D2 Kn g h
  | .ret, g, h => D0 Kr g h
  | _, _, _ => False
noncomputable def n5_c1 : Code := cFst n3_c1
noncomputable def n5_c2 : Code := cSnd n3_c1
abbrev T3 := (Option Addr) → Nat → Nat → (Option Addr) → Nat → Nat → Int → H → Prop
def E3 (g : Env) (x0b : Option Addr) (x0n : Nat) (x0c : Nat) (x1b : Option Addr) (x1n : Nat) (x1c : Nat) (x5 : Int) : Prop := g.v 0 = (.slice x0b x0n x0c) ∧ g.v 1 = (.slice x1b x1n x1c) ∧ g.v 5 = (.int .i64 x5) ∧ g.ds = []
def D3 (K : T3) (g : Env) (h : H) : Prop := nilDs g.ds (vSlice (g.v 0) fun s13b s13n s13c => vSlice (g.v 1) fun s14b s14n s14c => vInt .i64 (g.v 5) fun i15 => K s13b s13n s13c s14b s14n s14c i15 h)
theorem D3_ok {K : T3} {g : Env} {h : H} (hq : D3 K g h) : ∃ (x0b : Option Addr) (x0n : Nat) (x0c : Nat) (x1b : Option Addr) (x1n : Nat) (x1c : Nat) (x5 : Int), E3 g x0b x0n x0c x1b x1n x1c x5 ∧ K x0b x0n x0c x1b x1n x1c x5 h := by
  obtain ⟨hd, hq⟩ := nilDs_ok hq
  obtain ⟨y17b, y17n, y17c, e16, q18⟩ := vSlice_ok hq
  obtain ⟨y20b, y20n, y20c, e19, q21⟩ := vSlice_ok q18
  obtain ⟨y23, e22, q24⟩ := vInt_ok q21
  exact ⟨y17b, y17n, y17c, y20b, y20n, y20c, y23, ⟨e16, e19, e22, hd⟩, q24⟩
noncomputable def n6_c1 : Code := cFst n5_c2
def Q2 (Kn : T2) (Ke0 : T2) (Kr : T0) : XPost
  | .normal, g, h => D2 Kn g h
  | .ret, g, h => D0 Kr g h
  | .exit id, g, h => cond (Nat.beq id 0) (D2 Ke0 g h) (False)
  | _, _, _ => False
noncomputable def n7_c1 : Code := cFst n6_c1
def Q3 (Kn : T3) (Ke0 : T2) (Kr : T0) : XPost
  | .normal, g, h => D3 Kn g h
  | .ret, g, h => D0 Kr g h
  | .exit id, g, h => cond (Nat.beq id 0) (D2 Ke0 g h) (False)
  | _, _, _ => False
def n7_L (Kn : T2) (Ke0 : T2) (Kr : T0) : Nat → (Option Addr) → Nat → Nat → (Option Addr) → Nat → Nat → Int → H → Prop
  | 0, _, _, _, _, _, _, _, _ => False
  | N + 1, x0b, x0n, x0c, x1b, x1n, x1c, x5, h => Spl (x5 < (x0n : Int)) ((0 ≤ x5 ∧ x5 < (x0n : Int)) ∧ (vSome x0b fun a25 => ∃ s26, cell h (((a25.add (Int.toNat x5 * 2))).add 0) = some (S s26) ∧ (∃ s27, cell h (((a25.add (Int.toNat x5 * 2))).add 1) = some (S s27) ∧ ((0 ≤ x5 ∧ x5 < (x1n : Int)) ∧ (vSome x1b fun a28 => ∃ s29, cell h (((a28.add (Int.toNat x5 * 2))).add 0) = some (S s29) ∧ (∃ s30, cell h (((a28.add (Int.toNat x5 * 2))).add 1) = some (S s30) ∧ (SemR Try.prog (binS .neq 38 (.tmp 20) (.tmp 24) (.agg ⟨[(S s26), (S s27)]⟩) (.agg ⟨[(S s29), (S s30)]⟩)) h fun v31 => vBool v31 fun b32 => cond b32 (Kr false h) (Rng .i64 (x5 + (1 : Int)) ∧ (n7_L Kn Ke0 Kr N x0b x0n x0c x1b x1n x1c (x5 + (1 : Int)) h))))))))) (Ke0 h)
abbrev n7 (x0b : Option Addr) (x0n : Nat) (x0c : Nat) (x1b : Option Addr) (x1n : Nat) (x1c : Nat) (x5 : Int) (Kn : T2) (Ke0 : T2) (Kr : T0) (h : H) : Prop := ∃ N, n7_L Kn Ke0 Kr N x0b x0n x0c x1b x1n x1c x5 h
theorem n7_ok (x0b : Option Addr) (x0n : Nat) (x0c : Nat) (x1b : Option Addr) (x1n : Nat) (x1c : Nat) (x5 : Int) (Kn : T2) (Ke0 : T2) (Kr : T0) (g : Env) (hg : E3 g x0b x0n x0c x1b x1n x1c x5) (h : H) (hS : n7 x0b x0n x0c x1b x1n x1c x5 Kn Ke0 Kr h) : wpC none Try.prog 26 n6_c1 (Q2 Kn Ke0 Kr) g h := by
  obtain ⟨N0, hS⟩ := hS
  refine wpC_loop' (x := n7_c1) (by kernel_rfl) (fun k g h => ∃ (x0b : Option Addr) (x0n : Nat) (x0c : Nat) (x1b : Option Addr) (x1n : Nat) (x1c : Nat) (x5 : Int), E3 g x0b x0n x0c x1b x1n x1c x5 ∧ n7_L Kn Ke0 Kr k x0b x0n x0c x1b x1n x1c x5 h) (fun g h hr => ?_) (fun N g h hr => ?_) N0 ⟨x0b, x0n, x0c, x1b, x1n, x1c, x5, hg, hS⟩
  · obtain ⟨x0b, x0n, x0c, x1b, x1n, x1c, x5, hg, hS⟩ := hr
    exact hS.elim
  · obtain ⟨x0b, x0n, x0c, x1b, x1n, x1c, x5, hg, hS⟩ := hr
    have hw : wpC none Try.prog 26 n7_c1 (Q3 (fun z0b z0n z0c z1b z1n z1c z5 h => n7_L Kn Ke0 Kr N z0b z0n z0c z1b z1n z1c z5 h) Ke0 Kr) g h := by
      obtain ⟨hg0, hg1, hg5, hds⟩ := hg
      refine wpC_of_wpx (by kernel_rfl) (by kernel_rfl) (g' := (((⟨g.v, []⟩ : Env).upd (some 0) (.slice x0b x0n x0c)).upd (some 1) (.slice x1b x1n x1c)).upd (some 5) (.int .i64 x5)) (by rw [env_ds hds, upd_self hg0, upd_self hg1, upd_self hg5]) ?_
      have e : (n7_L Kn Ke0 Kr (N + 1) x0b x0n x0c x1b x1n x1c x5 h) = wpx none Try.prog 26 n7_c1 (Q3 (fun z0b z0n z0c z1b z1n z1c z5 h => n7_L Kn Ke0 Kr N z0b z0n z0c z1b z1n z1c z5 h) Ke0 Kr) ((((⟨g.v, []⟩ : Env).upd (some 0) (.slice x0b x0n x0c)).upd (some 1) (.slice x1b x1n x1c)).upd (some 5) (.int .i64 x5)) h := by kernel_rfl
      exact e ▸ hS
    refine hw.mono ?_
    intro e g' h' hq
    cases e with
    | normal => exact D3_ok (K := (fun z0b z0n z0c z1b z1n z1c z5 h => n7_L Kn Ke0 Kr N z0b z0n z0c z1b z1n z1c z5 h)) hq
    | _ => exact hq
abbrev n6 (x0b : Option Addr) (x0n : Nat) (x0c : Nat) (x1b : Option Addr) (x1n : Nat) (x1c : Nat) (x5 : Int) (Kn : T2) (Kr : T0) (h : H) : Prop := n7 x0b x0n x0c x1b x1n x1c x5 Kn Kn Kr h
theorem n6_ok (x0b : Option Addr) (x0n : Nat) (x0c : Nat) (x1b : Option Addr) (x1n : Nat) (x1c : Nat) (x5 : Int) (Kn : T2) (Kr : T0) (g : Env) (hg : E3 g x0b x0n x0c x1b x1n x1c x5) (h : H) (hS : n6 x0b x0n x0c x1b x1n x1c x5 Kn Kr h) : wpC none Try.prog 26 n5_c2 (Q1 Kn Kr) g h := by
  refine wpC_block' (id := 0) (x := n6_c1) (by kernel_rfl) (n7_ok x0b x0n x0c x1b x1n x1c x5 Kn Kn Kr g hg h hS) ?_
  intro e g' h' hq
  cases e <;> exact hq
def Q4 (Kn : T3) (Kr : T0) : XPost
  | .normal, g, h => D3 Kn g h
  | .ret, g, h => D0 Kr g h
  | _, _, _ => False
abbrev n5 (x0b : Option Addr) (x0n : Nat) (x0c : Nat) (x1b : Option Addr) (x1n : Nat) (x1c : Nat) (Kn : T2) (Kr : T0) (h : H) : Prop :=
  n6 x0b x0n x0c x1b x1n x1c (0 : Int) Kn Kr h
theorem n5_ok (x0b : Option Addr) (x0n : Nat) (x0c : Nat) (x1b : Option Addr) (x1n : Nat) (x1c : Nat) (Kn : T2) (Kr : T0) (g : Env) (hg : E1 g x0b x0n x0c x1b x1n x1c) (h : H) (hS : n5 x0b x0n x0c x1b x1n x1c Kn Kr h) : wpC none Try.prog 26 n3_c1 (Q1 Kn Kr) g h := by
  obtain ⟨hg0, hg1, hds⟩ := hg
  refine wpC_seq' (x := n5_c1) (y := n5_c2) (Q' := (Q4 (fun z0b z0n z0c z1b z1n z1c z5 h => n6 z0b z0n z0c z1b z1n z1c z5 Kn Kr h) Kr)) (by kernel_rfl) ?_ ?_
  · refine wpC_of_wpx (by kernel_rfl) (by kernel_rfl) (g' := ((⟨g.v, []⟩ : Env).upd (some 0) (.slice x0b x0n x0c)).upd (some 1) (.slice x1b x1n x1c)) (by rw [env_ds hds, upd_self hg0, upd_self hg1]) ?_
    have e : (n5 x0b x0n x0c x1b x1n x1c Kn Kr h) = wpx none Try.prog 26 n5_c1 (Q4 (fun z0b z0n z0c z1b z1n z1c z5 h => n6 z0b z0n z0c z1b z1n z1c z5 Kn Kr h) Kr) (((⟨g.v, []⟩ : Env).upd (some 0) (.slice x0b x0n x0c)).upd (some 1) (.slice x1b x1n x1c)) h := by kernel_rfl
    exact e ▸ hS
  · intro e g' h' hq
    cases e with
    | normal =>
      have hq : D3 (fun z0b z0n z0c z1b z1n z1c z5 h => n6 z0b z0n z0c z1b z1n z1c z5 Kn Kr h) g' h' := hq
      obtain ⟨y0b, y0n, y0c, y1b, y1n, y1c, y5, hg', hq⟩ := D3_ok hq
      exact n6_ok y0b y0n y0c y1b y1n y1c y5 Kn Kr g' hg' h' hq
    | _ => exact hq
abbrev n3 (x0b : Option Addr) (x0n : Nat) (x0c : Nat) (x1b : Option Addr) (x1n : Nat) (x1c : Nat) (Kn : T0) (Kr : T0) (h : H) : Prop := n5 x0b x0n x0c x1b x1n x1c (fun  h => n4 Kn Kr h) Kr h
theorem n3_ok (x0b : Option Addr) (x0n : Nat) (x0c : Nat) (x1b : Option Addr) (x1n : Nat) (x1c : Nat) (Kn : T0) (Kr : T0) (g : Env) (hg : E1 g x0b x0n x0c x1b x1n x1c) (h : H) (hS : n3 x0b x0n x0c x1b x1n x1c Kn Kr h) : wpC none Try.prog 26 n2_c2 (Q0 Kn Kr) g h := by
  refine wpC_seq' (x := n3_c1) (y := n3_c2) (by kernel_rfl) (n5_ok x0b x0n x0c x1b x1n x1c (fun  h => n4 Kn Kr h) Kr g hg h hS) ?_
  intro e g' h' hq
  cases e with
  | normal =>
    have hq : D2 (fun  h => n4 Kn Kr h) g' h' := hq
    obtain ⟨hg', hq⟩ := D2_ok hq
    exact n4_ok  Kn Kr g' hg' h' hq
  | _ => exact hq
def Q5 (Kn : T1) (Kr : T0) : XPost
  | .normal, g, h => D1 Kn g h
  | .ret, g, h => D0 Kr g h
  | _, _, _ => False
abbrev n2 (x0b : Option Addr) (x0n : Nat) (x0c : Nat) (x1b : Option Addr) (x1n : Nat) (x1c : Nat) (Kn : T0) (Kr : T0) (h : H) : Prop :=
  Spl ((x0n : Int) = (x1n : Int)) (n3 x0b x0n x0c x1b x1n x1c Kn Kr h) (Kr false h)
theorem n2_ok (x0b : Option Addr) (x0n : Nat) (x0c : Nat) (x1b : Option Addr) (x1n : Nat) (x1c : Nat) (Kn : T0) (Kr : T0) (g : Env) (hg : E1 g x0b x0n x0c x1b x1n x1c) (h : H) (hS : n2 x0b x0n x0c x1b x1n x1c Kn Kr h) : wpC none Try.prog 26 n1_c2 (Q0 Kn Kr) g h := by
  obtain ⟨hg0, hg1, hds⟩ := hg
  refine wpC_seq' (x := n2_c1) (y := n2_c2) (Q' := (Q5 (fun z0b z0n z0c z1b z1n z1c h => n3 z0b z0n z0c z1b z1n z1c Kn Kr h) Kr)) (by kernel_rfl) ?_ ?_
  · refine wpC_of_wpx (by kernel_rfl) (by kernel_rfl) (g' := ((⟨g.v, []⟩ : Env).upd (some 0) (.slice x0b x0n x0c)).upd (some 1) (.slice x1b x1n x1c)) (by rw [env_ds hds, upd_self hg0, upd_self hg1]) ?_
    have e : (n2 x0b x0n x0c x1b x1n x1c Kn Kr h) = wpx none Try.prog 26 n2_c1 (Q5 (fun z0b z0n z0c z1b z1n z1c h => n3 z0b z0n z0c z1b z1n z1c Kn Kr h) Kr) (((⟨g.v, []⟩ : Env).upd (some 0) (.slice x0b x0n x0c)).upd (some 1) (.slice x1b x1n x1c)) h := by kernel_rfl
    exact e ▸ hS
  · intro e g' h' hq
    cases e with
    | normal =>
      have hq : D1 (fun z0b z0n z0c z1b z1n z1c h => n3 z0b z0n z0c z1b z1n z1c Kn Kr h) g' h' := hq
      obtain ⟨y0b, y0n, y0c, y1b, y1n, y1c, hg', hq⟩ := D1_ok hq
      exact n3_ok y0b y0n y0c y1b y1n y1c Kn Kr g' hg' h' hq
    | _ => exact hq
abbrev n1 (x0b : Option Addr) (x0n : Nat) (x0c : Nat) (x1b : Option Addr) (x1n : Nat) (x1c : Nat) (Kn : T0) (Kr : T0) (h : H) : Prop :=
  n2 x0b x0n x0c x1b x1n x1c Kn Kr h
theorem n1_ok (x0b : Option Addr) (x0n : Nat) (x0c : Nat) (x1b : Option Addr) (x1n : Nat) (x1c : Nat) (Kn : T0) (Kr : T0) (g : Env) (hg : E1 g x0b x0n x0c x1b x1n x1c) (h : H) (hS : n1 x0b x0n x0c x1b x1n x1c Kn Kr h) : wpC none Try.prog 26 code (Q0 Kn Kr) g h := by
  obtain ⟨hg0, hg1, hds⟩ := hg
  refine wpC_seq' (x := n1_c1) (y := n1_c2) (Q' := (Q5 (fun z0b z0n z0c z1b z1n z1c h => n2 z0b z0n z0c z1b z1n z1c Kn Kr h) Kr)) (by kernel_rfl) ?_ ?_
  · refine wpC_of_wpx (by kernel_rfl) (by kernel_rfl) (g' := ((⟨g.v, []⟩ : Env).upd (some 0) (.slice x0b x0n x0c)).upd (some 1) (.slice x1b x1n x1c)) (by rw [env_ds hds, upd_self hg0, upd_self hg1]) ?_
    have e : (n1 x0b x0n x0c x1b x1n x1c Kn Kr h) = wpx none Try.prog 26 n1_c1 (Q5 (fun z0b z0n z0c z1b z1n z1c h => n2 z0b z0n z0c z1b z1n z1c Kn Kr h) Kr) (((⟨g.v, []⟩ : Env).upd (some 0) (.slice x0b x0n x0c)).upd (some 1) (.slice x1b x1n x1c)) h := by kernel_rfl
    exact e ▸ hS
  · intro e g' h' hq
    cases e with
    | normal =>
      have hq : D1 (fun z0b z0n z0c z1b z1n z1c h => n2 z0b z0n z0c z1b z1n z1c Kn Kr h) g' h' := hq
      obtain ⟨y0b, y0n, y0c, y1b, y1n, y1c, hg', hq⟩ := D1_ok hq
      exact n2_ok y0b y0n y0c y1b y1n y1c Kn Kr g' hg' h' hq
    | _ => exact hq
/-- WHAT tympan/tympanref00.SameAttrs ASKS -/
abbrev asks (x0b : Option Addr) (x0n : Nat) (x0c : Nat) (x1b : Option Addr) (x1n : Nat) (x1c : Nat) (K : Value → H → Prop) (h : H) : Prop := n1 x0b x0n x0c x1b x1n x1c (fun y4 h => K (.bool y4) h) (fun y4 h => K (.bool y4) h) h
theorem ok (x0b : Option Addr) (x0n : Nat) (x0c : Nat) (x1b : Option Addr) (x1n : Nat) (x1c : Nat) (K : Value → H → Prop) (h : H) (hS : asks x0b x0n x0c x1b x1n x1c K h) : HCalls Try.prog 25 ⟨[(.slice x0b x0n x0c), (.slice x1b x1n x1c)]⟩ h K := by
  refine calls_of_wpC (c := code) Try.func25 (by kernel_rfl) (Nat.le_of_ble_eq_true (by kernel_rfl)) ?_
  refine (n1_ok x0b x0n x0c x1b x1n x1c (fun y4 h => K (.bool y4) h) (fun y4 h => K (.bool y4) h) (env0 [(.slice x0b x0n x0c), (.slice x1b x1n x1c)]) ⟨rfl, rfl, rfl⟩ h hS).mono ?_
  intro e g' h' hq
  cases e with
  | normal =>
    have hq : D0 (fun y4 h => K (.bool y4) h) g' h' := hq
    obtain ⟨y4, ⟨hg4, hd⟩, hq⟩ := D0_ok hq
    show leaveX g'.ds h' _
    rw [hd]
    show K (g'.v 4) h'
    rw [hg4]
    exact hq
  | ret =>
    have hq : D0 (fun y4 h => K (.bool y4) h) g' h' := hq
    obtain ⟨y4, ⟨hg4, hd⟩, hq⟩ := D0_ok hq
    show leaveX g'.ds h' _
    rw [hd]
    show K (g'.v 4) h'
    rw [hg4]
    exact hq
  | _ => exact hq
end Sx.r00_SameAttrs

/-! ### tympan/tympanref12.behind -/
namespace Sx.r12_behind
noncomputable def code : Code := bodyOf Try.f26
abbrev T0 := Int → H → Prop
def E0 (g : Env) (x2 : Int) : Prop := g.v 2 = (.int .i64 x2) ∧ g.ds = []
def D0 (K : T0) (g : Env) (h : H) : Prop := nilDs g.ds (vInt .i64 (g.v 2) fun i1 => K i1 h)
theorem D0_ok {K : T0} {g : Env} {h : H} (hq : D0 K g h) : ∃ (x2 : Int), E0 g x2 ∧ K x2 h := by
  obtain ⟨hd, hq⟩ := nilDs_ok hq
  obtain ⟨y3, e2, q4⟩ := vInt_ok hq
  exact ⟨y3, ⟨e2, hd⟩, q4⟩
def Q0 (Kn : T0) (Kr : T0) : XPost
  | .normal, g, h => D0 Kn g h
  | .ret, g, h => D0 Kr g h
  | _, _, _ => False
abbrev T1 := (Option Addr) → Nat → Nat → H → Prop
def E1 (g : Env) (x0b : Option Addr) (x0n : Nat) (x0c : Nat) : Prop := g.v 0 = (.slice x0b x0n x0c) ∧ g.ds = []
def D1 (K : T1) (g : Env) (h : H) : Prop := nilDs g.ds (vSlice (g.v 0) fun s5b s5n s5c => K s5b s5n s5c h)
theorem D1_ok {K : T1} {g : Env} {h : H} (hq : D1 K g h) : ∃ (x0b : Option Addr) (x0n : Nat) (x0c : Nat), E1 g x0b x0n x0c ∧ K x0b x0n x0c h := by
  obtain ⟨hd, hq⟩ := nilDs_ok hq
  obtain ⟨y7b, y7n, y7c, e6, q8⟩ := vSlice_ok hq
  exact ⟨y7b, y7n, y7c, ⟨e6, hd⟩, q8⟩
noncomputable def n1_c1 : Code := cFst code
noncomputable def n1_c2 : Code := cSnd code
noncomputable def n2_c1 : Code := cFst n1_c2
noncomputable def n2_c2 : Code := cSnd n1_c2
abbrev T2 := H → Prop
def E2 (g : Env)  : Prop := g.ds = []
def D2 (K : T2) (g : Env) (h : H) : Prop := nilDs g.ds (K h)
theorem D2_ok {K : T2} {g : Env} {h : H} (hq : D2 K g h) : E2 g  ∧ K  h := by
  obtain ⟨hd, hq⟩ := nilDs_ok hq
  skip
  exact ⟨hd, hq⟩
abbrev n3  (Kn : T0) (Kr : T0) (h : H) : Prop :=
  Kr (0 : Int) h
theorem n3_ok  (Kn : T0) (Kr : T0) (g : Env) (hg : E2 g ) (h : H) (hS : n3  Kn Kr h) : wpC none Try.prog 19 n2_c2 (Q0 Kn Kr) g h := by
  have hds : g.ds = [] := hg
  refine wpC_of_wpx (by kernel_rfl) (by kernel_rfl) (g' := ⟨g.v, []⟩) (by rw [env_ds hds]) ?_
  have e : (n3  Kn Kr h) = wpx none Try.prog 19 n2_c2 (Q0 Kn Kr) (⟨g.v, []⟩) h := by kernel_rfl
  exact e ▸ hS
def Q1 (Kn : T2) (Kr : T0) : XPost
  | .normal, g, h => D2 Kn g h
  | .ret, g, h => D0 Kr g h
  | _, _, _ => False
noncomputable def n4_c1 : Code := cFst n2_c1
noncomputable def n4_c2 : Code := cSnd n2_c1
abbrev T3 := (Option Addr) → Nat → Nat → Int → H → Prop
def E3 (g : Env) (x0b : Option Addr) (x0n : Nat) (x0c : Nat) (x3 : Int) : Prop := g.v 0 = (.slice x0b x0n x0c) ∧ g.v 3 = (.int .i64 x3) ∧ g.ds = []
def D3 (K : T3) (g : Env) (h : H) : Prop := nilDs g.ds (vSlice (g.v 0) fun s9b s9n s9c => vInt .i64 (g.v 3) fun i10 => K s9b s9n s9c i10 h)
theorem D3_ok {K : T3} {g : Env} {h : H} (hq : D3 K g h) : ∃ (x0b : Option Addr) (x0n : Nat) (x0c : Nat) (x3 : Int), E3 g x0b x0n x0c x3 ∧ K x0b x0n x0c x3 h := by
  obtain ⟨hd, hq⟩ := nilDs_ok hq
  obtain ⟨y12b, y12n, y12c, e11, q13⟩ := vSlice_ok hq
  obtain ⟨y15, e14, q16⟩ := vInt_ok q13
  exact ⟨y12b, y12n, y12c, y15, ⟨e11, e14, hd⟩, q16⟩
noncomputable def n5_c1 : Code := cFst n4_c2
def Q2 (Kn : T2) (Ke0 : T2) (Kr : T0) : XPost
  | .normal, g, h => D2 Kn g h
  | .ret, g, h => D0 Kr g h
  | .exit id, g, h => cond (Nat.beq id 0) (D2 Ke0 g h) (False)
  | _, _, _ => False
noncomputable def n6_c1 : Code := cFst n5_c1
def Q3 (Kn : T3) (Ke0 : T2) (Kr : T0) : XPost
  | .normal, g, h => D3 Kn g h
  | .ret, g, h => D0 Kr g h
  | .exit id, g, h => cond (Nat.beq id 0) (D2 Ke0 g h) (False)
  | _, _, _ => False
def n6_L (Kn : T2) (Ke0 : T2) (Kr : T0) : Nat → (Option Addr) → Nat → Nat → Int → H → Prop
  | 0, _, _, _, _, _ => False
  | N + 1, x0b, x0n, x0c, x3, h => Spl (x3 ≥ (0 : Int)) ((0 ≤ x3 ∧ x3 < (x0n : Int)) ∧ (vSome x0b fun a17 => ∃ i18, cell h ((a17.add (Int.toNat x3 * 3)).add 0) = some (.int .i64 i18) ∧ (Spl (i18 < (0 : Int)) (Rng .i64 (x3 + (1 : Int)) ∧ (Kr (x3 + (1 : Int)) h)) (Rng .i64 (x3 - (1 : Int)) ∧ (n6_L Kn Ke0 Kr N x0b x0n x0c (x3 - (1 : Int)) h))))) (Ke0 h)
abbrev n6 (x0b : Option Addr) (x0n : Nat) (x0c : Nat) (x3 : Int) (Kn : T2) (Ke0 : T2) (Kr : T0) (h : H) : Prop := ∃ N, n6_L Kn Ke0 Kr N x0b x0n x0c x3 h
theorem n6_ok (x0b : Option Addr) (x0n : Nat) (x0c : Nat) (x3 : Int) (Kn : T2) (Ke0 : T2) (Kr : T0) (g : Env) (hg : E3 g x0b x0n x0c x3) (h : H) (hS : n6 x0b x0n x0c x3 Kn Ke0 Kr h) : wpC none Try.prog 19 n5_c1 (Q2 Kn Ke0 Kr) g h := by
  obtain ⟨N0, hS⟩ := hS
  refine wpC_loop' (x := n6_c1) (by kernel_rfl) (fun k g h => ∃ (x0b : Option Addr) (x0n : Nat) (x0c : Nat) (x3 : Int), E3 g x0b x0n x0c x3 ∧ n6_L Kn Ke0 Kr k x0b x0n x0c x3 h) (fun g h hr => ?_) (fun N g h hr => ?_) N0 ⟨x0b, x0n, x0c, x3, hg, hS⟩
  · obtain ⟨x0b, x0n, x0c, x3, hg, hS⟩ := hr
    exact hS.elim
  · obtain ⟨x0b, x0n, x0c, x3, hg, hS⟩ := hr
    have hw : wpC none Try.prog 19 n6_c1 (Q3 (fun z0b z0n z0c z3 h => n6_L Kn Ke0 Kr N z0b z0n z0c z3 h) Ke0 Kr) g h := by
      obtain ⟨hg0, hg3, hds⟩ := hg
      refine wpC_of_wpx (by kernel_rfl) (by kernel_rfl) (g' := ((⟨g.v, []⟩ : Env).upd (some 0) (.slice x0b x0n x0c)).upd (some 3) (.int .i64 x3)) (by rw [env_ds hds, upd_self hg0, upd_self hg3]) ?_
      have e : (n6_L Kn Ke0 Kr (N + 1) x0b x0n x0c x3 h) = wpx none Try.prog 19 n6_c1 (Q3 (fun z0b z0n z0c z3 h => n6_L Kn Ke0 Kr N z0b z0n z0c z3 h) Ke0 Kr) (((⟨g.v, []⟩ : Env).upd (some 0) (.slice x0b x0n x0c)).upd (some 3) (.int .i64 x3)) h := by kernel_rfl
      exact e ▸ hS
    refine hw.mono ?_
    intro e g' h' hq
    cases e with
    | normal => exact D3_ok (K := (fun z0b z0n z0c z3 h => n6_L Kn Ke0 Kr N z0b z0n z0c z3 h)) hq
    | _ => exact hq
abbrev n5 (x0b : Option Addr) (x0n : Nat) (x0c : Nat) (x3 : Int) (Kn : T2) (Kr : T0) (h : H) : Prop := n6 x0b x0n x0c x3 Kn Kn Kr h
theorem n5_ok (x0b : Option Addr) (x0n : Nat) (x0c : Nat) (x3 : Int) (Kn : T2) (Kr : T0) (g : Env) (hg : E3 g x0b x0n x0c x3) (h : H) (hS : n5 x0b x0n x0c x3 Kn Kr h) : wpC none Try.prog 19 n4_c2 (Q1 Kn Kr) g h := by
  refine wpC_block' (id := 0) (x := n5_c1) (by kernel_rfl) (n6_ok x0b x0n x0c x3 Kn Kn Kr g hg h hS) ?_
  intro e g' h' hq
  cases e <;> exact hq
def Q4 (Kn : T3) (Kr : T0) : XPost
  | .normal, g, h => D3 Kn g h
  | .ret, g, h => D0 Kr g h
  | _, _, _ => False
abbrev n4 (x0b : Option Addr) (x0n : Nat) (x0c : Nat) (Kn : T2) (Kr : T0) (h : H) : Prop :=
  Rng .i64 ((x0n : Int) - (1 : Int)) ∧ (n5 x0b x0n x0c ((x0n : Int) - (1 : Int)) Kn Kr h)
theorem n4_ok (x0b : Option Addr) (x0n : Nat) (x0c : Nat) (Kn : T2) (Kr : T0) (g : Env) (hg : E1 g x0b x0n x0c) (h : H) (hS : n4 x0b x0n x0c Kn Kr h) : wpC none Try.prog 19 n2_c1 (Q1 Kn Kr) g h := by
  obtain ⟨hg0, hds⟩ := hg
  refine wpC_seq' (x := n4_c1) (y := n4_c2) (Q' := (Q4 (fun z0b z0n z0c z3 h => n5 z0b z0n z0c z3 Kn Kr h) Kr)) (by kernel_rfl) ?_ ?_
  · refine wpC_of_wpx (by kernel_rfl) (by kernel_rfl) (g' := (⟨g.v, []⟩ : Env).upd (some 0) (.slice x0b x0n x0c)) (by rw [env_ds hds, upd_self hg0]) ?_
    have e : (n4 x0b x0n x0c Kn Kr h) = wpx none Try.prog 19 n4_c1 (Q4 (fun z0b z0n z0c z3 h => n5 z0b z0n z0c z3 Kn Kr h) Kr) ((⟨g.v, []⟩ : Env).upd (some 0) (.slice x0b x0n x0c)) h := by kernel_rfl
    exact e ▸ hS
  · intro e g' h' hq
    cases e with
    | normal =>
      have hq : D3 (fun z0b z0n z0c z3 h => n5 z0b z0n z0c z3 Kn Kr h) g' h' := hq
      obtain ⟨y0b, y0n, y0c, y3, hg', hq⟩ := D3_ok hq
      exact n5_ok y0b y0n y0c y3 Kn Kr g' hg' h' hq
    | _ => exact hq
abbrev n2 (x0b : Option Addr) (x0n : Nat) (x0c : Nat) (Kn : T0) (Kr : T0) (h : H) : Prop := n4 x0b x0n x0c (fun  h => n3 Kn Kr h) Kr h
theorem n2_ok (x0b : Option Addr) (x0n : Nat) (x0c : Nat) (Kn : T0) (Kr : T0) (g : Env) (hg : E1 g x0b x0n x0c) (h : H) (hS : n2 x0b x0n x0c Kn Kr h) : wpC none Try.prog 19 n1_c2 (Q0 Kn Kr) g h := by
  refine wpC_seq' (x := n2_c1) (y := n2_c2) (by kernel_rfl) (n4_ok x0b x0n x0c (fun  h => n3 Kn Kr h) Kr g hg h hS) ?_
  intro e g' h' hq
  cases e with
  | normal =>
    have hq : D2 (fun  h => n3 Kn Kr h) g' h' := hq
    obtain ⟨hg', hq⟩ := D2_ok hq
    exact n3_ok  Kn Kr g' hg' h' hq
  | _ => exact hq
def Q5 (Kn : T1) (Kr : T0) : XPost
  | .normal, g, h => D1 Kn g h
  | .ret, g, h => D0 Kr g h
  | _, _, _ => False
abbrev n1 (x0b : Option Addr) (x0n : Nat) (x0c : Nat) (Kn : T0) (Kr : T0) (h : H) : Prop :=
  n2 x0b x0n x0c Kn Kr h
theorem n1_ok (x0b : Option Addr) (x0n : Nat) (x0c : Nat) (Kn : T0) (Kr : T0) (g : Env) (hg : E1 g x0b x0n x0c) (h : H) (hS : n1 x0b x0n x0c Kn Kr h) : wpC none Try.prog 19 code (Q0 Kn Kr) g h := by
  obtain ⟨hg0, hds⟩ := hg
  refine wpC_seq' (x := n1_c1) (y := n1_c2) (Q' := (Q5 (fun z0b z0n z0c h => n2 z0b z0n z0c Kn Kr h) Kr)) (by kernel_rfl) ?_ ?_
  · refine wpC_of_wpx (by kernel_rfl) (by kernel_rfl) (g' := (⟨g.v, []⟩ : Env).upd (some 0) (.slice x0b x0n x0c)) (by rw [env_ds hds, upd_self hg0]) ?_
    have e : (n1 x0b x0n x0c Kn Kr h) = wpx none Try.prog 19 n1_c1 (Q5 (fun z0b z0n z0c h => n2 z0b z0n z0c Kn Kr h) Kr) ((⟨g.v, []⟩ : Env).upd (some 0) (.slice x0b x0n x0c)) h := by kernel_rfl
    exact e ▸ hS
  · intro e g' h' hq
    cases e with
    | normal =>
      have hq : D1 (fun z0b z0n z0c h => n2 z0b z0n z0c Kn Kr h) g' h' := hq
      obtain ⟨y0b, y0n, y0c, hg', hq⟩ := D1_ok hq
      exact n2_ok y0b y0n y0c Kn Kr g' hg' h' hq
    | _ => exact hq
/-- WHAT tympan/tympanref12.behind ASKS -/
abbrev asks (x0b : Option Addr) (x0n : Nat) (x0c : Nat) (K : Value → H → Prop) (h : H) : Prop := n1 x0b x0n x0c (fun y2 h => K (.int .i64 y2) h) (fun y2 h => K (.int .i64 y2) h) h
theorem ok (x0b : Option Addr) (x0n : Nat) (x0c : Nat) (K : Value → H → Prop) (h : H) (hS : asks x0b x0n x0c K h) : HCalls Try.prog 26 ⟨[(.slice x0b x0n x0c)]⟩ h K := by
  refine calls_of_wpC (c := code) Try.func26 (by kernel_rfl) (Nat.le_of_ble_eq_true (by kernel_rfl)) ?_
  refine (n1_ok x0b x0n x0c (fun y2 h => K (.int .i64 y2) h) (fun y2 h => K (.int .i64 y2) h) (env0 [(.slice x0b x0n x0c)]) ⟨rfl, rfl⟩ h hS).mono ?_
  intro e g' h' hq
  cases e with
  | normal =>
    have hq : D0 (fun y2 h => K (.int .i64 y2) h) g' h' := hq
    obtain ⟨y2, ⟨hg2, hd⟩, hq⟩ := D0_ok hq
    show leaveX g'.ds h' _
    rw [hd]
    show K (g'.v 2) h'
    rw [hg2]
    exact hq
  | ret =>
    have hq : D0 (fun y2 h => K (.int .i64 y2) h) g' h' := hq
    obtain ⟨y2, ⟨hg2, hd⟩, hq⟩ := D0_ok hq
    show leaveX g'.ds h' _
    rw [hd]
    show K (g'.v 2) h'
    rw [hg2]
    exact hq
  | _ => exact hq
end Sx.r12_behind

/-! ### tympan/tympanref12.alike -/
namespace Sx.r12_alike
noncomputable def code : Code := bodyOf Try.f27
abbrev T0 := Bool → H → Prop
def E0 (g : Env) (x4 : Bool) : Prop := g.v 4 = (.bool x4) ∧ g.ds = []
def D0 (K : T0) (g : Env) (h : H) : Prop := nilDs g.ds (vBool (g.v 4) fun b1 => K b1 h)
theorem D0_ok {K : T0} {g : Env} {h : H} (hq : D0 K g h) : ∃ (x4 : Bool), E0 g x4 ∧ K x4 h := by
  obtain ⟨hd, hq⟩ := nilDs_ok hq
  obtain ⟨y3, e2, q4⟩ := vBool_ok hq
  exact ⟨y3, ⟨e2, hd⟩, q4⟩
def Q0 (Kn : T0) (Kr : T0) : XPost
  | .normal, g, h => D0 Kn g h
  | .ret, g, h => D0 Kr g h
  | _, _, _ => False
abbrev T1 := Int → (List UInt8) → (Option Addr) → Nat → Nat → Int → (List UInt8) → (Option Addr) → Nat → Nat → H → Prop
def E1 (g : Env) (x0_0 : Int) (x0_1 : List UInt8) (x0_2b : Option Addr) (x0_2n : Nat) (x0_2c : Nat) (x1_0 : Int) (x1_1 : List UInt8) (x1_2b : Option Addr) (x1_2n : Nat) (x1_2c : Nat) : Prop := g.v 0 = (.agg ⟨[(.int .i64 x0_0), (S x0_1), (.slice x0_2b x0_2n x0_2c)]⟩) ∧ g.v 1 = (.agg ⟨[(.int .i64 x1_0), (S x1_1), (.slice x1_2b x1_2n x1_2c)]⟩) ∧ g.ds = []
def D1 (K : T1) (g : Env) (h : H) : Prop := nilDs g.ds (vAgg (g.v 0) fun l5 => uncons l5 fun e6 l7 => vInt .i64 e6 fun i8 => uncons l7 fun e9 l10 => vStr e9 fun s11 => uncons l10 fun e12 l13 => vSlice e12 fun s14b s14n s14c => unnil l13 (vAgg (g.v 1) fun l15 => uncons l15 fun e16 l17 => vInt .i64 e16 fun i18 => uncons l17 fun e19 l20 => vStr e19 fun s21 => uncons l20 fun e22 l23 => vSlice e22 fun s24b s24n s24c => unnil l23 (K i8 s11 s14b s14n s14c i18 s21 s24b s24n s24c h)))
theorem D1_ok {K : T1} {g : Env} {h : H} (hq : D1 K g h) : ∃ (x0_0 : Int) (x0_1 : List UInt8) (x0_2b : Option Addr) (x0_2n : Nat) (x0_2c : Nat) (x1_0 : Int) (x1_1 : List UInt8) (x1_2b : Option Addr) (x1_2n : Nat) (x1_2c : Nat), E1 g x0_0 x0_1 x0_2b x0_2n x0_2c x1_0 x1_1 x1_2b x1_2n x1_2c ∧ K x0_0 x0_1 x0_2b x0_2n x0_2c x1_0 x1_1 x1_2b x1_2n x1_2c h := by
  obtain ⟨hd, hq⟩ := nilDs_ok hq
  obtain ⟨l26, e25, q27⟩ := vAgg_ok hq
  obtain ⟨u28, l29, rfl, q30⟩ := uncons_ok q27
  obtain ⟨y31, rfl, q32⟩ := vInt_ok q30
  obtain ⟨u33, l34, rfl, q35⟩ := uncons_ok q32
  obtain ⟨y36, rfl, q37⟩ := vStr_ok q35
  obtain ⟨u38, l39, rfl, q40⟩ := uncons_ok q37
  obtain ⟨y41b, y41n, y41c, rfl, q42⟩ := vSlice_ok q40
  obtain ⟨rfl, q43⟩ := unnil_ok q42
  obtain ⟨l45, e44, q46⟩ := vAgg_ok q43
  obtain ⟨u47, l48, rfl, q49⟩ := uncons_ok q46
  obtain ⟨y50, rfl, q51⟩ := vInt_ok q49
  obtain ⟨u52, l53, rfl, q54⟩ := uncons_ok q51
  obtain ⟨y55, rfl, q56⟩ := vStr_ok q54
  obtain ⟨u57, l58, rfl, q59⟩ := uncons_ok q56
  obtain ⟨y60b, y60n, y60c, rfl, q61⟩ := vSlice_ok q59
  obtain ⟨rfl, q62⟩ := unnil_ok q61
  exact ⟨y31, y36, y41b, y41n, y41c, y50, y55, y60b, y60n, y60c, ⟨e25, e44, hd⟩, q62⟩
noncomputable def n1_c1 : Code := cFst code
noncomputable def n1_c2 : Code := cSnd code
abbrev T2 := Addr → Addr → H → Prop
def E2 (g : Env) (x2 : Addr) (x3 : Addr) : Prop := g.v 2 = (.pointer (some x2)) ∧ g.v 3 = (.pointer (some x3)) ∧ g.ds = []
def D2 (K : T2) (g : Env) (h : H) : Prop := nilDs g.ds (vAddr (g.v 2) fun a63 => vAddr (g.v 3) fun a64 => K a63 a64 h)
theorem D2_ok {K : T2} {g : Env} {h : H} (hq : D2 K g h) : ∃ (x2 : Addr) (x3 : Addr), E2 g x2 x3 ∧ K x2 x3 h := by
  obtain ⟨hd, hq⟩ := nilDs_ok hq
  obtain ⟨y66, e65, q67⟩ := vAddr_ok hq
  obtain ⟨y69, e68, q70⟩ := vAddr_ok q67
  exact ⟨y66, y69, ⟨e65, e68, hd⟩, q70⟩
noncomputable def n2_c1 : Code := cFst n1_c2
noncomputable def n2_c2 : Code := cSnd n1_c2
noncomputable def n3_c1 : Code := cFst n2_c2
noncomputable def n3_c2 : Code := cSnd n2_c2
abbrev T3 := H → Prop
def E3 (g : Env)  : Prop := g.ds = []
def D3 (K : T3) (g : Env) (h : H) : Prop := nilDs g.ds (K h)
theorem D3_ok {K : T3} {g : Env} {h : H} (hq : D3 K g h) : E3 g  ∧ K  h := by
  obtain ⟨hd, hq⟩ := nilDs_ok hq
  skip
  exact ⟨hd, hq⟩
abbrev n4  (Kn : T0) (Kr : T0) (h : H) : Prop :=
  Kr true h
theorem n4_ok  (Kn : T0) (Kr : T0) (g : Env) (hg : E3 g ) (h : H) (hS : n4  Kn Kr h) : wpC none Try.prog 52 n3_c2 (Q0 Kn Kr) g h := by
  have hds : g.ds = [] := hg
  refine wpC_of_wpx (by kernel_rfl) (by kernel_rfl) (g' := ⟨g.v, []⟩) (by rw [env_ds hds]) ?_
  have e : (n4  Kn Kr h) = wpx none Try.prog 52 n3_c2 (Q0 Kn Kr) (⟨g.v, []⟩) h := by kernel_rfl
  exact e ▸ hS
def Q1 (Kn : T3) (Kr : T0) : XPost
  | .normal, g, h => D3 Kn g h
  | .ret, g, h => D0 Kr g h
  | _, _, _ => False
noncomputable def n5_c1 : Code := cFst n3_c1
noncomputable def n5_c2 : Code := cSnd n3_c1
abbrev T4 := Addr → Addr → Int → H → Prop
def E4 (g : Env) (x2 : Addr) (x3 : Addr) (x5 : Int) : Prop := g.v 2 = (.pointer (some x2)) ∧ g.v 3 = (.pointer (some x3)) ∧ g.v 5 = (.int .i64 x5) ∧ g.ds = []
def D4 (K : T4) (g : Env) (h : H) : Prop := nilDs g.ds (vAddr (g.v 2) fun a71 => vAddr (g.v 3) fun a72 => vInt .i64 (g.v 5) fun i73 => K a71 a72 i73 h)
theorem D4_ok {K : T4} {g : Env} {h : H} (hq : D4 K g h) : ∃ (x2 : Addr) (x3 : Addr) (x5 : Int), E4 g x2 x3 x5 ∧ K x2 x3 x5 h := by
  obtain ⟨hd, hq⟩ := nilDs_ok hq
  obtain ⟨y75, e74, q76⟩ := vAddr_ok hq
  obtain ⟨y78, e77, q79⟩ := vAddr_ok q76
  obtain ⟨y81, e80, q82⟩ := vInt_ok q79
  exact ⟨y75, y78, y81, ⟨e74, e77, e80, hd⟩, q82⟩
noncomputable def n6_c1 : Code := cFst n5_c2
def Q2 (Kn : T3) (Ke0 : T3) (Kr : T0) : XPost
  | .normal, g, h => D3 Kn g h
  | .ret, g, h => D0 Kr g h
  | .exit id, g, h => cond (Nat.beq id 0) (D3 Ke0 g h) (False)
  | _, _, _ => False
noncomputable def n7_c1 : Code := cFst n6_c1
def Q3 (Kn : T4) (Ke0 : T3) (Kr : T0) : XPost
  | .normal, g, h => D4 Kn g h
  | .ret, g, h => D0 Kr g h
  | .exit id, g, h => cond (Nat.beq id 0) (D3 Ke0 g h) (False)
  | _, _, _ => False
noncomputable def n8_c1 : Code := cFst n7_c1
noncomputable def n8_c2 : Code := cSnd n7_c1
noncomputable def n9_c1 : Code := cFst n8_c2
noncomputable def n9_c2 : Code := cSnd n8_c2
abbrev n10 (x2 : Addr) (x3 : Addr) (x5 : Int) (Kn : T4) (Ke0 : T3) (Kr : T0) (h : H) : Prop :=
  Rng .i64 (x5 + (1 : Int)) ∧ (Kn x2 x3 (x5 + (1 : Int)) h)
theorem n10_ok (x2 : Addr) (x3 : Addr) (x5 : Int) (Kn : T4) (Ke0 : T3) (Kr : T0) (g : Env) (hg : E4 g x2 x3 x5) (h : H) (hS : n10 x2 x3 x5 Kn Ke0 Kr h) : wpC none Try.prog 52 n9_c2 (Q3 Kn Ke0 Kr) g h := by
  obtain ⟨hg2, hg3, hg5, hds⟩ := hg
  refine wpC_of_wpx (by kernel_rfl) (by kernel_rfl) (g' := (((⟨g.v, []⟩ : Env).upd (some 2) (.pointer (some x2))).upd (some 3) (.pointer (some x3))).upd (some 5) (.int .i64 x5)) (by rw [env_ds hds, upd_self hg2, upd_self hg3, upd_self hg5]) ?_
  have e : (n10 x2 x3 x5 Kn Ke0 Kr h) = wpx none Try.prog 52 n9_c2 (Q3 Kn Ke0 Kr) ((((⟨g.v, []⟩ : Env).upd (some 2) (.pointer (some x2))).upd (some 3) (.pointer (some x3))).upd (some 5) (.int .i64 x5)) h := by kernel_rfl
  exact e ▸ hS
noncomputable def n11_c1 : Code := cFst n9_c1
def Q4 (Kn : T4) (Ke1 : T4) (Ke0 : T3) (Kr : T0) : XPost
  | .normal, g, h => D4 Kn g h
  | .ret, g, h => D0 Kr g h
  | .exit id, g, h => cond (Nat.beq id 1) (D4 Ke1 g h) (cond (Nat.beq id 0) (D3 Ke0 g h) (False))
  | _, _, _ => False
noncomputable def n12_c1 : Code := cFst n11_c1
noncomputable def n12_c2 : Code := cSnd n11_c1
abbrev T5 := Addr → Addr → Int → Bool → H → Prop
def E5 (g : Env) (x2 : Addr) (x3 : Addr) (x5 : Int) (x6 : Bool) : Prop := g.v 2 = (.pointer (some x2)) ∧ g.v 3 = (.pointer (some x3)) ∧ g.v 5 = (.int .i64 x5) ∧ g.v 6 = (.bool x6) ∧ g.ds = []
def D5 (K : T5) (g : Env) (h : H) : Prop := nilDs g.ds (vAddr (g.v 2) fun a83 => vAddr (g.v 3) fun a84 => vInt .i64 (g.v 5) fun i85 => vBool (g.v 6) fun b86 => K a83 a84 i85 b86 h)
theorem D5_ok {K : T5} {g : Env} {h : H} (hq : D5 K g h) : ∃ (x2 : Addr) (x3 : Addr) (x5 : Int) (x6 : Bool), E5 g x2 x3 x5 x6 ∧ K x2 x3 x5 x6 h := by
  obtain ⟨hd, hq⟩ := nilDs_ok hq
  obtain ⟨y88, e87, q89⟩ := vAddr_ok hq
  obtain ⟨y91, e90, q92⟩ := vAddr_ok q89
  obtain ⟨y94, e93, q95⟩ := vInt_ok q92
  obtain ⟨y97, e96, q98⟩ := vBool_ok q95
  exact ⟨y88, y91, y94, y97, ⟨e87, e90, e93, e96, hd⟩, q98⟩
noncomputable def n13_c1 : Code := cFst n12_c2
noncomputable def n13_c2 : Code := cSnd n12_c2
abbrev n14 (x2 : Addr) (x3 : Addr) (x5 : Int) (x6 : Bool) (Kn : T4) (Ke1 : T4) (Ke0 : T3) (Kr : T0) (h : H) : Prop :=
  cond x6 (Kn x2 x3 x5 h) (Kr false h)
theorem n14_ok (x2 : Addr) (x3 : Addr) (x5 : Int) (x6 : Bool) (Kn : T4) (Ke1 : T4) (Ke0 : T3) (Kr : T0) (g : Env) (hg : E5 g x2 x3 x5 x6) (h : H) (hS : n14 x2 x3 x5 x6 Kn Ke1 Ke0 Kr h) : wpC none Try.prog 52 n13_c2 (Q4 Kn Ke1 Ke0 Kr) g h := by
  obtain ⟨hg2, hg3, hg5, hg6, hds⟩ := hg
  refine wpC_of_wpx (by kernel_rfl) (by kernel_rfl) (g' := ((((⟨g.v, []⟩ : Env).upd (some 2) (.pointer (some x2))).upd (some 3) (.pointer (some x3))).upd (some 5) (.int .i64 x5)).upd (some 6) (.bool x6)) (by rw [env_ds hds, upd_self hg2, upd_self hg3, upd_self hg5, upd_self hg6]) ?_
  have e : (n14 x2 x3 x5 x6 Kn Ke1 Ke0 Kr h) = wpx none Try.prog 52 n13_c2 (Q4 Kn Ke1 Ke0 Kr) (((((⟨g.v, []⟩ : Env).upd (some 2) (.pointer (some x2))).upd (some 3) (.pointer (some x3))).upd (some 5) (.int .i64 x5)).upd (some 6) (.bool x6)) h := by kernel_rfl
  exact e ▸ hS
def Q5 (Kn : T5) (Ke1 : T4) (Ke0 : T3) (Kr : T0) : XPost
  | .normal, g, h => D5 Kn g h
  | .ret, g, h => D0 Kr g h
  | .exit id, g, h => cond (Nat.beq id 1) (D4 Ke1 g h) (cond (Nat.beq id 0) (D3 Ke0 g h) (False))
  | _, _, _ => False
noncomputable def n15_c1 : Code := cFst n13_c1
noncomputable def n15_c2 : Code := cSnd n13_c1
abbrev T6 := Addr → Addr → Int → Bool → Int → H → Prop
def E6 (g : Env) (x2 : Addr) (x3 : Addr) (x5 : Int) (x6 : Bool) (x7 : Int) : Prop := g.v 2 = (.pointer (some x2)) ∧ g.v 3 = (.pointer (some x3)) ∧ g.v 5 = (.int .i64 x5) ∧ g.v 6 = (.bool x6) ∧ g.v 7 = (.int .i64 x7) ∧ g.ds = []
def D6 (K : T6) (g : Env) (h : H) : Prop := nilDs g.ds (vAddr (g.v 2) fun a99 => vAddr (g.v 3) fun a100 => vInt .i64 (g.v 5) fun i101 => vBool (g.v 6) fun b102 => vInt .i64 (g.v 7) fun i103 => K a99 a100 i101 b102 i103 h)
theorem D6_ok {K : T6} {g : Env} {h : H} (hq : D6 K g h) : ∃ (x2 : Addr) (x3 : Addr) (x5 : Int) (x6 : Bool) (x7 : Int), E6 g x2 x3 x5 x6 x7 ∧ K x2 x3 x5 x6 x7 h := by
  obtain ⟨hd, hq⟩ := nilDs_ok hq
  obtain ⟨y105, e104, q106⟩ := vAddr_ok hq
  obtain ⟨y108, e107, q109⟩ := vAddr_ok q106
  obtain ⟨y111, e110, q112⟩ := vInt_ok q109
  obtain ⟨y114, e113, q115⟩ := vBool_ok q112
  obtain ⟨y117, e116, q118⟩ := vInt_ok q115
  exact ⟨y105, y108, y111, y114, y117, ⟨e104, e107, e110, e113, e116, hd⟩, q118⟩
noncomputable def n16_c1 : Code := cFst n15_c2
def Q6 (Kn : T5) (Ke2 : T5) (Ke1 : T4) (Ke0 : T3) (Kr : T0) : XPost
  | .normal, g, h => D5 Kn g h
  | .ret, g, h => D0 Kr g h
  | .exit id, g, h => cond (Nat.beq id 2) (D5 Ke2 g h) (cond (Nat.beq id 1) (D4 Ke1 g h) (cond (Nat.beq id 0) (D3 Ke0 g h) (False)))
  | _, _, _ => False
noncomputable def n17_c1 : Code := cFst n16_c1
def Q7 (Kn : T6) (Ke2 : T5) (Ke1 : T4) (Ke0 : T3) (Kr : T0) : XPost
  | .normal, g, h => D6 Kn g h
  | .ret, g, h => D0 Kr g h
  | .exit id, g, h => cond (Nat.beq id 2) (D5 Ke2 g h) (cond (Nat.beq id 1) (D4 Ke1 g h) (cond (Nat.beq id 0) (D3 Ke0 g h) (False)))
  | _, _, _ => False
def n17_L (Kn : T5) (Ke2 : T5) (Ke1 : T4) (Ke0 : T3) (Kr : T0) : Nat → Addr → Addr → Int → Bool → Int → H → Prop
  | 0, _, _, _, _, _, _ => False
  | N + 1, x2, x3, x5, x6, x7, h => ∃ s119b s119n s119c, cell h (x3.add 2) = some (.slice s119b s119n s119c) ∧ (Spl (x7 < (s119n : Int)) (cond x6 (Rng .i64 (x7 + (1 : Int)) ∧ (n17_L Kn Ke2 Ke1 Ke0 Kr N x2 x3 x5 true (x7 + (1 : Int)) h)) (∃ s120b s120n s120c, cell h (x2.add 2) = some (.slice s120b s120n s120c) ∧ ((0 ≤ x5 ∧ x5 < (s120n : Int)) ∧ (vSome s120b fun a121 => ∃ s122, cell h (((a121.add (Int.toNat x5 * 2))).add 0) = some (S s122) ∧ (∃ s123, cell h (((a121.add (Int.toNat x5 * 2))).add 1) = some (S s123) ∧ (∃ s124b s124n s124c, cell h (x3.add 2) = some (.slice s124b s124n s124c) ∧ ((0 ≤ x7 ∧ x7 < (s124n : Int)) ∧ (vSome s124b fun a125 => ∃ s126, cell h (((a125.add (Int.toNat x7 * 2))).add 0) = some (S s126) ∧ (∃ s127, cell h (((a125.add (Int.toNat x7 * 2))).add 1) = some (S s127) ∧ (SemR Try.prog (binS .eql 38 (.tmp 42) (.tmp 47) (.agg ⟨[(S s122), (S s123)]⟩) (.agg ⟨[(S s126), (S s127)]⟩)) h fun v128 => vBool v128 fun b129 => cond b129 (Rng .i64 (x7 + (1 : Int)) ∧ (n17_L Kn Ke2 Ke1 Ke0 Kr N x2 x3 x5 true (x7 + (1 : Int)) h)) (Rng .i64 (x7 + (1 : Int)) ∧ (n17_L Kn Ke2 Ke1 Ke0 Kr N x2 x3 x5 false (x7 + (1 : Int)) h)))))))))))) (Ke2 x2 x3 x5 x6 h))
abbrev n17 (x2 : Addr) (x3 : Addr) (x5 : Int) (x6 : Bool) (x7 : Int) (Kn : T5) (Ke2 : T5) (Ke1 : T4) (Ke0 : T3) (Kr : T0) (h : H) : Prop := ∃ N, n17_L Kn Ke2 Ke1 Ke0 Kr N x2 x3 x5 x6 x7 h
theorem n17_ok (x2 : Addr) (x3 : Addr) (x5 : Int) (x6 : Bool) (x7 : Int) (Kn : T5) (Ke2 : T5) (Ke1 : T4) (Ke0 : T3) (Kr : T0) (g : Env) (hg : E6 g x2 x3 x5 x6 x7) (h : H) (hS : n17 x2 x3 x5 x6 x7 Kn Ke2 Ke1 Ke0 Kr h) : wpC none Try.prog 52 n16_c1 (Q6 Kn Ke2 Ke1 Ke0 Kr) g h := by
  obtain ⟨N0, hS⟩ := hS
  refine wpC_loop' (x := n17_c1) (by kernel_rfl) (fun k g h => ∃ (x2 : Addr) (x3 : Addr) (x5 : Int) (x6 : Bool) (x7 : Int), E6 g x2 x3 x5 x6 x7 ∧ n17_L Kn Ke2 Ke1 Ke0 Kr k x2 x3 x5 x6 x7 h) (fun g h hr => ?_) (fun N g h hr => ?_) N0 ⟨x2, x3, x5, x6, x7, hg, hS⟩
  · obtain ⟨x2, x3, x5, x6, x7, hg, hS⟩ := hr
    exact hS.elim
  · obtain ⟨x2, x3, x5, x6, x7, hg, hS⟩ := hr
    have hw : wpC none Try.prog 52 n17_c1 (Q7 (fun z2 z3 z5 z6 z7 h => n17_L Kn Ke2 Ke1 Ke0 Kr N z2 z3 z5 z6 z7 h) Ke2 Ke1 Ke0 Kr) g h := by
      obtain ⟨hg2, hg3, hg5, hg6, hg7, hds⟩ := hg
      refine wpC_of_wpx (by kernel_rfl) (by kernel_rfl) (g' := (((((⟨g.v, []⟩ : Env).upd (some 2) (.pointer (some x2))).upd (some 3) (.pointer (some x3))).upd (some 5) (.int .i64 x5)).upd (some 6) (.bool x6)).upd (some 7) (.int .i64 x7)) (by rw [env_ds hds, upd_self hg2, upd_self hg3, upd_self hg5, upd_self hg6, upd_self hg7]) ?_
      have e : (n17_L Kn Ke2 Ke1 Ke0 Kr (N + 1) x2 x3 x5 x6 x7 h) = wpx none Try.prog 52 n17_c1 (Q7 (fun z2 z3 z5 z6 z7 h => n17_L Kn Ke2 Ke1 Ke0 Kr N z2 z3 z5 z6 z7 h) Ke2 Ke1 Ke0 Kr) ((((((⟨g.v, []⟩ : Env).upd (some 2) (.pointer (some x2))).upd (some 3) (.pointer (some x3))).upd (some 5) (.int .i64 x5)).upd (some 6) (.bool x6)).upd (some 7) (.int .i64 x7)) h := by kernel_rfl
      exact e ▸ hS
    refine hw.mono ?_
    intro e g' h' hq
    cases e with
    | normal => exact D6_ok (K := (fun z2 z3 z5 z6 z7 h => n17_L Kn Ke2 Ke1 Ke0 Kr N z2 z3 z5 z6 z7 h)) hq
    | _ => exact hq
abbrev n16 (x2 : Addr) (x3 : Addr) (x5 : Int) (x6 : Bool) (x7 : Int) (Kn : T5) (Ke1 : T4) (Ke0 : T3) (Kr : T0) (h : H) : Prop := n17 x2 x3 x5 x6 x7 Kn Kn Ke1 Ke0 Kr h
theorem n16_ok (x2 : Addr) (x3 : Addr) (x5 : Int) (x6 : Bool) (x7 : Int) (Kn : T5) (Ke1 : T4) (Ke0 : T3) (Kr : T0) (g : Env) (hg : E6 g x2 x3 x5 x6 x7) (h : H) (hS : n16 x2 x3 x5 x6 x7 Kn Ke1 Ke0 Kr h) : wpC none Try.prog 52 n15_c2 (Q5 Kn Ke1 Ke0 Kr) g h := by
  refine wpC_block' (id := 2) (x := n16_c1) (by kernel_rfl) (n17_ok x2 x3 x5 x6 x7 Kn Kn Ke1 Ke0 Kr g hg h hS) ?_
  intro e g' h' hq
  cases e <;> exact hq
def Q8 (Kn : T6) (Ke1 : T4) (Ke0 : T3) (Kr : T0) : XPost
  | .normal, g, h => D6 Kn g h
  | .ret, g, h => D0 Kr g h
  | .exit id, g, h => cond (Nat.beq id 1) (D4 Ke1 g h) (cond (Nat.beq id 0) (D3 Ke0 g h) (False))
  | _, _, _ => False
abbrev n15 (x2 : Addr) (x3 : Addr) (x5 : Int) (x6 : Bool) (Kn : T5) (Ke1 : T4) (Ke0 : T3) (Kr : T0) (h : H) : Prop :=
  n16 x2 x3 x5 x6 (0 : Int) Kn Ke1 Ke0 Kr h
theorem n15_ok (x2 : Addr) (x3 : Addr) (x5 : Int) (x6 : Bool) (Kn : T5) (Ke1 : T4) (Ke0 : T3) (Kr : T0) (g : Env) (hg : E5 g x2 x3 x5 x6) (h : H) (hS : n15 x2 x3 x5 x6 Kn Ke1 Ke0 Kr h) : wpC none Try.prog 52 n13_c1 (Q5 Kn Ke1 Ke0 Kr) g h := by
  obtain ⟨hg2, hg3, hg5, hg6, hds⟩ := hg
  refine wpC_seq' (x := n15_c1) (y := n15_c2) (Q' := (Q8 (fun z2 z3 z5 z6 z7 h => n16 z2 z3 z5 z6 z7 Kn Ke1 Ke0 Kr h) Ke1 Ke0 Kr)) (by kernel_rfl) ?_ ?_
  · refine wpC_of_wpx (by kernel_rfl) (by kernel_rfl) (g' := ((((⟨g.v, []⟩ : Env).upd (some 2) (.pointer (some x2))).upd (some 3) (.pointer (some x3))).upd (some 5) (.int .i64 x5)).upd (some 6) (.bool x6)) (by rw [env_ds hds, upd_self hg2, upd_self hg3, upd_self hg5, upd_self hg6]) ?_
    have e : (n15 x2 x3 x5 x6 Kn Ke1 Ke0 Kr h) = wpx none Try.prog 52 n15_c1 (Q8 (fun z2 z3 z5 z6 z7 h => n16 z2 z3 z5 z6 z7 Kn Ke1 Ke0 Kr h) Ke1 Ke0 Kr) (((((⟨g.v, []⟩ : Env).upd (some 2) (.pointer (some x2))).upd (some 3) (.pointer (some x3))).upd (some 5) (.int .i64 x5)).upd (some 6) (.bool x6)) h := by kernel_rfl
    exact e ▸ hS
  · intro e g' h' hq
    cases e with
    | normal =>
      have hq : D6 (fun z2 z3 z5 z6 z7 h => n16 z2 z3 z5 z6 z7 Kn Ke1 Ke0 Kr h) g' h' := hq
      obtain ⟨y2, y3, y5, y6, y7, hg', hq⟩ := D6_ok hq
      exact n16_ok y2 y3 y5 y6 y7 Kn Ke1 Ke0 Kr g' hg' h' hq
    | _ => exact hq
abbrev n13 (x2 : Addr) (x3 : Addr) (x5 : Int) (x6 : Bool) (Kn : T4) (Ke1 : T4) (Ke0 : T3) (Kr : T0) (h : H) : Prop := n15 x2 x3 x5 x6 (fun z2 z3 z5 z6 h => n14 z2 z3 z5 z6 Kn Ke1 Ke0 Kr h) Ke1 Ke0 Kr h
theorem n13_ok (x2 : Addr) (x3 : Addr) (x5 : Int) (x6 : Bool) (Kn : T4) (Ke1 : T4) (Ke0 : T3) (Kr : T0) (g : Env) (hg : E5 g x2 x3 x5 x6) (h : H) (hS : n13 x2 x3 x5 x6 Kn Ke1 Ke0 Kr h) : wpC none Try.prog 52 n12_c2 (Q4 Kn Ke1 Ke0 Kr) g h := by
  refine wpC_seq' (x := n13_c1) (y := n13_c2) (by kernel_rfl) (n15_ok x2 x3 x5 x6 (fun z2 z3 z5 z6 h => n14 z2 z3 z5 z6 Kn Ke1 Ke0 Kr h) Ke1 Ke0 Kr g hg h hS) ?_
  intro e g' h' hq
  cases e with
  | normal =>
    have hq : D5 (fun z2 z3 z5 z6 h => n14 z2 z3 z5 z6 Kn Ke1 Ke0 Kr h) g' h' := hq
    obtain ⟨y2, y3, y5, y6, hg', hq⟩ := D5_ok hq
    exact n14_ok y2 y3 y5 y6 Kn Ke1 Ke0 Kr g' hg' h' hq
  | _ => exact hq
abbrev n12 (x2 : Addr) (x3 : Addr) (x5 : Int) (Kn : T4) (Ke1 : T4) (Ke0 : T3) (Kr : T0) (h : H) : Prop :=
  n13 x2 x3 x5 false Kn Ke1 Ke0 Kr h
theorem n12_ok (x2 : Addr) (x3 : Addr) (x5 : Int) (Kn : T4) (Ke1 : T4) (Ke0 : T3) (Kr : T0) (g : Env) (hg : E4 g x2 x3 x5) (h : H) (hS : n12 x2 x3 x5 Kn Ke1 Ke0 Kr h) : wpC none Try.prog 52 n11_c1 (Q4 Kn Ke1 Ke0 Kr) g h := by
  obtain ⟨hg2, hg3, hg5, hds⟩ := hg
  refine wpC_seq' (x := n12_c1) (y := n12_c2) (Q' := (Q5 (fun z2 z3 z5 z6 h => n13 z2 z3 z5 z6 Kn Ke1 Ke0 Kr h) Ke1 Ke0 Kr)) (by kernel_rfl) ?_ ?_
  · refine wpC_of_wpx (by kernel_rfl) (by kernel_rfl) (g' := (((⟨g.v, []⟩ : Env).upd (some 2) (.pointer (some x2))).upd (some 3) (.pointer (some x3))).upd (some 5) (.int .i64 x5)) (by rw [env_ds hds, upd_self hg2, upd_self hg3, upd_self hg5]) ?_
    have e : (n12 x2 x3 x5 Kn Ke1 Ke0 Kr h) = wpx none Try.prog 52 n12_c1 (Q5 (fun z2 z3 z5 z6 h => n13 z2 z3 z5 z6 Kn Ke1 Ke0 Kr h) Ke1 Ke0 Kr) ((((⟨g.v, []⟩ : Env).upd (some 2) (.pointer (some x2))).upd (some 3) (.pointer (some x3))).upd (some 5) (.int .i64 x5)) h := by kernel_rfl
    exact e ▸ hS
  · intro e g' h' hq
    cases e with
    | normal =>
      have hq : D5 (fun z2 z3 z5 z6 h => n13 z2 z3 z5 z6 Kn Ke1 Ke0 Kr h) g' h' := hq
      obtain ⟨y2, y3, y5, y6, hg', hq⟩ := D5_ok hq
      exact n13_ok y2 y3 y5 y6 Kn Ke1 Ke0 Kr g' hg' h' hq
    | _ => exact hq
abbrev n11 (x2 : Addr) (x3 : Addr) (x5 : Int) (Kn : T4) (Ke0 : T3) (Kr : T0) (h : H) : Prop := n12 x2 x3 x5 Kn Kn Ke0 Kr h
theorem n11_ok (x2 : Addr) (x3 : Addr) (x5 : Int) (Kn : T4) (Ke0 : T3) (Kr : T0) (g : Env) (hg : E4 g x2 x3 x5) (h : H) (hS : n11 x2 x3 x5 Kn Ke0 Kr h) : wpC none Try.prog 52 n9_c1 (Q3 Kn Ke0 Kr) g h := by
  refine wpC_block' (id := 1) (x := n11_c1) (by kernel_rfl) (n12_ok x2 x3 x5 Kn Kn Ke0 Kr g hg h hS) ?_
  intro e g' h' hq
  cases e <;> exact hq
abbrev n9 (x2 : Addr) (x3 : Addr) (x5 : Int) (Kn : T4) (Ke0 : T3) (Kr : T0) (h : H) : Prop := n11 x2 x3 x5 (fun z2 z3 z5 h => n10 z2 z3 z5 Kn Ke0 Kr h) Ke0 Kr h
theorem n9_ok (x2 : Addr) (x3 : Addr) (x5 : Int) (Kn : T4) (Ke0 : T3) (Kr : T0) (g : Env) (hg : E4 g x2 x3 x5) (h : H) (hS : n9 x2 x3 x5 Kn Ke0 Kr h) : wpC none Try.prog 52 n8_c2 (Q3 Kn Ke0 Kr) g h := by
  refine wpC_seq' (x := n9_c1) (y := n9_c2) (by kernel_rfl) (n11_ok x2 x3 x5 (fun z2 z3 z5 h => n10 z2 z3 z5 Kn Ke0 Kr h) Ke0 Kr g hg h hS) ?_
  intro e g' h' hq
  cases e with
  | normal =>
    have hq : D4 (fun z2 z3 z5 h => n10 z2 z3 z5 Kn Ke0 Kr h) g' h' := hq
    obtain ⟨y2, y3, y5, hg', hq⟩ := D4_ok hq
    exact n10_ok y2 y3 y5 Kn Ke0 Kr g' hg' h' hq
  | _ => exact hq
abbrev n8 (x2 : Addr) (x3 : Addr) (x5 : Int) (Kn : T4) (Ke0 : T3) (Kr : T0) (h : H) : Prop :=
  ∃ s130b s130n s130c, cell h (x2.add 2) = some (.slice s130b s130n s130c) ∧ (Spl (x5 < (s130n : Int)) (n9 x2 x3 x5 Kn Ke0 Kr h) (Ke0 h))
theorem n8_ok (x2 : Addr) (x3 : Addr) (x5 : Int) (Kn : T4) (Ke0 : T3) (Kr : T0) (g : Env) (hg : E4 g x2 x3 x5) (h : H) (hS : n8 x2 x3 x5 Kn Ke0 Kr h) : wpC none Try.prog 52 n7_c1 (Q3 Kn Ke0 Kr) g h := by
  obtain ⟨hg2, hg3, hg5, hds⟩ := hg
  refine wpC_seq' (x := n8_c1) (y := n8_c2) (Q' := (Q3 (fun z2 z3 z5 h => n9 z2 z3 z5 Kn Ke0 Kr h) Ke0 Kr)) (by kernel_rfl) ?_ ?_
  · refine wpC_of_wpx (by kernel_rfl) (by kernel_rfl) (g' := (((⟨g.v, []⟩ : Env).upd (some 2) (.pointer (some x2))).upd (some 3) (.pointer (some x3))).upd (some 5) (.int .i64 x5)) (by rw [env_ds hds, upd_self hg2, upd_self hg3, upd_self hg5]) ?_
    have e : (n8 x2 x3 x5 Kn Ke0 Kr h) = wpx none Try.prog 52 n8_c1 (Q3 (fun z2 z3 z5 h => n9 z2 z3 z5 Kn Ke0 Kr h) Ke0 Kr) ((((⟨g.v, []⟩ : Env).upd (some 2) (.pointer (some x2))).upd (some 3) (.pointer (some x3))).upd (some 5) (.int .i64 x5)) h := by kernel_rfl
    exact e ▸ hS
  · intro e g' h' hq
    cases e with
    | normal =>
      have hq : D4 (fun z2 z3 z5 h => n9 z2 z3 z5 Kn Ke0 Kr h) g' h' := hq
      obtain ⟨y2, y3, y5, hg', hq⟩ := D4_ok hq
      exact n9_ok y2 y3 y5 Kn Ke0 Kr g' hg' h' hq
    | _ => exact hq
def n7_L (Kn : T3) (Ke0 : T3) (Kr : T0) : Nat → Addr → Addr → Int → H → Prop
  | 0, _, _, _, _ => False
  | N + 1, x2, x3, x5, h => n8 x2 x3 x5 (fun z2 z3 z5 h => n7_L Kn Ke0 Kr N z2 z3 z5 h) Ke0 Kr h
abbrev n7 (x2 : Addr) (x3 : Addr) (x5 : Int) (Kn : T3) (Ke0 : T3) (Kr : T0) (h : H) : Prop := ∃ N, n7_L Kn Ke0 Kr N x2 x3 x5 h
theorem n7_ok (x2 : Addr) (x3 : Addr) (x5 : Int) (Kn : T3) (Ke0 : T3) (Kr : T0) (g : Env) (hg : E4 g x2 x3 x5) (h : H) (hS : n7 x2 x3 x5 Kn Ke0 Kr h) : wpC none Try.prog 52 n6_c1 (Q2 Kn Ke0 Kr) g h := by
  obtain ⟨N0, hS⟩ := hS
  refine wpC_loop' (x := n7_c1) (by kernel_rfl) (fun k g h => ∃ (x2 : Addr) (x3 : Addr) (x5 : Int), E4 g x2 x3 x5 ∧ n7_L Kn Ke0 Kr k x2 x3 x5 h) (fun g h hr => ?_) (fun N g h hr => ?_) N0 ⟨x2, x3, x5, hg, hS⟩
  · obtain ⟨x2, x3, x5, hg, hS⟩ := hr
    exact hS.elim
  · obtain ⟨x2, x3, x5, hg, hS⟩ := hr
    refine (n8_ok x2 x3 x5 (fun z2 z3 z5 h => n7_L Kn Ke0 Kr N z2 z3 z5 h) Ke0 Kr g hg h hS).mono ?_
    intro e g' h' hq
    cases e with
    | normal => exact D4_ok (K := (fun z2 z3 z5 h => n7_L Kn Ke0 Kr N z2 z3 z5 h)) hq
    | _ => exact hq
abbrev n6 (x2 : Addr) (x3 : Addr) (x5 : Int) (Kn : T3) (Kr : T0) (h : H) : Prop := n7 x2 x3 x5 Kn Kn Kr h
theorem n6_ok (x2 : Addr) (x3 : Addr) (x5 : Int) (Kn : T3) (Kr : T0) (g : Env) (hg : E4 g x2 x3 x5) (h : H) (hS : n6 x2 x3 x5 Kn Kr h) : wpC none Try.prog 52 n5_c2 (Q1 Kn Kr) g h := by
  refine wpC_block' (id := 0) (x := n6_c1) (by kernel_rfl) (n7_ok x2 x3 x5 Kn Kn Kr g hg h hS) ?_
  intro e g' h' hq
  cases e <;> exact hq
def Q9 (Kn : T4) (Kr : T0) : XPost
  | .normal, g, h => D4 Kn g h
  | .ret, g, h => D0 Kr g h
  | _, _, _ => False
abbrev n5 (x2 : Addr) (x3 : Addr) (Kn : T3) (Kr : T0) (h : H) : Prop :=
  n6 x2 x3 (0 : Int) Kn Kr h
theorem n5_ok (x2 : Addr) (x3 : Addr) (Kn : T3) (Kr : T0) (g : Env) (hg : E2 g x2 x3) (h : H) (hS : n5 x2 x3 Kn Kr h) : wpC none Try.prog 52 n3_c1 (Q1 Kn Kr) g h := by
  obtain ⟨hg2, hg3, hds⟩ := hg
  refine wpC_seq' (x := n5_c1) (y := n5_c2) (Q' := (Q9 (fun z2 z3 z5 h => n6 z2 z3 z5 Kn Kr h) Kr)) (by kernel_rfl) ?_ ?_
  · refine wpC_of_wpx (by kernel_rfl) (by kernel_rfl) (g' := ((⟨g.v, []⟩ : Env).upd (some 2) (.pointer (some x2))).upd (some 3) (.pointer (some x3))) (by rw [env_ds hds, upd_self hg2, upd_self hg3]) ?_
    have e : (n5 x2 x3 Kn Kr h) = wpx none Try.prog 52 n5_c1 (Q9 (fun z2 z3 z5 h => n6 z2 z3 z5 Kn Kr h) Kr) (((⟨g.v, []⟩ : Env).upd (some 2) (.pointer (some x2))).upd (some 3) (.pointer (some x3))) h := by kernel_rfl
    exact e ▸ hS
  · intro e g' h' hq
    cases e with
    | normal =>
      have hq : D4 (fun z2 z3 z5 h => n6 z2 z3 z5 Kn Kr h) g' h' := hq
      obtain ⟨y2, y3, y5, hg', hq⟩ := D4_ok hq
      exact n6_ok y2 y3 y5 Kn Kr g' hg' h' hq
    | _ => exact hq
abbrev n3 (x2 : Addr) (x3 : Addr) (Kn : T0) (Kr : T0) (h : H) : Prop := n5 x2 x3 (fun  h => n4 Kn Kr h) Kr h
theorem n3_ok (x2 : Addr) (x3 : Addr) (Kn : T0) (Kr : T0) (g : Env) (hg : E2 g x2 x3) (h : H) (hS : n3 x2 x3 Kn Kr h) : wpC none Try.prog 52 n2_c2 (Q0 Kn Kr) g h := by
  refine wpC_seq' (x := n3_c1) (y := n3_c2) (by kernel_rfl) (n5_ok x2 x3 (fun  h => n4 Kn Kr h) Kr g hg h hS) ?_
  intro e g' h' hq
  cases e with
  | normal =>
    have hq : D3 (fun  h => n4 Kn Kr h) g' h' := hq
    obtain ⟨hg', hq⟩ := D3_ok hq
    exact n4_ok  Kn Kr g' hg' h' hq
  | _ => exact hq
def Q10 (Kn : T2) (Kr : T0) : XPost
  | .normal, g, h => D2 Kn g h
  | .ret, g, h => D0 Kr g h
  | _, _, _ => False
abbrev n2 (x2 : Addr) (x3 : Addr) (Kn : T0) (Kr : T0) (h : H) : Prop :=
  ∃ s131, cell h (x2.add 1) = some (S s131) ∧ (∃ s132, cell h (x3.add 1) = some (S s132) ∧ (Spl (s131 = s132) (∃ s133b s133n s133c, cell h (x2.add 2) = some (.slice s133b s133n s133c) ∧ (∃ s134b s134n s134c, cell h (x3.add 2) = some (.slice s134b s134n s134c) ∧ (Spl ((s133n : Int) = (s134n : Int)) (n3 x2 x3 Kn Kr h) (Kr false h)))) (Kr false h)))
theorem n2_ok (x2 : Addr) (x3 : Addr) (Kn : T0) (Kr : T0) (g : Env) (hg : E2 g x2 x3) (h : H) (hS : n2 x2 x3 Kn Kr h) : wpC none Try.prog 52 n1_c2 (Q0 Kn Kr) g h := by
  obtain ⟨hg2, hg3, hds⟩ := hg
  refine wpC_seq' (x := n2_c1) (y := n2_c2) (Q' := (Q10 (fun z2 z3 h => n3 z2 z3 Kn Kr h) Kr)) (by kernel_rfl) ?_ ?_
  · refine wpC_of_wpx (by kernel_rfl) (by kernel_rfl) (g' := ((⟨g.v, []⟩ : Env).upd (some 2) (.pointer (some x2))).upd (some 3) (.pointer (some x3))) (by rw [env_ds hds, upd_self hg2, upd_self hg3]) ?_
    have e : (n2 x2 x3 Kn Kr h) = wpx none Try.prog 52 n2_c1 (Q10 (fun z2 z3 h => n3 z2 z3 Kn Kr h) Kr) (((⟨g.v, []⟩ : Env).upd (some 2) (.pointer (some x2))).upd (some 3) (.pointer (some x3))) h := by kernel_rfl
    exact e ▸ hS
  · intro e g' h' hq
    cases e with
    | normal =>
      have hq : D2 (fun z2 z3 h => n3 z2 z3 Kn Kr h) g' h' := hq
      obtain ⟨y2, y3, hg', hq⟩ := D2_ok hq
      exact n3_ok y2 y3 Kn Kr g' hg' h' hq
    | _ => exact hq
abbrev n1 (x0_0 : Int) (x0_1 : List UInt8) (x0_2b : Option Addr) (x0_2n : Nat) (x0_2c : Nat) (x1_0 : Int) (x1_1 : List UInt8) (x1_2b : Option Addr) (x1_2n : Nat) (x1_2c : Nat) (Kn : T0) (Kr : T0) (h : H) : Prop :=
  newx h ⟨[(.int .i64 x0_0), (S x0_1), (.slice x0_2b x0_2n x0_2c)]⟩ 25 fun a135 h136 => newx h136 ⟨[(.int .i64 x1_0), (S x1_1), (.slice x1_2b x1_2n x1_2c)]⟩ 25 fun a137 h138 => n2 a135 a137 Kn Kr h138
theorem n1_ok (x0_0 : Int) (x0_1 : List UInt8) (x0_2b : Option Addr) (x0_2n : Nat) (x0_2c : Nat) (x1_0 : Int) (x1_1 : List UInt8) (x1_2b : Option Addr) (x1_2n : Nat) (x1_2c : Nat) (Kn : T0) (Kr : T0) (g : Env) (hg : E1 g x0_0 x0_1 x0_2b x0_2n x0_2c x1_0 x1_1 x1_2b x1_2n x1_2c) (h : H) (hS : n1 x0_0 x0_1 x0_2b x0_2n x0_2c x1_0 x1_1 x1_2b x1_2n x1_2c Kn Kr h) : wpC none Try.prog 52 code (Q0 Kn Kr) g h := by
  obtain ⟨hg0, hg1, hds⟩ := hg
  refine wpC_seq' (x := n1_c1) (y := n1_c2) (Q' := (Q10 (fun z2 z3 h => n2 z2 z3 Kn Kr h) Kr)) (by kernel_rfl) ?_ ?_
  · refine wpC_of_wpx (by kernel_rfl) (by kernel_rfl) (g' := ((⟨g.v, []⟩ : Env).upd (some 0) (.agg ⟨[(.int .i64 x0_0), (S x0_1), (.slice x0_2b x0_2n x0_2c)]⟩)).upd (some 1) (.agg ⟨[(.int .i64 x1_0), (S x1_1), (.slice x1_2b x1_2n x1_2c)]⟩)) (by rw [env_ds hds, upd_self hg0, upd_self hg1]) ?_
    have e : (n1 x0_0 x0_1 x0_2b x0_2n x0_2c x1_0 x1_1 x1_2b x1_2n x1_2c Kn Kr h) = wpx none Try.prog 52 n1_c1 (Q10 (fun z2 z3 h => n2 z2 z3 Kn Kr h) Kr) (((⟨g.v, []⟩ : Env).upd (some 0) (.agg ⟨[(.int .i64 x0_0), (S x0_1), (.slice x0_2b x0_2n x0_2c)]⟩)).upd (some 1) (.agg ⟨[(.int .i64 x1_0), (S x1_1), (.slice x1_2b x1_2n x1_2c)]⟩)) h := by kernel_rfl
    exact e ▸ hS
  · intro e g' h' hq
    cases e with
    | normal =>
      have hq : D2 (fun z2 z3 h => n2 z2 z3 Kn Kr h) g' h' := hq
      obtain ⟨y2, y3, hg', hq⟩ := D2_ok hq
      exact n2_ok y2 y3 Kn Kr g' hg' h' hq
    | _ => exact hq
/-- WHAT tympan/tympanref12.alike ASKS -/
abbrev asks (x0_0 : Int) (x0_1 : List UInt8) (x0_2b : Option Addr) (x0_2n : Nat) (x0_2c : Nat) (x1_0 : Int) (x1_1 : List UInt8) (x1_2b : Option Addr) (x1_2n : Nat) (x1_2c : Nat) (K : Value → H → Prop) (h : H) : Prop := n1 x0_0 x0_1 x0_2b x0_2n x0_2c x1_0 x1_1 x1_2b x1_2n x1_2c (fun y4 h => K (.bool y4) h) (fun y4 h => K (.bool y4) h) h
theorem ok (x0_0 : Int) (x0_1 : List UInt8) (x0_2b : Option Addr) (x0_2n : Nat) (x0_2c : Nat) (x1_0 : Int) (x1_1 : List UInt8) (x1_2b : Option Addr) (x1_2n : Nat) (x1_2c : Nat) (K : Value → H → Prop) (h : H) (hS : asks x0_0 x0_1 x0_2b x0_2n x0_2c x1_0 x1_1 x1_2b x1_2n x1_2c K h) : HCalls Try.prog 27 ⟨[(.agg ⟨[(.int .i64 x0_0), (S x0_1), (.slice x0_2b x0_2n x0_2c)]⟩), (.agg ⟨[(.int .i64 x1_0), (S x1_1), (.slice x1_2b x1_2n x1_2c)]⟩)]⟩ h K := by
  refine calls_of_wpC (c := code) Try.func27 (by kernel_rfl) (Nat.le_of_ble_eq_true (by kernel_rfl)) ?_
  refine (n1_ok x0_0 x0_1 x0_2b x0_2n x0_2c x1_0 x1_1 x1_2b x1_2n x1_2c (fun y4 h => K (.bool y4) h) (fun y4 h => K (.bool y4) h) (env0 [(.agg ⟨[(.int .i64 x0_0), (S x0_1), (.slice x0_2b x0_2n x0_2c)]⟩), (.agg ⟨[(.int .i64 x1_0), (S x1_1), (.slice x1_2b x1_2n x1_2c)]⟩)]) ⟨rfl, rfl, rfl⟩ h hS).mono ?_
  intro e g' h' hq
  cases e with
  | normal =>
    have hq : D0 (fun y4 h => K (.bool y4) h) g' h' := hq
    obtain ⟨y4, ⟨hg4, hd⟩, hq⟩ := D0_ok hq
    show leaveX g'.ds h' _
    rw [hd]
    show K (g'.v 4) h'
    rw [hg4]
    exact hq
  | ret =>
    have hq : D0 (fun y4 h => K (.bool y4) h) g' h' := hq
    obtain ⟨y4, ⟨hg4, hd⟩, hq⟩ := D0_ok hq
    show leaveX g'.ds h' _
    rw [hd]
    show K (g'.v 4) h'
    rw [hg4]
    exact hq
  | _ => exact hq
end Sx.r12_alike

/-! ### tympan/tympanlaw12.b -/
namespace Sx.l12_b
noncomputable def code : Code := bodyOf Try.f28
abbrev T0 := Addr → H → Prop
def E0 (g : Env) (x2 : Addr) : Prop := g.v 2 = (.pointer (some x2)) ∧ g.ds = []
def D0 (K : T0) (g : Env) (h : H) : Prop := nilDs g.ds (vAddr (g.v 2) fun a1 => K a1 h)
theorem D0_ok {K : T0} {g : Env} {h : H} (hq : D0 K g h) : ∃ (x2 : Addr), E0 g x2 ∧ K x2 h := by
  obtain ⟨hd, hq⟩ := nilDs_ok hq
  obtain ⟨y3, e2, q4⟩ := vAddr_ok hq
  exact ⟨y3, ⟨e2, hd⟩, q4⟩
def Q0 (Kn : T0) (Kr : T0) : XPost
  | .normal, g, h => D0 Kn g h
  | .ret, g, h => D0 Kr g h
  | _, _, _ => False
abbrev T1 := Int → H → Prop
def E1 (g : Env) (x0 : Int) : Prop := g.v 0 = (.int .i64 x0) ∧ g.ds = []
def D1 (K : T1) (g : Env) (h : H) : Prop := nilDs g.ds (vInt .i64 (g.v 0) fun i5 => K i5 h)
theorem D1_ok {K : T1} {g : Env} {h : H} (hq : D1 K g h) : ∃ (x0 : Int), E1 g x0 ∧ K x0 h := by
  obtain ⟨hd, hq⟩ := nilDs_ok hq
  obtain ⟨y7, e6, q8⟩ := vInt_ok hq
  exact ⟨y7, ⟨e6, hd⟩, q8⟩
abbrev n1 (x0 : Int) (Kn : T0) (Kr : T0) (h : H) : Prop :=
  newx h ⟨[(.int .i64 (0 : Int)), (S ([] : List UInt8)), (.slice none 0 0)]⟩ 25 fun a9 h10 => stL a9 [(.int .i64 x0), (S ([98] : List UInt8)), (.slice none 0 0)] 0 h10 fun h11 => Kr a9 h11
theorem n1_ok (x0 : Int) (Kn : T0) (Kr : T0) (g : Env) (hg : E1 g x0) (h : H) (hS : n1 x0 Kn Kr h) : wpC none Try.prog 5 code (Q0 Kn Kr) g h := by
  obtain ⟨hg0, hds⟩ := hg
  refine wpC_of_wpx (by kernel_rfl) (by kernel_rfl) (g' := (⟨g.v, []⟩ : Env).upd (some 0) (.int .i64 x0)) (by rw [env_ds hds, upd_self hg0]) ?_
  have e : (n1 x0 Kn Kr h) = wpx none Try.prog 5 code (Q0 Kn Kr) ((⟨g.v, []⟩ : Env).upd (some 0) (.int .i64 x0)) h := by kernel_rfl
  exact e ▸ hS
/-- WHAT tympan/tympanlaw12.b ASKS -/
abbrev asks (x0 : Int) (K : Value → H → Prop) (h : H) : Prop := n1 x0 (fun y2 h => ∃ i12, cell h ((y2).add 0) = some (.int .i64 i12) ∧ (∃ s13, cell h ((y2).add 1) = some (S s13) ∧ (∃ s14b s14n s14c, cell h ((y2).add 2) = some (.slice s14b s14n s14c) ∧ (K (.agg ⟨[(.int .i64 i12), (S s13), (.slice s14b s14n s14c)]⟩) h)))) (fun y2 h => ∃ i12, cell h ((y2).add 0) = some (.int .i64 i12) ∧ (∃ s13, cell h ((y2).add 1) = some (S s13) ∧ (∃ s14b s14n s14c, cell h ((y2).add 2) = some (.slice s14b s14n s14c) ∧ (K (.agg ⟨[(.int .i64 i12), (S s13), (.slice s14b s14n s14c)]⟩) h)))) h
theorem ok (x0 : Int) (K : Value → H → Prop) (h : H) (hS : asks x0 K h) : HCalls Try.prog 28 ⟨[(.int .i64 x0)]⟩ h K := by
  refine calls_of_wpC (c := code) Try.func28 (by kernel_rfl) (Nat.le_of_ble_eq_true (by kernel_rfl)) ?_
  refine (n1_ok x0 (fun y2 h => ∃ i12, cell h ((y2).add 0) = some (.int .i64 i12) ∧ (∃ s13, cell h ((y2).add 1) = some (S s13) ∧ (∃ s14b s14n s14c, cell h ((y2).add 2) = some (.slice s14b s14n s14c) ∧ (K (.agg ⟨[(.int .i64 i12), (S s13), (.slice s14b s14n s14c)]⟩) h)))) (fun y2 h => ∃ i12, cell h ((y2).add 0) = some (.int .i64 i12) ∧ (∃ s13, cell h ((y2).add 1) = some (S s13) ∧ (∃ s14b s14n s14c, cell h ((y2).add 2) = some (.slice s14b s14n s14c) ∧ (K (.agg ⟨[(.int .i64 i12), (S s13), (.slice s14b s14n s14c)]⟩) h)))) (env0 [(.int .i64 x0)]) ⟨rfl, rfl⟩ h hS).mono ?_
  intro e g' h' hq
  cases e with
  | normal =>
    have hq : D0 (fun y2 h => ∃ i12, cell h ((y2).add 0) = some (.int .i64 i12) ∧ (∃ s13, cell h ((y2).add 1) = some (S s13) ∧ (∃ s14b s14n s14c, cell h ((y2).add 2) = some (.slice s14b s14n s14c) ∧ (K (.agg ⟨[(.int .i64 i12), (S s13), (.slice s14b s14n s14c)]⟩) h)))) g' h' := hq
    obtain ⟨y2, ⟨hg2, hd⟩, hq⟩ := D0_ok hq
    show leaveX g'.ds h' _
    rw [hd]
    show vAddr (g'.v 2) fun a15 => ldx Try.prog 25 a15 h' fun v16 => K v16 h'
    rw [hg2]
    exact hq
  | ret =>
    have hq : D0 (fun y2 h => ∃ i12, cell h ((y2).add 0) = some (.int .i64 i12) ∧ (∃ s13, cell h ((y2).add 1) = some (S s13) ∧ (∃ s14b s14n s14c, cell h ((y2).add 2) = some (.slice s14b s14n s14c) ∧ (K (.agg ⟨[(.int .i64 i12), (S s13), (.slice s14b s14n s14c)]⟩) h)))) g' h' := hq
    obtain ⟨y2, ⟨hg2, hd⟩, hq⟩ := D0_ok hq
    show leaveX g'.ds h' _
    rw [hd]
    show vAddr (g'.v 2) fun a15 => ldx Try.prog 25 a15 h' fun v16 => K v16 h'
    rw [hg2]
    exact hq
  | _ => exact hq
end Sx.l12_b

/-! ### slices.Backward[[]tympan/api.Mark,tympan/api.Mark] -/
namespace Sx.slices_Backward_apiMark
noncomputable def code : Code := bodyOf Try.f29
abbrev T0 := Value → H → Prop
def E0 (g : Env) (x2 : Value) : Prop := g.v 2 = x2 ∧ g.ds = []
def D0 (K : T0) (g : Env) (h : H) : Prop := nilDs g.ds (K (g.v 2) h)
theorem D0_ok {K : T0} {g : Env} {h : H} (hq : D0 K g h) : ∃ (x2 : Value), E0 g x2 ∧ K x2 h := by
  obtain ⟨hd, hq⟩ := nilDs_ok hq
  skip
  exact ⟨(g.v 2), ⟨rfl, hd⟩, hq⟩
def Q0 (Kn : T0) (Kr : T0) : XPost
  | .normal, g, h => D0 Kn g h
  | .ret, g, h => D0 Kr g h
  | _, _, _ => False
abbrev T1 := (Option Addr) → Nat → Nat → H → Prop
def E1 (g : Env) (x0b : Option Addr) (x0n : Nat) (x0c : Nat) : Prop := g.v 0 = (.slice x0b x0n x0c) ∧ g.ds = []
def D1 (K : T1) (g : Env) (h : H) : Prop := nilDs g.ds (vSlice (g.v 0) fun s1b s1n s1c => K s1b s1n s1c h)
theorem D1_ok {K : T1} {g : Env} {h : H} (hq : D1 K g h) : ∃ (x0b : Option Addr) (x0n : Nat) (x0c : Nat), E1 g x0b x0n x0c ∧ K x0b x0n x0c h := by
  obtain ⟨hd, hq⟩ := nilDs_ok hq
  obtain ⟨y3b, y3n, y3c, e2, q4⟩ := vSlice_ok hq
  exact ⟨y3b, y3n, y3c, ⟨e2, hd⟩, q4⟩
abbrev n1 (x0b : Option Addr) (x0n : Nat) (x0c : Nat) (Kn : T0) (Kr : T0) (h : H) : Prop :=
  newx h #[(.slice x0b x0n x0c)] 22 fun a5 h6 => Kr (.func (.func 37) ⟨[]⟩ ⟨[(.pointer (some a5))]⟩) h6
theorem n1_ok (x0b : Option Addr) (x0n : Nat) (x0c : Nat) (Kn : T0) (Kr : T0) (g : Env) (hg : E1 g x0b x0n x0c) (h : H) (hS : n1 x0b x0n x0c Kn Kr h) : wpC none Try.prog 4 code (Q0 Kn Kr) g h := by
  obtain ⟨hg0, hds⟩ := hg
  refine wpC_of_wpx (by kernel_rfl) (by kernel_rfl) (g' := (⟨g.v, []⟩ : Env).upd (some 0) (.slice x0b x0n x0c)) (by rw [env_ds hds, upd_self hg0]) ?_
  have e : (n1 x0b x0n x0c Kn Kr h) = wpx none Try.prog 4 code (Q0 Kn Kr) ((⟨g.v, []⟩ : Env).upd (some 0) (.slice x0b x0n x0c)) h := by kernel_rfl
  exact e ▸ hS
/-- WHAT slices.Backward[[]tympan/api.Mark,tympan/api.Mark] ASKS -/
abbrev asks (x0b : Option Addr) (x0n : Nat) (x0c : Nat) (K : Value → H → Prop) (h : H) : Prop := n1 x0b x0n x0c (fun y2 h => K y2 h) (fun y2 h => K y2 h) h
theorem ok (x0b : Option Addr) (x0n : Nat) (x0c : Nat) (K : Value → H → Prop) (h : H) (hS : asks x0b x0n x0c K h) : HCalls Try.prog 29 ⟨[(.slice x0b x0n x0c)]⟩ h K := by
  refine calls_of_wpC (c := code) Try.func29 (by kernel_rfl) (Nat.le_of_ble_eq_true (by kernel_rfl)) ?_
  refine (n1_ok x0b x0n x0c (fun y2 h => K y2 h) (fun y2 h => K y2 h) (env0 [(.slice x0b x0n x0c)]) ⟨rfl, rfl⟩ h hS).mono ?_
  intro e g' h' hq
  cases e with
  | normal =>
    have hq : D0 (fun y2 h => K y2 h) g' h' := hq
    obtain ⟨y2, ⟨hg2, hd⟩, hq⟩ := D0_ok hq
    show leaveX g'.ds h' _
    rw [hd]
    show K (g'.v 2) h'
    rw [hg2]
    exact hq
  | ret =>
    have hq : D0 (fun y2 h => K y2 h) g' h' := hq
    obtain ⟨y2, ⟨hg2, hd⟩, hq⟩ := D0_ok hq
    show leaveX g'.ds h' _
    rw [hd]
    show K (g'.v 2) h'
    rw [hg2]
    exact hq
  | _ => exact hq
end Sx.slices_Backward_apiMark

/-! ### slices.IndexFunc[[]tympan/api.Mark,tympan/api.Mark] -/
namespace Sx.slices_IndexFunc_apiMark
noncomputable def code : Code := bodyOf Try.f30
abbrev T0 := Int → H → Prop
def E0 (g : Env) (x4 : Int) : Prop := g.v 4 = (.int .i64 x4) ∧ g.ds = []
def D0 (K : T0) (g : Env) (h : H) : Prop := nilDs g.ds (vInt .i64 (g.v 4) fun i1 => K i1 h)
theorem D0_ok {K : T0} {g : Env} {h : H} (hq : D0 K g h) : ∃ (x4 : Int), E0 g x4 ∧ K x4 h := by
  obtain ⟨hd, hq⟩ := nilDs_ok hq
  obtain ⟨y3, e2, q4⟩ := vInt_ok hq
  exact ⟨y3, ⟨e2, hd⟩, q4⟩
def Q0 (Kn : T0) (Kr : T0) : XPost
  | .normal, g, h => D0 Kn g h
  | .ret, g, h => D0 Kr g h
  | _, _, _ => False
abbrev T1 := (Option Addr) → Nat → Nat → Value → H → Prop
def E1 (g : Env) (x0b : Option Addr) (x0n : Nat) (x0c : Nat) (x1 : Value) : Prop := g.v 0 = (.slice x0b x0n x0c) ∧ g.v 1 = x1 ∧ g.ds = []
def D1 (K : T1) (g : Env) (h : H) : Prop := nilDs g.ds (vSlice (g.v 0) fun s5b s5n s5c => K s5b s5n s5c (g.v 1) h)
theorem D1_ok {K : T1} {g : Env} {h : H} (hq : D1 K g h) : ∃ (x0b : Option Addr) (x0n : Nat) (x0c : Nat) (x1 : Value), E1 g x0b x0n x0c x1 ∧ K x0b x0n x0c x1 h := by
  obtain ⟨hd, hq⟩ := nilDs_ok hq
  obtain ⟨y7b, y7n, y7c, e6, q8⟩ := vSlice_ok hq
  exact ⟨y7b, y7n, y7c, (g.v 1), ⟨e6, rfl, hd⟩, q8⟩
noncomputable def n1_c1 : Code := cFst code
noncomputable def n1_c2 : Code := cSnd code
noncomputable def n2_c1 : Code := cFst n1_c2
noncomputable def n2_c2 : Code := cSnd n1_c2
abbrev T2 := H → Prop
def E2 (g : Env)  : Prop := g.ds = []
def D2 (K : T2) (g : Env) (h : H) : Prop := nilDs g.ds (K h)
theorem D2_ok {K : T2} {g : Env} {h : H} (hq : D2 K g h) : E2 g  ∧ K  h := by
  obtain ⟨hd, hq⟩ := nilDs_ok hq
  skip
  exact ⟨hd, hq⟩
abbrev n3  (Kn : T0) (Kr : T0) (h : H) : Prop :=
  Kr (-1 : Int) h
theorem n3_ok  (Kn : T0) (Kr : T0) (g : Env) (hg : E2 g ) (h : H) (hS : n3  Kn Kr h) : wpC none Try.prog 19 n2_c2 (Q0 Kn Kr) g h := by
  have hds : g.ds = [] := hg
  refine wpC_of_wpx (by kernel_rfl) (by kernel_rfl) (g' := ⟨g.v, []⟩) (by rw [env_ds hds]) ?_
  have e : (n3  Kn Kr h) = wpx none Try.prog 19 n2_c2 (Q0 Kn Kr) (⟨g.v, []⟩) h := by kernel_rfl
  exact e ▸ hS
def Q1 (Kn : T2) (Kr : T0) : XPost
  | .normal, g, h => D2 Kn g h
  | .ret, g, h => D0 Kr g h
  | _, _, _ => False
noncomputable def n4_c1 : Code := cFst n2_c1
noncomputable def n4_c2 : Code := cSnd n2_c1
abbrev T3 := (Option Addr) → Nat → Nat → Value → Int → Int → H → Prop
def E3 (g : Env) (x0b : Option Addr) (x0n : Nat) (x0c : Nat) (x1 : Value) (x7 : Int) (x8 : Int) : Prop := g.v 0 = (.slice x0b x0n x0c) ∧ g.v 1 = x1 ∧ g.v 7 = (.int .i64 x7) ∧ g.v 8 = (.int .i64 x8) ∧ g.ds = []
def D3 (K : T3) (g : Env) (h : H) : Prop := nilDs g.ds (vSlice (g.v 0) fun s9b s9n s9c => vInt .i64 (g.v 7) fun i10 => vInt .i64 (g.v 8) fun i11 => K s9b s9n s9c (g.v 1) i10 i11 h)
theorem D3_ok {K : T3} {g : Env} {h : H} (hq : D3 K g h) : ∃ (x0b : Option Addr) (x0n : Nat) (x0c : Nat) (x1 : Value) (x7 : Int) (x8 : Int), E3 g x0b x0n x0c x1 x7 x8 ∧ K x0b x0n x0c x1 x7 x8 h := by
  obtain ⟨hd, hq⟩ := nilDs_ok hq
  obtain ⟨y13b, y13n, y13c, e12, q14⟩ := vSlice_ok hq
  obtain ⟨y16, e15, q17⟩ := vInt_ok q14
  obtain ⟨y19, e18, q20⟩ := vInt_ok q17
  exact ⟨y13b, y13n, y13c, (g.v 1), y16, y19, ⟨e12, rfl, e15, e18, hd⟩, q20⟩
noncomputable def n5_c1 : Code := cFst n4_c2
def Q2 (Kn : T2) (Ke0 : T2) (Kr : T0) : XPost
  | .normal, g, h => D2 Kn g h
  | .ret, g, h => D0 Kr g h
  | .exit id, g, h => cond (Nat.beq id 0) (D2 Ke0 g h) (False)
  | _, _, _ => False
noncomputable def n6_c1 : Code := cFst n5_c1
def Q3 (Kn : T3) (Ke0 : T2) (Kr : T0) : XPost
  | .normal, g, h => D3 Kn g h
  | .ret, g, h => D0 Kr g h
  | .exit id, g, h => cond (Nat.beq id 0) (D2 Ke0 g h) (False)
  | _, _, _ => False
def n6_L (Kn : T2) (Ke0 : T2) (Kr : T0) : Nat → (Option Addr) → Nat → Nat → Value → Int → Int → H → Prop
  | 0, _, _, _, _, _, _, _ => False
  | N + 1, x0b, x0n, x0c, x1, x7, x8, h => Spl (x8 < x7) ((0 ≤ x8 ∧ x8 < (x0n : Int)) ∧ (vSome x0b fun a21 => ∃ i22, cell h (((a21.add (Int.toNat x8 * 3))).add 0) = some (.int .i64 i22) ∧ (∃ s23, cell h (((a21.add (Int.toNat x8 * 3))).add 1) = some (S s23) ∧ (∃ s24b s24n s24c, cell h (((a21.add (Int.toNat x8 * 3))).add 2) = some (.slice s24b s24n s24c) ∧ (CallV Try.prog 4 x1 ⟨[(.agg ⟨[(.int .i64 i22), (S s23), (.slice s24b s24n s24c)]⟩)]⟩ h fun v25 h26 => vBool v25 fun b27 => cond b27 (Kr x8 h26) (Rng .i64 (x8 + (1 : Int)) ∧ (n6_L Kn Ke0 Kr N x0b x0n x0c x1 x7 (x8 + (1 : Int)) h26))))))) (Ke0 h)
abbrev n6 (x0b : Option Addr) (x0n : Nat) (x0c : Nat) (x1 : Value) (x7 : Int) (x8 : Int) (Kn : T2) (Ke0 : T2) (Kr : T0) (h : H) : Prop := ∃ N, n6_L Kn Ke0 Kr N x0b x0n x0c x1 x7 x8 h
theorem n6_ok (x0b : Option Addr) (x0n : Nat) (x0c : Nat) (x1 : Value) (x7 : Int) (x8 : Int) (Kn : T2) (Ke0 : T2) (Kr : T0) (g : Env) (hg : E3 g x0b x0n x0c x1 x7 x8) (h : H) (hS : n6 x0b x0n x0c x1 x7 x8 Kn Ke0 Kr h) : wpC none Try.prog 19 n5_c1 (Q2 Kn Ke0 Kr) g h := by
  obtain ⟨N0, hS⟩ := hS
  refine wpC_loop' (x := n6_c1) (by kernel_rfl) (fun k g h => ∃ (x0b : Option Addr) (x0n : Nat) (x0c : Nat) (x1 : Value) (x7 : Int) (x8 : Int), E3 g x0b x0n x0c x1 x7 x8 ∧ n6_L Kn Ke0 Kr k x0b x0n x0c x1 x7 x8 h) (fun g h hr => ?_) (fun N g h hr => ?_) N0 ⟨x0b, x0n, x0c, x1, x7, x8, hg, hS⟩
  · obtain ⟨x0b, x0n, x0c, x1, x7, x8, hg, hS⟩ := hr
    exact hS.elim
  · obtain ⟨x0b, x0n, x0c, x1, x7, x8, hg, hS⟩ := hr
    have hw : wpC none Try.prog 19 n6_c1 (Q3 (fun z0b z0n z0c z1 z7 z8 h => n6_L Kn Ke0 Kr N z0b z0n z0c z1 z7 z8 h) Ke0 Kr) g h := by
      obtain ⟨hg0, hg1, hg7, hg8, hds⟩ := hg
      refine wpC_of_wpx (by kernel_rfl) (by kernel_rfl) (g' := ((((⟨g.v, []⟩ : Env).upd (some 0) (.slice x0b x0n x0c)).upd (some 1) x1).upd (some 7) (.int .i64 x7)).upd (some 8) (.int .i64 x8)) (by rw [env_ds hds, upd_self hg0, upd_self hg1, upd_self hg7, upd_self hg8]) ?_
      have e : (n6_L Kn Ke0 Kr (N + 1) x0b x0n x0c x1 x7 x8 h) = wpx none Try.prog 19 n6_c1 (Q3 (fun z0b z0n z0c z1 z7 z8 h => n6_L Kn Ke0 Kr N z0b z0n z0c z1 z7 z8 h) Ke0 Kr) (((((⟨g.v, []⟩ : Env).upd (some 0) (.slice x0b x0n x0c)).upd (some 1) x1).upd (some 7) (.int .i64 x7)).upd (some 8) (.int .i64 x8)) h := by kernel_rfl
      exact e ▸ hS
    refine hw.mono ?_
    intro e g' h' hq
    cases e with
    | normal => exact D3_ok (K := (fun z0b z0n z0c z1 z7 z8 h => n6_L Kn Ke0 Kr N z0b z0n z0c z1 z7 z8 h)) hq
    | _ => exact hq
abbrev n5 (x0b : Option Addr) (x0n : Nat) (x0c : Nat) (x1 : Value) (x7 : Int) (x8 : Int) (Kn : T2) (Kr : T0) (h : H) : Prop := n6 x0b x0n x0c x1 x7 x8 Kn Kn Kr h
theorem n5_ok (x0b : Option Addr) (x0n : Nat) (x0c : Nat) (x1 : Value) (x7 : Int) (x8 : Int) (Kn : T2) (Kr : T0) (g : Env) (hg : E3 g x0b x0n x0c x1 x7 x8) (h : H) (hS : n5 x0b x0n x0c x1 x7 x8 Kn Kr h) : wpC none Try.prog 19 n4_c2 (Q1 Kn Kr) g h := by
  refine wpC_block' (id := 0) (x := n5_c1) (by kernel_rfl) (n6_ok x0b x0n x0c x1 x7 x8 Kn Kn Kr g hg h hS) ?_
  intro e g' h' hq
  cases e <;> exact hq
def Q4 (Kn : T3) (Kr : T0) : XPost
  | .normal, g, h => D3 Kn g h
  | .ret, g, h => D0 Kr g h
  | _, _, _ => False
abbrev n4 (x0b : Option Addr) (x0n : Nat) (x0c : Nat) (x1 : Value) (Kn : T2) (Kr : T0) (h : H) : Prop :=
  n5 x0b x0n x0c x1 (x0n : Int) (0 : Int) Kn Kr h
theorem n4_ok (x0b : Option Addr) (x0n : Nat) (x0c : Nat) (x1 : Value) (Kn : T2) (Kr : T0) (g : Env) (hg : E1 g x0b x0n x0c x1) (h : H) (hS : n4 x0b x0n x0c x1 Kn Kr h) : wpC none Try.prog 19 n2_c1 (Q1 Kn Kr) g h := by
  obtain ⟨hg0, hg1, hds⟩ := hg
  refine wpC_seq' (x := n4_c1) (y := n4_c2) (Q' := (Q4 (fun z0b z0n z0c z1 z7 z8 h => n5 z0b z0n z0c z1 z7 z8 Kn Kr h) Kr)) (by kernel_rfl) ?_ ?_
  · refine wpC_of_wpx (by kernel_rfl) (by kernel_rfl) (g' := ((⟨g.v, []⟩ : Env).upd (some 0) (.slice x0b x0n x0c)).upd (some 1) x1) (by rw [env_ds hds, upd_self hg0, upd_self hg1]) ?_
    have e : (n4 x0b x0n x0c x1 Kn Kr h) = wpx none Try.prog 19 n4_c1 (Q4 (fun z0b z0n z0c z1 z7 z8 h => n5 z0b z0n z0c z1 z7 z8 Kn Kr h) Kr) (((⟨g.v, []⟩ : Env).upd (some 0) (.slice x0b x0n x0c)).upd (some 1) x1) h := by kernel_rfl
    exact e ▸ hS
  · intro e g' h' hq
    cases e with
    | normal =>
      have hq : D3 (fun z0b z0n z0c z1 z7 z8 h => n5 z0b z0n z0c z1 z7 z8 Kn Kr h) g' h' := hq
      obtain ⟨y0b, y0n, y0c, y1, y7, y8, hg', hq⟩ := D3_ok hq
      exact n5_ok y0b y0n y0c y1 y7 y8 Kn Kr g' hg' h' hq
    | _ => exact hq
abbrev n2 (x0b : Option Addr) (x0n : Nat) (x0c : Nat) (x1 : Value) (Kn : T0) (Kr : T0) (h : H) : Prop := n4 x0b x0n x0c x1 (fun  h => n3 Kn Kr h) Kr h
theorem n2_ok (x0b : Option Addr) (x0n : Nat) (x0c : Nat) (x1 : Value) (Kn : T0) (Kr : T0) (g : Env) (hg : E1 g x0b x0n x0c x1) (h : H) (hS : n2 x0b x0n x0c x1 Kn Kr h) : wpC none Try.prog 19 n1_c2 (Q0 Kn Kr) g h := by
  refine wpC_seq' (x := n2_c1) (y := n2_c2) (by kernel_rfl) (n4_ok x0b x0n x0c x1 (fun  h => n3 Kn Kr h) Kr g hg h hS) ?_
  intro e g' h' hq
  cases e with
  | normal =>
    have hq : D2 (fun  h => n3 Kn Kr h) g' h' := hq
    obtain ⟨hg', hq⟩ := D2_ok hq
    exact n3_ok  Kn Kr g' hg' h' hq
  | _ => exact hq
def Q5 (Kn : T1) (Kr : T0) : XPost
  | .normal, g, h => D1 Kn g h
  | .ret, g, h => D0 Kr g h
  | _, _, _ => False
abbrev n1 (x0b : Option Addr) (x0n : Nat) (x0c : Nat) (x1 : Value) (Kn : T0) (Kr : T0) (h : H) : Prop :=
  n2 x0b x0n x0c x1 Kn Kr h
theorem n1_ok (x0b : Option Addr) (x0n : Nat) (x0c : Nat) (x1 : Value) (Kn : T0) (Kr : T0) (g : Env) (hg : E1 g x0b x0n x0c x1) (h : H) (hS : n1 x0b x0n x0c x1 Kn Kr h) : wpC none Try.prog 19 code (Q0 Kn Kr) g h := by
  obtain ⟨hg0, hg1, hds⟩ := hg
  refine wpC_seq' (x := n1_c1) (y := n1_c2) (Q' := (Q5 (fun z0b z0n z0c z1 h => n2 z0b z0n z0c z1 Kn Kr h) Kr)) (by kernel_rfl) ?_ ?_
  · refine wpC_of_wpx (by kernel_rfl) (by kernel_rfl) (g' := ((⟨g.v, []⟩ : Env).upd (some 0) (.slice x0b x0n x0c)).upd (some 1) x1) (by rw [env_ds hds, upd_self hg0, upd_self hg1]) ?_
    have e : (n1 x0b x0n x0c x1 Kn Kr h) = wpx none Try.prog 19 n1_c1 (Q5 (fun z0b z0n z0c z1 h => n2 z0b z0n z0c z1 Kn Kr h) Kr) (((⟨g.v, []⟩ : Env).upd (some 0) (.slice x0b x0n x0c)).upd (some 1) x1) h := by kernel_rfl
    exact e ▸ hS
  · intro e g' h' hq
    cases e with
    | normal =>
      have hq : D1 (fun z0b z0n z0c z1 h => n2 z0b z0n z0c z1 Kn Kr h) g' h' := hq
      obtain ⟨y0b, y0n, y0c, y1, hg', hq⟩ := D1_ok hq
      exact n2_ok y0b y0n y0c y1 Kn Kr g' hg' h' hq
    | _ => exact hq
/-- WHAT slices.IndexFunc[[]tympan/api.Mark,tympan/api.Mark] ASKS -/
abbrev asks (x0b : Option Addr) (x0n : Nat) (x0c : Nat) (x1 : Value) (K : Value → H → Prop) (h : H) : Prop := n1 x0b x0n x0c x1 (fun y4 h => K (.int .i64 y4) h) (fun y4 h => K (.int .i64 y4) h) h
theorem ok (x0b : Option Addr) (x0n : Nat) (x0c : Nat) (x1 : Value) (K : Value → H → Prop) (h : H) (hS : asks x0b x0n x0c x1 K h) : HCalls Try.prog 30 ⟨[(.slice x0b x0n x0c), x1]⟩ h K := by
  refine calls_of_wpC (c := code) Try.func30 (by kernel_rfl) (Nat.le_of_ble_eq_true (by kernel_rfl)) ?_
  refine (n1_ok x0b x0n x0c x1 (fun y4 h => K (.int .i64 y4) h) (fun y4 h => K (.int .i64 y4) h) (env0 [(.slice x0b x0n x0c), x1]) ⟨rfl, rfl, rfl⟩ h hS).mono ?_
  intro e g' h' hq
  cases e with
  | normal =>
    have hq : D0 (fun y4 h => K (.int .i64 y4) h) g' h' := hq
    obtain ⟨y4, ⟨hg4, hd⟩, hq⟩ := D0_ok hq
    show leaveX g'.ds h' _
    rw [hd]
    show K (g'.v 4) h'
    rw [hg4]
    exact hq
  | ret =>
    have hq : D0 (fun y4 h => K (.int .i64 y4) h) g' h' := hq
    obtain ⟨y4, ⟨hg4, hd⟩, hq⟩ := D0_ok hq
    show leaveX g'.ds h' _
    rw [hd]
    show K (g'.v 4) h'
    rw [hg4]
    exact hq
  | _ => exact hq
end Sx.slices_IndexFunc_apiMark

/-! ### tympan/marks.Find$1 -/
namespace Sx.marks_Find_1
noncomputable def code : Code := bodyOf Try.f31
abbrev T0 := Bool → H → Prop
def E0 (g : Env) (x3 : Bool) : Prop := g.v 3 = (.bool x3) ∧ g.ds = []
def D0 (K : T0) (g : Env) (h : H) : Prop := nilDs g.ds (vBool (g.v 3) fun b1 => K b1 h)
theorem D0_ok {K : T0} {g : Env} {h : H} (hq : D0 K g h) : ∃ (x3 : Bool), E0 g x3 ∧ K x3 h := by
  obtain ⟨hd, hq⟩ := nilDs_ok hq
  obtain ⟨y3, e2, q4⟩ := vBool_ok hq
  exact ⟨y3, ⟨e2, hd⟩, q4⟩
def Q0 (Kn : T0) (Kr : T0) : XPost
  | .normal, g, h => D0 Kn g h
  | .ret, g, h => D0 Kr g h
  | _, _, _ => False
abbrev T1 := Int → (List UInt8) → (Option Addr) → Nat → Nat → Addr → H → Prop
def E1 (g : Env) (x0_0 : Int) (x0_1 : List UInt8) (x0_2b : Option Addr) (x0_2n : Nat) (x0_2c : Nat) (x1 : Addr) : Prop := g.v 0 = (.agg ⟨[(.int .i64 x0_0), (S x0_1), (.slice x0_2b x0_2n x0_2c)]⟩) ∧ g.v 1 = (.pointer (some x1)) ∧ g.ds = []
def D1 (K : T1) (g : Env) (h : H) : Prop := nilDs g.ds (vAgg (g.v 0) fun l5 => uncons l5 fun e6 l7 => vInt .i64 e6 fun i8 => uncons l7 fun e9 l10 => vStr e9 fun s11 => uncons l10 fun e12 l13 => vSlice e12 fun s14b s14n s14c => unnil l13 (vAddr (g.v 1) fun a15 => K i8 s11 s14b s14n s14c a15 h))
theorem D1_ok {K : T1} {g : Env} {h : H} (hq : D1 K g h) : ∃ (x0_0 : Int) (x0_1 : List UInt8) (x0_2b : Option Addr) (x0_2n : Nat) (x0_2c : Nat) (x1 : Addr), E1 g x0_0 x0_1 x0_2b x0_2n x0_2c x1 ∧ K x0_0 x0_1 x0_2b x0_2n x0_2c x1 h := by
  obtain ⟨hd, hq⟩ := nilDs_ok hq
  obtain ⟨l17, e16, q18⟩ := vAgg_ok hq
  obtain ⟨u19, l20, rfl, q21⟩ := uncons_ok q18
  obtain ⟨y22, rfl, q23⟩ := vInt_ok q21
  obtain ⟨u24, l25, rfl, q26⟩ := uncons_ok q23
  obtain ⟨y27, rfl, q28⟩ := vStr_ok q26
  obtain ⟨u29, l30, rfl, q31⟩ := uncons_ok q28
  obtain ⟨y32b, y32n, y32c, rfl, q33⟩ := vSlice_ok q31
  obtain ⟨rfl, q34⟩ := unnil_ok q33
  obtain ⟨y36, e35, q37⟩ := vAddr_ok q34
  exact ⟨y22, y27, y32b, y32n, y32c, y36, ⟨e16, e35, hd⟩, q37⟩
abbrev n1 (x0_0 : Int) (x0_1 : List UInt8) (x0_2b : Option Addr) (x0_2n : Nat) (x0_2c : Nat) (x1 : Addr) (Kn : T0) (Kr : T0) (h : H) : Prop :=
  newx h ⟨[(.int .i64 x0_0), (S x0_1), (.slice x0_2b x0_2n x0_2c)]⟩ 25 fun a38 h39 => ∃ i40, cell h39 (a38.add 0) = some (.int .i64 i40) ∧ (∃ i41, cell h39 x1 = some (.int .i64 i41) ∧ (Spl (i40 = i41) (Kr true h39) (Kr false h39)))
theorem n1_ok (x0_0 : Int) (x0_1 : List UInt8) (x0_2b : Option Addr) (x0_2n : Nat) (x0_2c : Nat) (x1 : Addr) (Kn : T0) (Kr : T0) (g : Env) (hg : E1 g x0_0 x0_1 x0_2b x0_2n x0_2c x1) (h : H) (hS : n1 x0_0 x0_1 x0_2b x0_2n x0_2c x1 Kn Kr h) : wpC none Try.prog 8 code (Q0 Kn Kr) g h := by
  obtain ⟨hg0, hg1, hds⟩ := hg
  refine wpC_of_wpx (by kernel_rfl) (by kernel_rfl) (g' := ((⟨g.v, []⟩ : Env).upd (some 0) (.agg ⟨[(.int .i64 x0_0), (S x0_1), (.slice x0_2b x0_2n x0_2c)]⟩)).upd (some 1) (.pointer (some x1))) (by rw [env_ds hds, upd_self hg0, upd_self hg1]) ?_
  have e : (n1 x0_0 x0_1 x0_2b x0_2n x0_2c x1 Kn Kr h) = wpx none Try.prog 8 code (Q0 Kn Kr) (((⟨g.v, []⟩ : Env).upd (some 0) (.agg ⟨[(.int .i64 x0_0), (S x0_1), (.slice x0_2b x0_2n x0_2c)]⟩)).upd (some 1) (.pointer (some x1))) h := by kernel_rfl
  exact e ▸ hS
/-- WHAT tympan/marks.Find$1 ASKS -/
abbrev asks (x0_0 : Int) (x0_1 : List UInt8) (x0_2b : Option Addr) (x0_2n : Nat) (x0_2c : Nat) (x1 : Addr) (K : Value → H → Prop) (h : H) : Prop := n1 x0_0 x0_1 x0_2b x0_2n x0_2c x1 (fun y3 h => K (.bool y3) h) (fun y3 h => K (.bool y3) h) h
theorem ok (x0_0 : Int) (x0_1 : List UInt8) (x0_2b : Option Addr) (x0_2n : Nat) (x0_2c : Nat) (x1 : Addr) (K : Value → H → Prop) (h : H) (hS : asks x0_0 x0_1 x0_2b x0_2n x0_2c x1 K h) : HCalls Try.prog 31 ⟨[(.agg ⟨[(.int .i64 x0_0), (S x0_1), (.slice x0_2b x0_2n x0_2c)]⟩), (.pointer (some x1))]⟩ h K := by
  refine calls_of_wpC (c := code) Try.func31 (by kernel_rfl) (Nat.le_of_ble_eq_true (by kernel_rfl)) ?_
  refine (n1_ok x0_0 x0_1 x0_2b x0_2n x0_2c x1 (fun y3 h => K (.bool y3) h) (fun y3 h => K (.bool y3) h) (env0 [(.agg ⟨[(.int .i64 x0_0), (S x0_1), (.slice x0_2b x0_2n x0_2c)]⟩), (.pointer (some x1))]) ⟨rfl, rfl, rfl⟩ h hS).mono ?_
  intro e g' h' hq
  cases e with
  | normal =>
    have hq : D0 (fun y3 h => K (.bool y3) h) g' h' := hq
    obtain ⟨y3, ⟨hg3, hd⟩, hq⟩ := D0_ok hq
    show leaveX g'.ds h' _
    rw [hd]
    show K (g'.v 3) h'
    rw [hg3]
    exact hq
  | ret =>
    have hq : D0 (fun y3 h => K (.bool y3) h) g' h' := hq
    obtain ⟨y3, ⟨hg3, hd⟩, hq⟩ := D0_ok hq
    show leaveX g'.ds h' _
    rw [hd]
    show K (g'.v 3) h'
    rw [hg3]
    exact hq
  | _ => exact hq
end Sx.marks_Find_1

/-! ### slices.ContainsFunc[[]tympan/api.Open,tympan/api.Open] -/
namespace Sx.slices_ContainsFunc_apiOpen
noncomputable def code : Code := bodyOf Try.f32
abbrev T0 := Bool → H → Prop
def E0 (g : Env) (x4 : Bool) : Prop := g.v 4 = (.bool x4) ∧ g.ds = []
def D0 (K : T0) (g : Env) (h : H) : Prop := nilDs g.ds (vBool (g.v 4) fun b1 => K b1 h)
theorem D0_ok {K : T0} {g : Env} {h : H} (hq : D0 K g h) : ∃ (x4 : Bool), E0 g x4 ∧ K x4 h := by
  obtain ⟨hd, hq⟩ := nilDs_ok hq
  obtain ⟨y3, e2, q4⟩ := vBool_ok hq
  exact ⟨y3, ⟨e2, hd⟩, q4⟩
def Q0 (Kn : T0) (Kr : T0) : XPost
  | .normal, g, h => D0 Kn g h
  | .ret, g, h => D0 Kr g h
  | _, _, _ => False
abbrev T1 := (Option Addr) → Nat → Nat → Value → H → Prop
def E1 (g : Env) (x0b : Option Addr) (x0n : Nat) (x0c : Nat) (x1 : Value) : Prop := g.v 0 = (.slice x0b x0n x0c) ∧ g.v 1 = x1 ∧ g.ds = []
def D1 (K : T1) (g : Env) (h : H) : Prop := nilDs g.ds (vSlice (g.v 0) fun s5b s5n s5c => K s5b s5n s5c (g.v 1) h)
theorem D1_ok {K : T1} {g : Env} {h : H} (hq : D1 K g h) : ∃ (x0b : Option Addr) (x0n : Nat) (x0c : Nat) (x1 : Value), E1 g x0b x0n x0c x1 ∧ K x0b x0n x0c x1 h := by
  obtain ⟨hd, hq⟩ := nilDs_ok hq
  obtain ⟨y7b, y7n, y7c, e6, q8⟩ := vSlice_ok hq
  exact ⟨y7b, y7n, y7c, (g.v 1), ⟨e6, rfl, hd⟩, q8⟩
abbrev n1 (x0b : Option Addr) (x0n : Nat) (x0c : Nat) (x1 : Value) (Kn : T0) (Kr : T0) (h : H) : Prop :=
  HCalls Try.prog 38 ⟨[(.slice x0b x0n x0c), x1]⟩ h fun v9 h10 => vInt .i64 v9 fun i11 => Spl (i11 ≥ (0 : Int)) (Kr true h10) (Kr false h10)
theorem n1_ok (x0b : Option Addr) (x0n : Nat) (x0c : Nat) (x1 : Value) (Kn : T0) (Kr : T0) (g : Env) (hg : E1 g x0b x0n x0c x1) (h : H) (hS : n1 x0b x0n x0c x1 Kn Kr h) : wpC none Try.prog 9 code (Q0 Kn Kr) g h := by
  obtain ⟨hg0, hg1, hds⟩ := hg
  refine wpC_of_wpx (by kernel_rfl) (by kernel_rfl) (g' := ((⟨g.v, []⟩ : Env).upd (some 0) (.slice x0b x0n x0c)).upd (some 1) x1) (by rw [env_ds hds, upd_self hg0, upd_self hg1]) ?_
  have e : (n1 x0b x0n x0c x1 Kn Kr h) = wpx none Try.prog 9 code (Q0 Kn Kr) (((⟨g.v, []⟩ : Env).upd (some 0) (.slice x0b x0n x0c)).upd (some 1) x1) h := by kernel_rfl
  exact e ▸ hS
/-- WHAT slices.ContainsFunc[[]tympan/api.Open,tympan/api.Open] ASKS -/
abbrev asks (x0b : Option Addr) (x0n : Nat) (x0c : Nat) (x1 : Value) (K : Value → H → Prop) (h : H) : Prop := n1 x0b x0n x0c x1 (fun y4 h => K (.bool y4) h) (fun y4 h => K (.bool y4) h) h
theorem ok (x0b : Option Addr) (x0n : Nat) (x0c : Nat) (x1 : Value) (K : Value → H → Prop) (h : H) (hS : asks x0b x0n x0c x1 K h) : HCalls Try.prog 32 ⟨[(.slice x0b x0n x0c), x1]⟩ h K := by
  refine calls_of_wpC (c := code) Try.func32 (by kernel_rfl) (Nat.le_of_ble_eq_true (by kernel_rfl)) ?_
  refine (n1_ok x0b x0n x0c x1 (fun y4 h => K (.bool y4) h) (fun y4 h => K (.bool y4) h) (env0 [(.slice x0b x0n x0c), x1]) ⟨rfl, rfl, rfl⟩ h hS).mono ?_
  intro e g' h' hq
  cases e with
  | normal =>
    have hq : D0 (fun y4 h => K (.bool y4) h) g' h' := hq
    obtain ⟨y4, ⟨hg4, hd⟩, hq⟩ := D0_ok hq
    show leaveX g'.ds h' _
    rw [hd]
    show K (g'.v 4) h'
    rw [hg4]
    exact hq
  | ret =>
    have hq : D0 (fun y4 h => K (.bool y4) h) g' h' := hq
    obtain ⟨y4, ⟨hg4, hd⟩, hq⟩ := D0_ok hq
    show leaveX g'.ds h' _
    rw [hd]
    show K (g'.v 4) h'
    rw [hg4]
    exact hq
  | _ => exact hq
end Sx.slices_ContainsFunc_apiOpen

/-! ### tympan/marks.Lost$1 -/
namespace Sx.marks_Lost_1
noncomputable def code : Code := bodyOf Try.f33
abbrev T0 := Bool → H → Prop
def E0 (g : Env) (x3 : Bool) : Prop := g.v 3 = (.bool x3) ∧ g.ds = []
def D0 (K : T0) (g : Env) (h : H) : Prop := nilDs g.ds (vBool (g.v 3) fun b1 => K b1 h)
theorem D0_ok {K : T0} {g : Env} {h : H} (hq : D0 K g h) : ∃ (x3 : Bool), E0 g x3 ∧ K x3 h := by
  obtain ⟨hd, hq⟩ := nilDs_ok hq
  obtain ⟨y3, e2, q4⟩ := vBool_ok hq
  exact ⟨y3, ⟨e2, hd⟩, q4⟩
def Q0 (Kn : T0) (Kr : T0) : XPost
  | .normal, g, h => D0 Kn g h
  | .ret, g, h => D0 Kr g h
  | _, _, _ => False
abbrev T1 := Int → Int → (List UInt8) → Int → Addr → H → Prop
def E1 (g : Env) (x0_0 : Int) (x0_1 : Int) (x0_2 : List UInt8) (x0_3 : Int) (x1 : Addr) : Prop := g.v 0 = (.agg ⟨[(.int .i64 x0_0), (.int .u8 x0_1), (S x0_2), (.int .u8 x0_3)]⟩) ∧ g.v 1 = (.pointer (some x1)) ∧ g.ds = []
def D1 (K : T1) (g : Env) (h : H) : Prop := nilDs g.ds (vAgg (g.v 0) fun l5 => uncons l5 fun e6 l7 => vInt .i64 e6 fun i8 => uncons l7 fun e9 l10 => vInt .u8 e9 fun i11 => uncons l10 fun e12 l13 => vStr e12 fun s14 => uncons l13 fun e15 l16 => vInt .u8 e15 fun i17 => unnil l16 (vAddr (g.v 1) fun a18 => K i8 i11 s14 i17 a18 h))
theorem D1_ok {K : T1} {g : Env} {h : H} (hq : D1 K g h) : ∃ (x0_0 : Int) (x0_1 : Int) (x0_2 : List UInt8) (x0_3 : Int) (x1 : Addr), E1 g x0_0 x0_1 x0_2 x0_3 x1 ∧ K x0_0 x0_1 x0_2 x0_3 x1 h := by
  obtain ⟨hd, hq⟩ := nilDs_ok hq
  obtain ⟨l20, e19, q21⟩ := vAgg_ok hq
  obtain ⟨u22, l23, rfl, q24⟩ := uncons_ok q21
  obtain ⟨y25, rfl, q26⟩ := vInt_ok q24
  obtain ⟨u27, l28, rfl, q29⟩ := uncons_ok q26
  obtain ⟨y30, rfl, q31⟩ := vInt_ok q29
  obtain ⟨u32, l33, rfl, q34⟩ := uncons_ok q31
  obtain ⟨y35, rfl, q36⟩ := vStr_ok q34
  obtain ⟨u37, l38, rfl, q39⟩ := uncons_ok q36
  obtain ⟨y40, rfl, q41⟩ := vInt_ok q39
  obtain ⟨rfl, q42⟩ := unnil_ok q41
  obtain ⟨y44, e43, q45⟩ := vAddr_ok q42
  exact ⟨y25, y30, y35, y40, y44, ⟨e19, e43, hd⟩, q45⟩
abbrev n1 (x0_0 : Int) (x0_1 : Int) (x0_2 : List UInt8) (x0_3 : Int) (x1 : Addr) (Kn : T0) (Kr : T0) (h : H) : Prop :=
  newx h ⟨[(.int .i64 x0_0), (.int .u8 x0_1), (S x0_2), (.int .u8 x0_3)]⟩ 46 fun a46 h47 => ∃ i48, cell h47 (a46.add 0) = some (.int .i64 i48) ∧ (∃ i49, cell h47 (x1.add 0) = some (.int .i64 i49) ∧ (Spl (i48 = i49) (Kr true h47) (Kr false h47)))
theorem n1_ok (x0_0 : Int) (x0_1 : Int) (x0_2 : List UInt8) (x0_3 : Int) (x1 : Addr) (Kn : T0) (Kr : T0) (g : Env) (hg : E1 g x0_0 x0_1 x0_2 x0_3 x1) (h : H) (hS : n1 x0_0 x0_1 x0_2 x0_3 x1 Kn Kr h) : wpC none Try.prog 9 code (Q0 Kn Kr) g h := by
  obtain ⟨hg0, hg1, hds⟩ := hg
  refine wpC_of_wpx (by kernel_rfl) (by kernel_rfl) (g' := ((⟨g.v, []⟩ : Env).upd (some 0) (.agg ⟨[(.int .i64 x0_0), (.int .u8 x0_1), (S x0_2), (.int .u8 x0_3)]⟩)).upd (some 1) (.pointer (some x1))) (by rw [env_ds hds, upd_self hg0, upd_self hg1]) ?_
  have e : (n1 x0_0 x0_1 x0_2 x0_3 x1 Kn Kr h) = wpx none Try.prog 9 code (Q0 Kn Kr) (((⟨g.v, []⟩ : Env).upd (some 0) (.agg ⟨[(.int .i64 x0_0), (.int .u8 x0_1), (S x0_2), (.int .u8 x0_3)]⟩)).upd (some 1) (.pointer (some x1))) h := by kernel_rfl
  exact e ▸ hS
/-- WHAT tympan/marks.Lost$1 ASKS -/
abbrev asks (x0_0 : Int) (x0_1 : Int) (x0_2 : List UInt8) (x0_3 : Int) (x1 : Addr) (K : Value → H → Prop) (h : H) : Prop := n1 x0_0 x0_1 x0_2 x0_3 x1 (fun y3 h => K (.bool y3) h) (fun y3 h => K (.bool y3) h) h
theorem ok (x0_0 : Int) (x0_1 : Int) (x0_2 : List UInt8) (x0_3 : Int) (x1 : Addr) (K : Value → H → Prop) (h : H) (hS : asks x0_0 x0_1 x0_2 x0_3 x1 K h) : HCalls Try.prog 33 ⟨[(.agg ⟨[(.int .i64 x0_0), (.int .u8 x0_1), (S x0_2), (.int .u8 x0_3)]⟩), (.pointer (some x1))]⟩ h K := by
  refine calls_of_wpC (c := code) Try.func33 (by kernel_rfl) (Nat.le_of_ble_eq_true (by kernel_rfl)) ?_
  refine (n1_ok x0_0 x0_1 x0_2 x0_3 x1 (fun y3 h => K (.bool y3) h) (fun y3 h => K (.bool y3) h) (env0 [(.agg ⟨[(.int .i64 x0_0), (.int .u8 x0_1), (S x0_2), (.int .u8 x0_3)]⟩), (.pointer (some x1))]) ⟨rfl, rfl, rfl⟩ h hS).mono ?_
  intro e g' h' hq
  cases e with
  | normal =>
    have hq : D0 (fun y3 h => K (.bool y3) h) g' h' := hq
    obtain ⟨y3, ⟨hg3, hd⟩, hq⟩ := D0_ok hq
    show leaveX g'.ds h' _
    rw [hd]
    show K (g'.v 3) h'
    rw [hg3]
    exact hq
  | ret =>
    have hq : D0 (fun y3 h => K (.bool y3) h) g' h' := hq
    obtain ⟨y3, ⟨hg3, hd⟩, hq⟩ := D0_ok hq
    show leaveX g'.ds h' _
    rw [hd]
    show K (g'.v 3) h'
    rw [hg3]
    exact hq
  | _ => exact hq
end Sx.marks_Lost_1

/-! ### tympan/marks.alike$1 -/
namespace Sx.marks_alike_1
noncomputable def code : Code := bodyOf Try.f34
abbrev T0 := Bool → H → Prop
def E0 (g : Env) (x3 : Bool) : Prop := g.v 3 = (.bool x3) ∧ g.ds = []
def D0 (K : T0) (g : Env) (h : H) : Prop := nilDs g.ds (vBool (g.v 3) fun b1 => K b1 h)
theorem D0_ok {K : T0} {g : Env} {h : H} (hq : D0 K g h) : ∃ (x3 : Bool), E0 g x3 ∧ K x3 h := by
  obtain ⟨hd, hq⟩ := nilDs_ok hq
  obtain ⟨y3, e2, q4⟩ := vBool_ok hq
  exact ⟨y3, ⟨e2, hd⟩, q4⟩
def Q0 (Kn : T0) (Kr : T0) : XPost
  | .normal, g, h => D0 Kn g h
  | .ret, g, h => D0 Kr g h
  | _, _, _ => False
abbrev T1 := (List UInt8) → (List UInt8) → Addr → H → Prop
def E1 (g : Env) (x0_0 : List UInt8) (x0_1 : List UInt8) (x1 : Addr) : Prop := g.v 0 = (.agg ⟨[(S x0_0), (S x0_1)]⟩) ∧ g.v 1 = (.pointer (some x1)) ∧ g.ds = []
def D1 (K : T1) (g : Env) (h : H) : Prop := nilDs g.ds (vAgg (g.v 0) fun l5 => uncons l5 fun e6 l7 => vStr e6 fun s8 => uncons l7 fun e9 l10 => vStr e9 fun s11 => unnil l10 (vAddr (g.v 1) fun a12 => K s8 s11 a12 h))
theorem D1_ok {K : T1} {g : Env} {h : H} (hq : D1 K g h) : ∃ (x0_0 : List UInt8) (x0_1 : List UInt8) (x1 : Addr), E1 g x0_0 x0_1 x1 ∧ K x0_0 x0_1 x1 h := by
  obtain ⟨hd, hq⟩ := nilDs_ok hq
  obtain ⟨l14, e13, q15⟩ := vAgg_ok hq
  obtain ⟨u16, l17, rfl, q18⟩ := uncons_ok q15
  obtain ⟨y19, rfl, q20⟩ := vStr_ok q18
  obtain ⟨u21, l22, rfl, q23⟩ := uncons_ok q20
  obtain ⟨y24, rfl, q25⟩ := vStr_ok q23
  obtain ⟨rfl, q26⟩ := unnil_ok q25
  obtain ⟨y28, e27, q29⟩ := vAddr_ok q26
  exact ⟨y19, y24, y28, ⟨e13, e27, hd⟩, q29⟩
abbrev n1 (x0_0 : List UInt8) (x0_1 : List UInt8) (x1 : Addr) (Kn : T0) (Kr : T0) (h : H) : Prop :=
  newx h ⟨[(S x0_0), (S x0_1)]⟩ 38 fun a30 h31 => ∃ s32b s32n s32c, cell h31 (x1.add 2) = some (.slice s32b s32n s32c) ∧ (∃ s33, cell h31 ((a30).add 0) = some (S s33) ∧ (∃ s34, cell h31 ((a30).add 1) = some (S s34) ∧ (HCalls Try.prog 35 ⟨[(.slice s32b s32n s32c), (.agg ⟨[(S s33), (S s34)]⟩)]⟩ h31 fun v35 h36 => vBool v35 fun b37 => cond b37 (Kr false h36) (Kr true h36))))
theorem n1_ok (x0_0 : List UInt8) (x0_1 : List UInt8) (x1 : Addr) (Kn : T0) (Kr : T0) (g : Env) (hg : E1 g x0_0 x0_1 x1) (h : H) (hS : n1 x0_0 x0_1 x1 Kn Kr h) : wpC none Try.prog 9 code (Q0 Kn Kr) g h := by
  obtain ⟨hg0, hg1, hds⟩ := hg
  refine wpC_of_wpx (by kernel_rfl) (by kernel_rfl) (g' := ((⟨g.v, []⟩ : Env).upd (some 0) (.agg ⟨[(S x0_0), (S x0_1)]⟩)).upd (some 1) (.pointer (some x1))) (by rw [env_ds hds, upd_self hg0, upd_self hg1]) ?_
  have e : (n1 x0_0 x0_1 x1 Kn Kr h) = wpx none Try.prog 9 code (Q0 Kn Kr) (((⟨g.v, []⟩ : Env).upd (some 0) (.agg ⟨[(S x0_0), (S x0_1)]⟩)).upd (some 1) (.pointer (some x1))) h := by kernel_rfl
  exact e ▸ hS
/-- WHAT tympan/marks.alike$1 ASKS -/
abbrev asks (x0_0 : List UInt8) (x0_1 : List UInt8) (x1 : Addr) (K : Value → H → Prop) (h : H) : Prop := n1 x0_0 x0_1 x1 (fun y3 h => K (.bool y3) h) (fun y3 h => K (.bool y3) h) h
theorem ok (x0_0 : List UInt8) (x0_1 : List UInt8) (x1 : Addr) (K : Value → H → Prop) (h : H) (hS : asks x0_0 x0_1 x1 K h) : HCalls Try.prog 34 ⟨[(.agg ⟨[(S x0_0), (S x0_1)]⟩), (.pointer (some x1))]⟩ h K := by
  refine calls_of_wpC (c := code) Try.func34 (by kernel_rfl) (Nat.le_of_ble_eq_true (by kernel_rfl)) ?_
  refine (n1_ok x0_0 x0_1 x1 (fun y3 h => K (.bool y3) h) (fun y3 h => K (.bool y3) h) (env0 [(.agg ⟨[(S x0_0), (S x0_1)]⟩), (.pointer (some x1))]) ⟨rfl, rfl, rfl⟩ h hS).mono ?_
  intro e g' h' hq
  cases e with
  | normal =>
    have hq : D0 (fun y3 h => K (.bool y3) h) g' h' := hq
    obtain ⟨y3, ⟨hg3, hd⟩, hq⟩ := D0_ok hq
    show leaveX g'.ds h' _
    rw [hd]
    show K (g'.v 3) h'
    rw [hg3]
    exact hq
  | ret =>
    have hq : D0 (fun y3 h => K (.bool y3) h) g' h' := hq
    obtain ⟨y3, ⟨hg3, hd⟩, hq⟩ := D0_ok hq
    show leaveX g'.ds h' _
    rw [hd]
    show K (g'.v 3) h'
    rw [hg3]
    exact hq
  | _ => exact hq
end Sx.marks_alike_1

/-! ### slices.Contains[[]tympan/api.Attr,tympan/api.Attr] -/
namespace Sx.slices_Contains_apiAttr
noncomputable def code : Code := bodyOf Try.f35
abbrev T0 := Bool → H → Prop
def E0 (g : Env) (x4 : Bool) : Prop := g.v 4 = (.bool x4) ∧ g.ds = []
def D0 (K : T0) (g : Env) (h : H) : Prop := nilDs g.ds (vBool (g.v 4) fun b1 => K b1 h)
theorem D0_ok {K : T0} {g : Env} {h : H} (hq : D0 K g h) : ∃ (x4 : Bool), E0 g x4 ∧ K x4 h := by
  obtain ⟨hd, hq⟩ := nilDs_ok hq
  obtain ⟨y3, e2, q4⟩ := vBool_ok hq
  exact ⟨y3, ⟨e2, hd⟩, q4⟩
def Q0 (Kn : T0) (Kr : T0) : XPost
  | .normal, g, h => D0 Kn g h
  | .ret, g, h => D0 Kr g h
  | _, _, _ => False
abbrev T1 := (Option Addr) → Nat → Nat → (List UInt8) → (List UInt8) → H → Prop
def E1 (g : Env) (x0b : Option Addr) (x0n : Nat) (x0c : Nat) (x1_0 : List UInt8) (x1_1 : List UInt8) : Prop := g.v 0 = (.slice x0b x0n x0c) ∧ g.v 1 = (.agg ⟨[(S x1_0), (S x1_1)]⟩) ∧ g.ds = []
def D1 (K : T1) (g : Env) (h : H) : Prop := nilDs g.ds (vSlice (g.v 0) fun s5b s5n s5c => vAgg (g.v 1) fun l6 => uncons l6 fun e7 l8 => vStr e7 fun s9 => uncons l8 fun e10 l11 => vStr e10 fun s12 => unnil l11 (K s5b s5n s5c s9 s12 h))
theorem D1_ok {K : T1} {g : Env} {h : H} (hq : D1 K g h) : ∃ (x0b : Option Addr) (x0n : Nat) (x0c : Nat) (x1_0 : List UInt8) (x1_1 : List UInt8), E1 g x0b x0n x0c x1_0 x1_1 ∧ K x0b x0n x0c x1_0 x1_1 h := by
  obtain ⟨hd, hq⟩ := nilDs_ok hq
  obtain ⟨y14b, y14n, y14c, e13, q15⟩ := vSlice_ok hq
  obtain ⟨l17, e16, q18⟩ := vAgg_ok q15
  obtain ⟨u19, l20, rfl, q21⟩ := uncons_ok q18
  obtain ⟨y22, rfl, q23⟩ := vStr_ok q21
  obtain ⟨u24, l25, rfl, q26⟩ := uncons_ok q23
  obtain ⟨y27, rfl, q28⟩ := vStr_ok q26
  obtain ⟨rfl, q29⟩ := unnil_ok q28
  exact ⟨y14b, y14n, y14c, y22, y27, ⟨e13, e16, hd⟩, q29⟩
abbrev n1 (x0b : Option Addr) (x0n : Nat) (x0c : Nat) (x1_0 : List UInt8) (x1_1 : List UInt8) (Kn : T0) (Kr : T0) (h : H) : Prop :=
  newx h ⟨[(S x1_0), (S x1_1)]⟩ 38 fun a30 h31 => ∃ s32, cell h31 ((a30).add 0) = some (S s32) ∧ (∃ s33, cell h31 ((a30).add 1) = some (S s33) ∧ (HCalls Try.prog 39 ⟨[(.slice x0b x0n x0c), (.agg ⟨[(S s32), (S s33)]⟩)]⟩ h31 fun v34 h35 => vInt .i64 v34 fun i36 => Spl (i36 ≥ (0 : Int)) (Kr true h35) (Kr false h35)))
theorem n1_ok (x0b : Option Addr) (x0n : Nat) (x0c : Nat) (x1_0 : List UInt8) (x1_1 : List UInt8) (Kn : T0) (Kr : T0) (g : Env) (hg : E1 g x0b x0n x0c x1_0 x1_1) (h : H) (hS : n1 x0b x0n x0c x1_0 x1_1 Kn Kr h) : wpC none Try.prog 9 code (Q0 Kn Kr) g h := by
  obtain ⟨hg0, hg1, hds⟩ := hg
  refine wpC_of_wpx (by kernel_rfl) (by kernel_rfl) (g' := ((⟨g.v, []⟩ : Env).upd (some 0) (.slice x0b x0n x0c)).upd (some 1) (.agg ⟨[(S x1_0), (S x1_1)]⟩)) (by rw [env_ds hds, upd_self hg0, upd_self hg1]) ?_
  have e : (n1 x0b x0n x0c x1_0 x1_1 Kn Kr h) = wpx none Try.prog 9 code (Q0 Kn Kr) (((⟨g.v, []⟩ : Env).upd (some 0) (.slice x0b x0n x0c)).upd (some 1) (.agg ⟨[(S x1_0), (S x1_1)]⟩)) h := by kernel_rfl
  exact e ▸ hS
/-- WHAT slices.Contains[[]tympan/api.Attr,tympan/api.Attr] ASKS -/
abbrev asks (x0b : Option Addr) (x0n : Nat) (x0c : Nat) (x1_0 : List UInt8) (x1_1 : List UInt8) (K : Value → H → Prop) (h : H) : Prop := n1 x0b x0n x0c x1_0 x1_1 (fun y4 h => K (.bool y4) h) (fun y4 h => K (.bool y4) h) h
theorem ok (x0b : Option Addr) (x0n : Nat) (x0c : Nat) (x1_0 : List UInt8) (x1_1 : List UInt8) (K : Value → H → Prop) (h : H) (hS : asks x0b x0n x0c x1_0 x1_1 K h) : HCalls Try.prog 35 ⟨[(.slice x0b x0n x0c), (.agg ⟨[(S x1_0), (S x1_1)]⟩)]⟩ h K := by
  refine calls_of_wpC (c := code) Try.func35 (by kernel_rfl) (Nat.le_of_ble_eq_true (by kernel_rfl)) ?_
  refine (n1_ok x0b x0n x0c x1_0 x1_1 (fun y4 h => K (.bool y4) h) (fun y4 h => K (.bool y4) h) (env0 [(.slice x0b x0n x0c), (.agg ⟨[(S x1_0), (S x1_1)]⟩)]) ⟨rfl, rfl, rfl⟩ h hS).mono ?_
  intro e g' h' hq
  cases e with
  | normal =>
    have hq : D0 (fun y4 h => K (.bool y4) h) g' h' := hq
    obtain ⟨y4, ⟨hg4, hd⟩, hq⟩ := D0_ok hq
    show leaveX g'.ds h' _
    rw [hd]
    show K (g'.v 4) h'
    rw [hg4]
    exact hq
  | ret =>
    have hq : D0 (fun y4 h => K (.bool y4) h) g' h' := hq
    obtain ⟨y4, ⟨hg4, hd⟩, hq⟩ := D0_ok hq
    show leaveX g'.ds h' _
    rw [hd]
    show K (g'.v 4) h'
    rw [hg4]
    exact hq
  | _ => exact hq
end Sx.slices_Contains_apiAttr

/-! ### slices.ContainsFunc[[]tympan/api.Attr,tympan/api.Attr] -/
namespace Sx.slices_ContainsFunc_apiAttr
noncomputable def code : Code := bodyOf Try.f36
abbrev T0 := Bool → H → Prop
def E0 (g : Env) (x4 : Bool) : Prop := g.v 4 = (.bool x4) ∧ g.ds = []
def D0 (K : T0) (g : Env) (h : H) : Prop := nilDs g.ds (vBool (g.v 4) fun b1 => K b1 h)
theorem D0_ok {K : T0} {g : Env} {h : H} (hq : D0 K g h) : ∃ (x4 : Bool), E0 g x4 ∧ K x4 h := by
  obtain ⟨hd, hq⟩ := nilDs_ok hq
  obtain ⟨y3, e2, q4⟩ := vBool_ok hq
  exact ⟨y3, ⟨e2, hd⟩, q4⟩
def Q0 (Kn : T0) (Kr : T0) : XPost
  | .normal, g, h => D0 Kn g h
  | .ret, g, h => D0 Kr g h
  | _, _, _ => False
abbrev T1 := (Option Addr) → Nat → Nat → Value → H → Prop
def E1 (g : Env) (x0b : Option Addr) (x0n : Nat) (x0c : Nat) (x1 : Value) : Prop := g.v 0 = (.slice x0b x0n x0c) ∧ g.v 1 = x1 ∧ g.ds = []
def D1 (K : T1) (g : Env) (h : H) : Prop := nilDs g.ds (vSlice (g.v 0) fun s5b s5n s5c => K s5b s5n s5c (g.v 1) h)
theorem D1_ok {K : T1} {g : Env} {h : H} (hq : D1 K g h) : ∃ (x0b : Option Addr) (x0n : Nat) (x0c : Nat) (x1 : Value), E1 g x0b x0n x0c x1 ∧ K x0b x0n x0c x1 h := by
  obtain ⟨hd, hq⟩ := nilDs_ok hq
  obtain ⟨y7b, y7n, y7c, e6, q8⟩ := vSlice_ok hq
  exact ⟨y7b, y7n, y7c, (g.v 1), ⟨e6, rfl, hd⟩, q8⟩
abbrev n1 (x0b : Option Addr) (x0n : Nat) (x0c : Nat) (x1 : Value) (Kn : T0) (Kr : T0) (h : H) : Prop :=
  HCalls Try.prog 40 ⟨[(.slice x0b x0n x0c), x1]⟩ h fun v9 h10 => vInt .i64 v9 fun i11 => Spl (i11 ≥ (0 : Int)) (Kr true h10) (Kr false h10)
theorem n1_ok (x0b : Option Addr) (x0n : Nat) (x0c : Nat) (x1 : Value) (Kn : T0) (Kr : T0) (g : Env) (hg : E1 g x0b x0n x0c x1) (h : H) (hS : n1 x0b x0n x0c x1 Kn Kr h) : wpC none Try.prog 9 code (Q0 Kn Kr) g h := by
  obtain ⟨hg0, hg1, hds⟩ := hg
  refine wpC_of_wpx (by kernel_rfl) (by kernel_rfl) (g' := ((⟨g.v, []⟩ : Env).upd (some 0) (.slice x0b x0n x0c)).upd (some 1) x1) (by rw [env_ds hds, upd_self hg0, upd_self hg1]) ?_
  have e : (n1 x0b x0n x0c x1 Kn Kr h) = wpx none Try.prog 9 code (Q0 Kn Kr) (((⟨g.v, []⟩ : Env).upd (some 0) (.slice x0b x0n x0c)).upd (some 1) x1) h := by kernel_rfl
  exact e ▸ hS
/-- WHAT slices.ContainsFunc[[]tympan/api.Attr,tympan/api.Attr] ASKS -/
abbrev asks (x0b : Option Addr) (x0n : Nat) (x0c : Nat) (x1 : Value) (K : Value → H → Prop) (h : H) : Prop := n1 x0b x0n x0c x1 (fun y4 h => K (.bool y4) h) (fun y4 h => K (.bool y4) h) h
theorem ok (x0b : Option Addr) (x0n : Nat) (x0c : Nat) (x1 : Value) (K : Value → H → Prop) (h : H) (hS : asks x0b x0n x0c x1 K h) : HCalls Try.prog 36 ⟨[(.slice x0b x0n x0c), x1]⟩ h K := by
  refine calls_of_wpC (c := code) Try.func36 (by kernel_rfl) (Nat.le_of_ble_eq_true (by kernel_rfl)) ?_
  refine (n1_ok x0b x0n x0c x1 (fun y4 h => K (.bool y4) h) (fun y4 h => K (.bool y4) h) (env0 [(.slice x0b x0n x0c), x1]) ⟨rfl, rfl, rfl⟩ h hS).mono ?_
  intro e g' h' hq
  cases e with
  | normal =>
    have hq : D0 (fun y4 h => K (.bool y4) h) g' h' := hq
    obtain ⟨y4, ⟨hg4, hd⟩, hq⟩ := D0_ok hq
    show leaveX g'.ds h' _
    rw [hd]
    show K (g'.v 4) h'
    rw [hg4]
    exact hq
  | ret =>
    have hq : D0 (fun y4 h => K (.bool y4) h) g' h' := hq
    obtain ⟨y4, ⟨hg4, hd⟩, hq⟩ := D0_ok hq
    show leaveX g'.ds h' _
    rw [hd]
    show K (g'.v 4) h'
    rw [hg4]
    exact hq
  | _ => exact hq
end Sx.slices_ContainsFunc_apiAttr

/-! ### slices.Backward[[]tympan/api.Mark,tympan/api.Mark]$1 -/
namespace Sx.slices_Backward_1_apiMark1
noncomputable def code : Code := bodyOf Try.f37
abbrev T0 := H → Prop
def E0 (g : Env)  : Prop := g.ds = []
def D0 (K : T0) (g : Env) (h : H) : Prop := nilDs g.ds (K h)
theorem D0_ok {K : T0} {g : Env} {h : H} (hq : D0 K g h) : E0 g  ∧ K  h := by
  obtain ⟨hd, hq⟩ := nilDs_ok hq
  skip
  exact ⟨hd, hq⟩
def Q0 (Kn : T0) (Kr : T0) : XPost
  | .normal, g, h => D0 Kn g h
  | .ret, g, h => D0 Kr g h
  | _, _, _ => False
abbrev T1 := Value → Addr → H → Prop
def E1 (g : Env) (x0 : Value) (x1 : Addr) : Prop := g.v 0 = x0 ∧ g.v 1 = (.pointer (some x1)) ∧ g.ds = []
def D1 (K : T1) (g : Env) (h : H) : Prop := nilDs g.ds (vAddr (g.v 1) fun a1 => K (g.v 0) a1 h)
theorem D1_ok {K : T1} {g : Env} {h : H} (hq : D1 K g h) : ∃ (x0 : Value) (x1 : Addr), E1 g x0 x1 ∧ K x0 x1 h := by
  obtain ⟨hd, hq⟩ := nilDs_ok hq
  obtain ⟨y3, e2, q4⟩ := vAddr_ok hq
  exact ⟨(g.v 0), y3, ⟨rfl, e2, hd⟩, q4⟩
noncomputable def n1_c1 : Code := cFst code
noncomputable def n1_c2 : Code := cSnd code
abbrev T2 := Value → Addr → Int → H → Prop
def E2 (g : Env) (x0 : Value) (x1 : Addr) (x3 : Int) : Prop := g.v 0 = x0 ∧ g.v 1 = (.pointer (some x1)) ∧ g.v 3 = (.int .i64 x3) ∧ g.ds = []
def D2 (K : T2) (g : Env) (h : H) : Prop := nilDs g.ds (vAddr (g.v 1) fun a5 => vInt .i64 (g.v 3) fun i6 => K (g.v 0) a5 i6 h)
theorem D2_ok {K : T2} {g : Env} {h : H} (hq : D2 K g h) : ∃ (x0 : Value) (x1 : Addr) (x3 : Int), E2 g x0 x1 x3 ∧ K x0 x1 x3 h := by
  obtain ⟨hd, hq⟩ := nilDs_ok hq
  obtain ⟨y8, e7, q9⟩ := vAddr_ok hq
  obtain ⟨y11, e10, q12⟩ := vInt_ok q9
  exact ⟨(g.v 0), y8, y11, ⟨rfl, e7, e10, hd⟩, q12⟩
noncomputable def n2_c1 : Code := cFst n1_c2
def Q1 (Kn : T0) (Ke0 : T0) (Kr : T0) : XPost
  | .normal, g, h => D0 Kn g h
  | .ret, g, h => D0 Kr g h
  | .exit id, g, h => cond (Nat.beq id 0) (D0 Ke0 g h) (False)
  | _, _, _ => False
noncomputable def n3_c1 : Code := cFst n2_c1
def Q2 (Kn : T2) (Ke0 : T0) (Kr : T0) : XPost
  | .normal, g, h => D2 Kn g h
  | .ret, g, h => D0 Kr g h
  | .exit id, g, h => cond (Nat.beq id 0) (D0 Ke0 g h) (False)
  | _, _, _ => False
def n3_L (Kn : T0) (Ke0 : T0) (Kr : T0) : Nat → Value → Addr → Int → H → Prop
  | 0, _, _, _, _ => False
  | N + 1, x0, x1, x3, h => Spl (x3 ≥ (0 : Int)) (∃ s13b s13n s13c, cell h x1 = some (.slice s13b s13n s13c) ∧ ((0 ≤ x3 ∧ x3 < (s13n : Int)) ∧ (vSome s13b fun a14 => ∃ i15, cell h (((a14.add (Int.toNat x3 * 3))).add 0) = some (.int .i64 i15) ∧ (∃ s16, cell h (((a14.add (Int.toNat x3 * 3))).add 1) = some (S s16) ∧ (∃ s17b s17n s17c, cell h (((a14.add (Int.toNat x3 * 3))).add 2) = some (.slice s17b s17n s17c) ∧ (CallV Try.prog 4 x0 ⟨[(.int .i64 x3), (.agg ⟨[(.int .i64 i15), (S s16), (.slice s17b s17n s17c)]⟩)]⟩ h fun v18 h19 => vBool v18 fun b20 => cond b20 (Rng .i64 (x3 - (1 : Int)) ∧ (n3_L Kn Ke0 Kr N x0 x1 (x3 - (1 : Int)) h19)) (Kr h19))))))) (Ke0 h)
abbrev n3 (x0 : Value) (x1 : Addr) (x3 : Int) (Kn : T0) (Ke0 : T0) (Kr : T0) (h : H) : Prop := ∃ N, n3_L Kn Ke0 Kr N x0 x1 x3 h
theorem n3_ok (x0 : Value) (x1 : Addr) (x3 : Int) (Kn : T0) (Ke0 : T0) (Kr : T0) (g : Env) (hg : E2 g x0 x1 x3) (h : H) (hS : n3 x0 x1 x3 Kn Ke0 Kr h) : wpC none Try.prog 19 n2_c1 (Q1 Kn Ke0 Kr) g h := by
  obtain ⟨N0, hS⟩ := hS
  refine wpC_loop' (x := n3_c1) (by kernel_rfl) (fun k g h => ∃ (x0 : Value) (x1 : Addr) (x3 : Int), E2 g x0 x1 x3 ∧ n3_L Kn Ke0 Kr k x0 x1 x3 h) (fun g h hr => ?_) (fun N g h hr => ?_) N0 ⟨x0, x1, x3, hg, hS⟩
  · obtain ⟨x0, x1, x3, hg, hS⟩ := hr
    exact hS.elim
  · obtain ⟨x0, x1, x3, hg, hS⟩ := hr
    have hw : wpC none Try.prog 19 n3_c1 (Q2 (fun z0 z1 z3 h => n3_L Kn Ke0 Kr N z0 z1 z3 h) Ke0 Kr) g h := by
      obtain ⟨hg0, hg1, hg3, hds⟩ := hg
      refine wpC_of_wpx (by kernel_rfl) (by kernel_rfl) (g' := (((⟨g.v, []⟩ : Env).upd (some 0) x0).upd (some 1) (.pointer (some x1))).upd (some 3) (.int .i64 x3)) (by rw [env_ds hds, upd_self hg0, upd_self hg1, upd_self hg3]) ?_
      have e : (n3_L Kn Ke0 Kr (N + 1) x0 x1 x3 h) = wpx none Try.prog 19 n3_c1 (Q2 (fun z0 z1 z3 h => n3_L Kn Ke0 Kr N z0 z1 z3 h) Ke0 Kr) ((((⟨g.v, []⟩ : Env).upd (some 0) x0).upd (some 1) (.pointer (some x1))).upd (some 3) (.int .i64 x3)) h := by kernel_rfl
      exact e ▸ hS
    refine hw.mono ?_
    intro e g' h' hq
    cases e with
    | normal => exact D2_ok (K := (fun z0 z1 z3 h => n3_L Kn Ke0 Kr N z0 z1 z3 h)) hq
    | _ => exact hq
abbrev n2 (x0 : Value) (x1 : Addr) (x3 : Int) (Kn : T0) (Kr : T0) (h : H) : Prop := n3 x0 x1 x3 Kn Kn Kr h
theorem n2_ok (x0 : Value) (x1 : Addr) (x3 : Int) (Kn : T0) (Kr : T0) (g : Env) (hg : E2 g x0 x1 x3) (h : H) (hS : n2 x0 x1 x3 Kn Kr h) : wpC none Try.prog 19 n1_c2 (Q0 Kn Kr) g h := by
  refine wpC_block' (id := 0) (x := n2_c1) (by kernel_rfl) (n3_ok x0 x1 x3 Kn Kn Kr g hg h hS) ?_
  intro e g' h' hq
  cases e <;> exact hq
def Q3 (Kn : T2) (Kr : T0) : XPost
  | .normal, g, h => D2 Kn g h
  | .ret, g, h => D0 Kr g h
  | _, _, _ => False
abbrev n1 (x0 : Value) (x1 : Addr) (Kn : T0) (Kr : T0) (h : H) : Prop :=
  ∃ s21b s21n s21c, cell h x1 = some (.slice s21b s21n s21c) ∧ (Rng .i64 ((s21n : Int) - (1 : Int)) ∧ (n2 x0 x1 ((s21n : Int) - (1 : Int)) Kn Kr h))
theorem n1_ok (x0 : Value) (x1 : Addr) (Kn : T0) (Kr : T0) (g : Env) (hg : E1 g x0 x1) (h : H) (hS : n1 x0 x1 Kn Kr h) : wpC none Try.prog 19 code (Q0 Kn Kr) g h := by
  obtain ⟨hg0, hg1, hds⟩ := hg
  refine wpC_seq' (x := n1_c1) (y := n1_c2) (Q' := (Q3 (fun z0 z1 z3 h => n2 z0 z1 z3 Kn Kr h) Kr)) (by kernel_rfl) ?_ ?_
  · refine wpC_of_wpx (by kernel_rfl) (by kernel_rfl) (g' := ((⟨g.v, []⟩ : Env).upd (some 0) x0).upd (some 1) (.pointer (some x1))) (by rw [env_ds hds, upd_self hg0, upd_self hg1]) ?_
    have e : (n1 x0 x1 Kn Kr h) = wpx none Try.prog 19 n1_c1 (Q3 (fun z0 z1 z3 h => n2 z0 z1 z3 Kn Kr h) Kr) (((⟨g.v, []⟩ : Env).upd (some 0) x0).upd (some 1) (.pointer (some x1))) h := by kernel_rfl
    exact e ▸ hS
  · intro e g' h' hq
    cases e with
    | normal =>
      have hq : D2 (fun z0 z1 z3 h => n2 z0 z1 z3 Kn Kr h) g' h' := hq
      obtain ⟨y0, y1, y3, hg', hq⟩ := D2_ok hq
      exact n2_ok y0 y1 y3 Kn Kr g' hg' h' hq
    | _ => exact hq
/-- WHAT slices.Backward[[]tympan/api.Mark,tympan/api.Mark]$1 ASKS -/
abbrev asks (x0 : Value) (x1 : Addr) (K : Value → H → Prop) (h : H) : Prop := n1 x0 x1 (fun h => K (.tuple ⟨[]⟩) h) (fun h => K (.tuple ⟨[]⟩) h) h
theorem ok (x0 : Value) (x1 : Addr) (K : Value → H → Prop) (h : H) (hS : asks x0 x1 K h) : HCalls Try.prog 37 ⟨[x0, (.pointer (some x1))]⟩ h K := by
  refine calls_of_wpC (c := code) Try.func37 (by kernel_rfl) (Nat.le_of_ble_eq_true (by kernel_rfl)) ?_
  refine (n1_ok x0 x1 (fun h => K (.tuple ⟨[]⟩) h) (fun h => K (.tuple ⟨[]⟩) h) (env0 [x0, (.pointer (some x1))]) ⟨rfl, rfl, rfl⟩ h hS).mono ?_
  intro e g' h' hq
  cases e with
  | normal =>
    have hq : D0 (fun h => K (.tuple ⟨[]⟩) h) g' h' := hq
    obtain ⟨hd, hq⟩ := D0_ok hq
    show leaveX g'.ds h' _
    rw [hd]
    show K (.tuple ⟨[]⟩) h'
    exact hq
  | ret =>
    have hq : D0 (fun h => K (.tuple ⟨[]⟩) h) g' h' := hq
    obtain ⟨hd, hq⟩ := D0_ok hq
    show leaveX g'.ds h' _
    rw [hd]
    show K (.tuple ⟨[]⟩) h'
    exact hq
  | _ => exact hq
end Sx.slices_Backward_1_apiMark1

/-! ### slices.IndexFunc[[]tympan/api.Open,tympan/api.Open] -/
namespace Sx.slices_IndexFunc_apiOpen
noncomputable def code : Code := bodyOf Try.f38
abbrev T0 := Int → H → Prop
def E0 (g : Env) (x4 : Int) : Prop := g.v 4 = (.int .i64 x4) ∧ g.ds = []
def D0 (K : T0) (g : Env) (h : H) : Prop := nilDs g.ds (vInt .i64 (g.v 4) fun i1 => K i1 h)
theorem D0_ok {K : T0} {g : Env} {h : H} (hq : D0 K g h) : ∃ (x4 : Int), E0 g x4 ∧ K x4 h := by
  obtain ⟨hd, hq⟩ := nilDs_ok hq
  obtain ⟨y3, e2, q4⟩ := vInt_ok hq
  exact ⟨y3, ⟨e2, hd⟩, q4⟩
def Q0 (Kn : T0) (Kr : T0) : XPost
  | .normal, g, h => D0 Kn g h
  | .ret, g, h => D0 Kr g h
  | _, _, _ => False
abbrev T1 := (Option Addr) → Nat → Nat → Value → H → Prop
def E1 (g : Env) (x0b : Option Addr) (x0n : Nat) (x0c : Nat) (x1 : Value) : Prop := g.v 0 = (.slice x0b x0n x0c) ∧ g.v 1 = x1 ∧ g.ds = []
def D1 (K : T1) (g : Env) (h : H) : Prop := nilDs g.ds (vSlice (g.v 0) fun s5b s5n s5c => K s5b s5n s5c (g.v 1) h)
theorem D1_ok {K : T1} {g : Env} {h : H} (hq : D1 K g h) : ∃ (x0b : Option Addr) (x0n : Nat) (x0c : Nat) (x1 : Value), E1 g x0b x0n x0c x1 ∧ K x0b x0n x0c x1 h := by
  obtain ⟨hd, hq⟩ := nilDs_ok hq
  obtain ⟨y7b, y7n, y7c, e6, q8⟩ := vSlice_ok hq
  exact ⟨y7b, y7n, y7c, (g.v 1), ⟨e6, rfl, hd⟩, q8⟩
noncomputable def n1_c1 : Code := cFst code
noncomputable def n1_c2 : Code := cSnd code
noncomputable def n2_c1 : Code := cFst n1_c2
noncomputable def n2_c2 : Code := cSnd n1_c2
abbrev T2 := H → Prop
def E2 (g : Env)  : Prop := g.ds = []
def D2 (K : T2) (g : Env) (h : H) : Prop := nilDs g.ds (K h)
theorem D2_ok {K : T2} {g : Env} {h : H} (hq : D2 K g h) : E2 g  ∧ K  h := by
  obtain ⟨hd, hq⟩ := nilDs_ok hq
  skip
  exact ⟨hd, hq⟩
abbrev n3  (Kn : T0) (Kr : T0) (h : H) : Prop :=
  Kr (-1 : Int) h
theorem n3_ok  (Kn : T0) (Kr : T0) (g : Env) (hg : E2 g ) (h : H) (hS : n3  Kn Kr h) : wpC none Try.prog 19 n2_c2 (Q0 Kn Kr) g h := by
  have hds : g.ds = [] := hg
  refine wpC_of_wpx (by kernel_rfl) (by kernel_rfl) (g' := ⟨g.v, []⟩) (by rw [env_ds hds]) ?_
  have e : (n3  Kn Kr h) = wpx none Try.prog 19 n2_c2 (Q0 Kn Kr) (⟨g.v, []⟩) h := by kernel_rfl
  exact e ▸ hS
def Q1 (Kn : T2) (Kr : T0) : XPost
  | .normal, g, h => D2 Kn g h
  | .ret, g, h => D0 Kr g h
  | _, _, _ => False
noncomputable def n4_c1 : Code := cFst n2_c1
noncomputable def n4_c2 : Code := cSnd n2_c1
abbrev T3 := (Option Addr) → Nat → Nat → Value → Int → Int → H → Prop
def E3 (g : Env) (x0b : Option Addr) (x0n : Nat) (x0c : Nat) (x1 : Value) (x7 : Int) (x8 : Int) : Prop := g.v 0 = (.slice x0b x0n x0c) ∧ g.v 1 = x1 ∧ g.v 7 = (.int .i64 x7) ∧ g.v 8 = (.int .i64 x8) ∧ g.ds = []
def D3 (K : T3) (g : Env) (h : H) : Prop := nilDs g.ds (vSlice (g.v 0) fun s9b s9n s9c => vInt .i64 (g.v 7) fun i10 => vInt .i64 (g.v 8) fun i11 => K s9b s9n s9c (g.v 1) i10 i11 h)
theorem D3_ok {K : T3} {g : Env} {h : H} (hq : D3 K g h) : ∃ (x0b : Option Addr) (x0n : Nat) (x0c : Nat) (x1 : Value) (x7 : Int) (x8 : Int), E3 g x0b x0n x0c x1 x7 x8 ∧ K x0b x0n x0c x1 x7 x8 h := by
  obtain ⟨hd, hq⟩ := nilDs_ok hq
  obtain ⟨y13b, y13n, y13c, e12, q14⟩ := vSlice_ok hq
  obtain ⟨y16, e15, q17⟩ := vInt_ok q14
  obtain ⟨y19, e18, q20⟩ := vInt_ok q17
  exact ⟨y13b, y13n, y13c, (g.v 1), y16, y19, ⟨e12, rfl, e15, e18, hd⟩, q20⟩
noncomputable def n5_c1 : Code := cFst n4_c2
def Q2 (Kn : T2) (Ke0 : T2) (Kr : T0) : XPost
  | .normal, g, h => D2 Kn g h
  | .ret, g, h => D0 Kr g h
  | .exit id, g, h => cond (Nat.beq id 0) (D2 Ke0 g h) (False)
  | _, _, _ => False
noncomputable def n6_c1 : Code := cFst n5_c1
def Q3 (Kn : T3) (Ke0 : T2) (Kr : T0) : XPost
  | .normal, g, h => D3 Kn g h
  | .ret, g, h => D0 Kr g h
  | .exit id, g, h => cond (Nat.beq id 0) (D2 Ke0 g h) (False)
  | _, _, _ => False
def n6_L (Kn : T2) (Ke0 : T2) (Kr : T0) : Nat → (Option Addr) → Nat → Nat → Value → Int → Int → H → Prop
  | 0, _, _, _, _, _, _, _ => False
  | N + 1, x0b, x0n, x0c, x1, x7, x8, h => Spl (x8 < x7) ((0 ≤ x8 ∧ x8 < (x0n : Int)) ∧ (vSome x0b fun a21 => ∃ i22, cell h (((a21.add (Int.toNat x8 * 4))).add 0) = some (.int .i64 i22) ∧ (∃ i23, cell h (((a21.add (Int.toNat x8 * 4))).add 1) = some (.int .u8 i23) ∧ (∃ s24, cell h (((a21.add (Int.toNat x8 * 4))).add 2) = some (S s24) ∧ (∃ i25, cell h (((a21.add (Int.toNat x8 * 4))).add 3) = some (.int .u8 i25) ∧ (CallV Try.prog 4 x1 ⟨[(.agg ⟨[(.int .i64 i22), (.int .u8 i23), (S s24), (.int .u8 i25)]⟩)]⟩ h fun v26 h27 => vBool v26 fun b28 => cond b28 (Kr x8 h27) (Rng .i64 (x8 + (1 : Int)) ∧ (n6_L Kn Ke0 Kr N x0b x0n x0c x1 x7 (x8 + (1 : Int)) h27)))))))) (Ke0 h)
abbrev n6 (x0b : Option Addr) (x0n : Nat) (x0c : Nat) (x1 : Value) (x7 : Int) (x8 : Int) (Kn : T2) (Ke0 : T2) (Kr : T0) (h : H) : Prop := ∃ N, n6_L Kn Ke0 Kr N x0b x0n x0c x1 x7 x8 h
theorem n6_ok (x0b : Option Addr) (x0n : Nat) (x0c : Nat) (x1 : Value) (x7 : Int) (x8 : Int) (Kn : T2) (Ke0 : T2) (Kr : T0) (g : Env) (hg : E3 g x0b x0n x0c x1 x7 x8) (h : H) (hS : n6 x0b x0n x0c x1 x7 x8 Kn Ke0 Kr h) : wpC none Try.prog 19 n5_c1 (Q2 Kn Ke0 Kr) g h := by
  obtain ⟨N0, hS⟩ := hS
  refine wpC_loop' (x := n6_c1) (by kernel_rfl) (fun k g h => ∃ (x0b : Option Addr) (x0n : Nat) (x0c : Nat) (x1 : Value) (x7 : Int) (x8 : Int), E3 g x0b x0n x0c x1 x7 x8 ∧ n6_L Kn Ke0 Kr k x0b x0n x0c x1 x7 x8 h) (fun g h hr => ?_) (fun N g h hr => ?_) N0 ⟨x0b, x0n, x0c, x1, x7, x8, hg, hS⟩
  · obtain ⟨x0b, x0n, x0c, x1, x7, x8, hg, hS⟩ := hr
    exact hS.elim
  · obtain ⟨x0b, x0n, x0c, x1, x7, x8, hg, hS⟩ := hr
    have hw : wpC none Try.prog 19 n6_c1 (Q3 (fun z0b z0n z0c z1 z7 z8 h => n6_L Kn Ke0 Kr N z0b z0n z0c z1 z7 z8 h) Ke0 Kr) g h := by
      obtain ⟨hg0, hg1, hg7, hg8, hds⟩ := hg
      refine wpC_of_wpx (by kernel_rfl) (by kernel_rfl) (g' := ((((⟨g.v, []⟩ : Env).upd (some 0) (.slice x0b x0n x0c)).upd (some 1) x1).upd (some 7) (.int .i64 x7)).upd (some 8) (.int .i64 x8)) (by rw [env_ds hds, upd_self hg0, upd_self hg1, upd_self hg7, upd_self hg8]) ?_
      have e : (n6_L Kn Ke0 Kr (N + 1) x0b x0n x0c x1 x7 x8 h) = wpx none Try.prog 19 n6_c1 (Q3 (fun z0b z0n z0c z1 z7 z8 h => n6_L Kn Ke0 Kr N z0b z0n z0c z1 z7 z8 h) Ke0 Kr) (((((⟨g.v, []⟩ : Env).upd (some 0) (.slice x0b x0n x0c)).upd (some 1) x1).upd (some 7) (.int .i64 x7)).upd (some 8) (.int .i64 x8)) h := by kernel_rfl
      exact e ▸ hS
    refine hw.mono ?_
    intro e g' h' hq
    cases e with
    | normal => exact D3_ok (K := (fun z0b z0n z0c z1 z7 z8 h => n6_L Kn Ke0 Kr N z0b z0n z0c z1 z7 z8 h)) hq
    | _ => exact hq
abbrev n5 (x0b : Option Addr) (x0n : Nat) (x0c : Nat) (x1 : Value) (x7 : Int) (x8 : Int) (Kn : T2) (Kr : T0) (h : H) : Prop := n6 x0b x0n x0c x1 x7 x8 Kn Kn Kr h
theorem n5_ok (x0b : Option Addr) (x0n : Nat) (x0c : Nat) (x1 : Value) (x7 : Int) (x8 : Int) (Kn : T2) (Kr : T0) (g : Env) (hg : E3 g x0b x0n x0c x1 x7 x8) (h : H) (hS : n5 x0b x0n x0c x1 x7 x8 Kn Kr h) : wpC none Try.prog 19 n4_c2 (Q1 Kn Kr) g h := by
  refine wpC_block' (id := 0) (x := n5_c1) (by kernel_rfl) (n6_ok x0b x0n x0c x1 x7 x8 Kn Kn Kr g hg h hS) ?_
  intro e g' h' hq
  cases e <;> exact hq
def Q4 (Kn : T3) (Kr : T0) : XPost
  | .normal, g, h => D3 Kn g h
  | .ret, g, h => D0 Kr g h
  | _, _, _ => False
abbrev n4 (x0b : Option Addr) (x0n : Nat) (x0c : Nat) (x1 : Value) (Kn : T2) (Kr : T0) (h : H) : Prop :=
  n5 x0b x0n x0c x1 (x0n : Int) (0 : Int) Kn Kr h
theorem n4_ok (x0b : Option Addr) (x0n : Nat) (x0c : Nat) (x1 : Value) (Kn : T2) (Kr : T0) (g : Env) (hg : E1 g x0b x0n x0c x1) (h : H) (hS : n4 x0b x0n x0c x1 Kn Kr h) : wpC none Try.prog 19 n2_c1 (Q1 Kn Kr) g h := by
  obtain ⟨hg0, hg1, hds⟩ := hg
  refine wpC_seq' (x := n4_c1) (y := n4_c2) (Q' := (Q4 (fun z0b z0n z0c z1 z7 z8 h => n5 z0b z0n z0c z1 z7 z8 Kn Kr h) Kr)) (by kernel_rfl) ?_ ?_
  · refine wpC_of_wpx (by kernel_rfl) (by kernel_rfl) (g' := ((⟨g.v, []⟩ : Env).upd (some 0) (.slice x0b x0n x0c)).upd (some 1) x1) (by rw [env_ds hds, upd_self hg0, upd_self hg1]) ?_
    have e : (n4 x0b x0n x0c x1 Kn Kr h) = wpx none Try.prog 19 n4_c1 (Q4 (fun z0b z0n z0c z1 z7 z8 h => n5 z0b z0n z0c z1 z7 z8 Kn Kr h) Kr) (((⟨g.v, []⟩ : Env).upd (some 0) (.slice x0b x0n x0c)).upd (some 1) x1) h := by kernel_rfl
    exact e ▸ hS
  · intro e g' h' hq
    cases e with
    | normal =>
      have hq : D3 (fun z0b z0n z0c z1 z7 z8 h => n5 z0b z0n z0c z1 z7 z8 Kn Kr h) g' h' := hq
      obtain ⟨y0b, y0n, y0c, y1, y7, y8, hg', hq⟩ := D3_ok hq
      exact n5_ok y0b y0n y0c y1 y7 y8 Kn Kr g' hg' h' hq
    | _ => exact hq
abbrev n2 (x0b : Option Addr) (x0n : Nat) (x0c : Nat) (x1 : Value) (Kn : T0) (Kr : T0) (h : H) : Prop := n4 x0b x0n x0c x1 (fun  h => n3 Kn Kr h) Kr h
theorem n2_ok (x0b : Option Addr) (x0n : Nat) (x0c : Nat) (x1 : Value) (Kn : T0) (Kr : T0) (g : Env) (hg : E1 g x0b x0n x0c x1) (h : H) (hS : n2 x0b x0n x0c x1 Kn Kr h) : wpC none Try.prog 19 n1_c2 (Q0 Kn Kr) g h := by
  refine wpC_seq' (x := n2_c1) (y := n2_c2) (by kernel_rfl) (n4_ok x0b x0n x0c x1 (fun  h => n3 Kn Kr h) Kr g hg h hS) ?_
  intro e g' h' hq
  cases e with
  | normal =>
    have hq : D2 (fun  h => n3 Kn Kr h) g' h' := hq
    obtain ⟨hg', hq⟩ := D2_ok hq
    exact n3_ok  Kn Kr g' hg' h' hq
  | _ => exact hq
def Q5 (Kn : T1) (Kr : T0) : XPost
  | .normal, g, h => D1 Kn g h
  | .ret, g, h => D0 Kr g h
  | _, _, _ => False
abbrev n1 (x0b : Option Addr) (x0n : Nat) (x0c : Nat) (x1 : Value) (Kn : T0) (Kr : T0) (h : H) : Prop :=
  n2 x0b x0n x0c x1 Kn Kr h
theorem n1_ok (x0b : Option Addr) (x0n : Nat) (x0c : Nat) (x1 : Value) (Kn : T0) (Kr : T0) (g : Env) (hg : E1 g x0b x0n x0c x1) (h : H) (hS : n1 x0b x0n x0c x1 Kn Kr h) : wpC none Try.prog 19 code (Q0 Kn Kr) g h := by
  obtain ⟨hg0, hg1, hds⟩ := hg
  refine wpC_seq' (x := n1_c1) (y := n1_c2) (Q' := (Q5 (fun z0b z0n z0c z1 h => n2 z0b z0n z0c z1 Kn Kr h) Kr)) (by kernel_rfl) ?_ ?_
  · refine wpC_of_wpx (by kernel_rfl) (by kernel_rfl) (g' := ((⟨g.v, []⟩ : Env).upd (some 0) (.slice x0b x0n x0c)).upd (some 1) x1) (by rw [env_ds hds, upd_self hg0, upd_self hg1]) ?_
    have e : (n1 x0b x0n x0c x1 Kn Kr h) = wpx none Try.prog 19 n1_c1 (Q5 (fun z0b z0n z0c z1 h => n2 z0b z0n z0c z1 Kn Kr h) Kr) (((⟨g.v, []⟩ : Env).upd (some 0) (.slice x0b x0n x0c)).upd (some 1) x1) h := by kernel_rfl
    exact e ▸ hS
  · intro e g' h' hq
    cases e with
    | normal =>
      have hq : D1 (fun z0b z0n z0c z1 h => n2 z0b z0n z0c z1 Kn Kr h) g' h' := hq
      obtain ⟨y0b, y0n, y0c, y1, hg', hq⟩ := D1_ok hq
      exact n2_ok y0b y0n y0c y1 Kn Kr g' hg' h' hq
    | _ => exact hq
/-- WHAT slices.IndexFunc[[]tympan/api.Open,tympan/api.Open] ASKS -/
abbrev asks (x0b : Option Addr) (x0n : Nat) (x0c : Nat) (x1 : Value) (K : Value → H → Prop) (h : H) : Prop := n1 x0b x0n x0c x1 (fun y4 h => K (.int .i64 y4) h) (fun y4 h => K (.int .i64 y4) h) h
theorem ok (x0b : Option Addr) (x0n : Nat) (x0c : Nat) (x1 : Value) (K : Value → H → Prop) (h : H) (hS : asks x0b x0n x0c x1 K h) : HCalls Try.prog 38 ⟨[(.slice x0b x0n x0c), x1]⟩ h K := by
  refine calls_of_wpC (c := code) Try.func38 (by kernel_rfl) (Nat.le_of_ble_eq_true (by kernel_rfl)) ?_
  refine (n1_ok x0b x0n x0c x1 (fun y4 h => K (.int .i64 y4) h) (fun y4 h => K (.int .i64 y4) h) (env0 [(.slice x0b x0n x0c), x1]) ⟨rfl, rfl, rfl⟩ h hS).mono ?_
  intro e g' h' hq
  cases e with
  | normal =>
    have hq : D0 (fun y4 h => K (.int .i64 y4) h) g' h' := hq
    obtain ⟨y4, ⟨hg4, hd⟩, hq⟩ := D0_ok hq
    show leaveX g'.ds h' _
    rw [hd]
    show K (g'.v 4) h'
    rw [hg4]
    exact hq
  | ret =>
    have hq : D0 (fun y4 h => K (.int .i64 y4) h) g' h' := hq
    obtain ⟨y4, ⟨hg4, hd⟩, hq⟩ := D0_ok hq
    show leaveX g'.ds h' _
    rw [hd]
    show K (g'.v 4) h'
    rw [hg4]
    exact hq
  | _ => exact hq
end Sx.slices_IndexFunc_apiOpen

/-! ### slices.Index[[]tympan/api.Attr,tympan/api.Attr] -/
namespace Sx.slices_Index_apiAttr
noncomputable def code : Code := bodyOf Try.f39
abbrev T0 := Int → H → Prop
def E0 (g : Env) (x4 : Int) : Prop := g.v 4 = (.int .i64 x4) ∧ g.ds = []
def D0 (K : T0) (g : Env) (h : H) : Prop := nilDs g.ds (vInt .i64 (g.v 4) fun i1 => K i1 h)
theorem D0_ok {K : T0} {g : Env} {h : H} (hq : D0 K g h) : ∃ (x4 : Int), E0 g x4 ∧ K x4 h := by
  obtain ⟨hd, hq⟩ := nilDs_ok hq
  obtain ⟨y3, e2, q4⟩ := vInt_ok hq
  exact ⟨y3, ⟨e2, hd⟩, q4⟩
def Q0 (Kn : T0) (Kr : T0) : XPost
  | .normal, g, h => D0 Kn g h
  | .ret, g, h => D0 Kr g h
  | _, _, _ => False
abbrev T1 := (Option Addr) → Nat → Nat → (List UInt8) → (List UInt8) → H → Prop
def E1 (g : Env) (x0b : Option Addr) (x0n : Nat) (x0c : Nat) (x1_0 : List UInt8) (x1_1 : List UInt8) : Prop := g.v 0 = (.slice x0b x0n x0c) ∧ g.v 1 = (.agg ⟨[(S x1_0), (S x1_1)]⟩) ∧ g.ds = []
def D1 (K : T1) (g : Env) (h : H) : Prop := nilDs g.ds (vSlice (g.v 0) fun s5b s5n s5c => vAgg (g.v 1) fun l6 => uncons l6 fun e7 l8 => vStr e7 fun s9 => uncons l8 fun e10 l11 => vStr e10 fun s12 => unnil l11 (K s5b s5n s5c s9 s12 h))
theorem D1_ok {K : T1} {g : Env} {h : H} (hq : D1 K g h) : ∃ (x0b : Option Addr) (x0n : Nat) (x0c : Nat) (x1_0 : List UInt8) (x1_1 : List UInt8), E1 g x0b x0n x0c x1_0 x1_1 ∧ K x0b x0n x0c x1_0 x1_1 h := by
  obtain ⟨hd, hq⟩ := nilDs_ok hq
  obtain ⟨y14b, y14n, y14c, e13, q15⟩ := vSlice_ok hq
  obtain ⟨l17, e16, q18⟩ := vAgg_ok q15
  obtain ⟨u19, l20, rfl, q21⟩ := uncons_ok q18
  obtain ⟨y22, rfl, q23⟩ := vStr_ok q21
  obtain ⟨u24, l25, rfl, q26⟩ := uncons_ok q23
  obtain ⟨y27, rfl, q28⟩ := vStr_ok q26
  obtain ⟨rfl, q29⟩ := unnil_ok q28
  exact ⟨y14b, y14n, y14c, y22, y27, ⟨e13, e16, hd⟩, q29⟩
noncomputable def n1_c1 : Code := cFst code
noncomputable def n1_c2 : Code := cSnd code
abbrev T2 := (Option Addr) → Nat → Nat → Addr → H → Prop
def E2 (g : Env) (x0b : Option Addr) (x0n : Nat) (x0c : Nat) (x3 : Addr) : Prop := g.v 0 = (.slice x0b x0n x0c) ∧ g.v 3 = (.pointer (some x3)) ∧ g.ds = []
def D2 (K : T2) (g : Env) (h : H) : Prop := nilDs g.ds (vSlice (g.v 0) fun s30b s30n s30c => vAddr (g.v 3) fun a31 => K s30b s30n s30c a31 h)
theorem D2_ok {K : T2} {g : Env} {h : H} (hq : D2 K g h) : ∃ (x0b : Option Addr) (x0n : Nat) (x0c : Nat) (x3 : Addr), E2 g x0b x0n x0c x3 ∧ K x0b x0n x0c x3 h := by
  obtain ⟨hd, hq⟩ := nilDs_ok hq
  obtain ⟨y33b, y33n, y33c, e32, q34⟩ := vSlice_ok hq
  obtain ⟨y36, e35, q37⟩ := vAddr_ok q34
  exact ⟨y33b, y33n, y33c, y36, ⟨e32, e35, hd⟩, q37⟩
noncomputable def n2_c1 : Code := cFst n1_c2
noncomputable def n2_c2 : Code := cSnd n1_c2
abbrev T3 := H → Prop
def E3 (g : Env)  : Prop := g.ds = []
def D3 (K : T3) (g : Env) (h : H) : Prop := nilDs g.ds (K h)
theorem D3_ok {K : T3} {g : Env} {h : H} (hq : D3 K g h) : E3 g  ∧ K  h := by
  obtain ⟨hd, hq⟩ := nilDs_ok hq
  skip
  exact ⟨hd, hq⟩
abbrev n3  (Kn : T0) (Kr : T0) (h : H) : Prop :=
  Kr (-1 : Int) h
theorem n3_ok  (Kn : T0) (Kr : T0) (g : Env) (hg : E3 g ) (h : H) (hS : n3  Kn Kr h) : wpC none Try.prog 19 n2_c2 (Q0 Kn Kr) g h := by
  have hds : g.ds = [] := hg
  refine wpC_of_wpx (by kernel_rfl) (by kernel_rfl) (g' := ⟨g.v, []⟩) (by rw [env_ds hds]) ?_
  have e : (n3  Kn Kr h) = wpx none Try.prog 19 n2_c2 (Q0 Kn Kr) (⟨g.v, []⟩) h := by kernel_rfl
  exact e ▸ hS
def Q1 (Kn : T3) (Kr : T0) : XPost
  | .normal, g, h => D3 Kn g h
  | .ret, g, h => D0 Kr g h
  | _, _, _ => False
noncomputable def n4_c1 : Code := cFst n2_c1
noncomputable def n4_c2 : Code := cSnd n2_c1
abbrev T4 := (Option Addr) → Nat → Nat → Addr → Int → Int → H → Prop
def E4 (g : Env) (x0b : Option Addr) (x0n : Nat) (x0c : Nat) (x3 : Addr) (x7 : Int) (x8 : Int) : Prop := g.v 0 = (.slice x0b x0n x0c) ∧ g.v 3 = (.pointer (some x3)) ∧ g.v 7 = (.int .i64 x7) ∧ g.v 8 = (.int .i64 x8) ∧ g.ds = []
def D4 (K : T4) (g : Env) (h : H) : Prop := nilDs g.ds (vSlice (g.v 0) fun s38b s38n s38c => vAddr (g.v 3) fun a39 => vInt .i64 (g.v 7) fun i40 => vInt .i64 (g.v 8) fun i41 => K s38b s38n s38c a39 i40 i41 h)
theorem D4_ok {K : T4} {g : Env} {h : H} (hq : D4 K g h) : ∃ (x0b : Option Addr) (x0n : Nat) (x0c : Nat) (x3 : Addr) (x7 : Int) (x8 : Int), E4 g x0b x0n x0c x3 x7 x8 ∧ K x0b x0n x0c x3 x7 x8 h := by
  obtain ⟨hd, hq⟩ := nilDs_ok hq
  obtain ⟨y43b, y43n, y43c, e42, q44⟩ := vSlice_ok hq
  obtain ⟨y46, e45, q47⟩ := vAddr_ok q44
  obtain ⟨y49, e48, q50⟩ := vInt_ok q47
  obtain ⟨y52, e51, q53⟩ := vInt_ok q50
  exact ⟨y43b, y43n, y43c, y46, y49, y52, ⟨e42, e45, e48, e51, hd⟩, q53⟩
noncomputable def n5_c1 : Code := cFst n4_c2
def Q2 (Kn : T3) (Ke0 : T3) (Kr : T0) : XPost
  | .normal, g, h => D3 Kn g h
  | .ret, g, h => D0 Kr g h
  | .exit id, g, h => cond (Nat.beq id 0) (D3 Ke0 g h) (False)
  | _, _, _ => False
noncomputable def n6_c1 : Code := cFst n5_c1
def Q3 (Kn : T4) (Ke0 : T3) (Kr : T0) : XPost
  | .normal, g, h => D4 Kn g h
  | .ret, g, h => D0 Kr g h
  | .exit id, g, h => cond (Nat.beq id 0) (D3 Ke0 g h) (False)
  | _, _, _ => False
def n6_L (Kn : T3) (Ke0 : T3) (Kr : T0) : Nat → (Option Addr) → Nat → Nat → Addr → Int → Int → H → Prop
  | 0, _, _, _, _, _, _, _ => False
  | N + 1, x0b, x0n, x0c, x3, x7, x8, h => Spl (x8 < x7) (∃ s54, cell h ((x3).add 0) = some (S s54) ∧ (∃ s55, cell h ((x3).add 1) = some (S s55) ∧ ((0 ≤ x8 ∧ x8 < (x0n : Int)) ∧ (vSome x0b fun a56 => ∃ s57, cell h (((a56.add (Int.toNat x8 * 2))).add 0) = some (S s57) ∧ (∃ s58, cell h (((a56.add (Int.toNat x8 * 2))).add 1) = some (S s58) ∧ (SemR Try.prog (binS .eql 38 (.tmp 11) (.tmp 15) (.agg ⟨[(S s54), (S s55)]⟩) (.agg ⟨[(S s57), (S s58)]⟩)) h fun v59 => vBool v59 fun b60 => cond b60 (Kr x8 h) (Rng .i64 (x8 + (1 : Int)) ∧ (n6_L Kn Ke0 Kr N x0b x0n x0c x3 x7 (x8 + (1 : Int)) h)))))))) (Ke0 h)
abbrev n6 (x0b : Option Addr) (x0n : Nat) (x0c : Nat) (x3 : Addr) (x7 : Int) (x8 : Int) (Kn : T3) (Ke0 : T3) (Kr : T0) (h : H) : Prop := ∃ N, n6_L Kn Ke0 Kr N x0b x0n x0c x3 x7 x8 h
theorem n6_ok (x0b : Option Addr) (x0n : Nat) (x0c : Nat) (x3 : Addr) (x7 : Int) (x8 : Int) (Kn : T3) (Ke0 : T3) (Kr : T0) (g : Env) (hg : E4 g x0b x0n x0c x3 x7 x8) (h : H) (hS : n6 x0b x0n x0c x3 x7 x8 Kn Ke0 Kr h) : wpC none Try.prog 19 n5_c1 (Q2 Kn Ke0 Kr) g h := by
  obtain ⟨N0, hS⟩ := hS
  refine wpC_loop' (x := n6_c1) (by kernel_rfl) (fun k g h => ∃ (x0b : Option Addr) (x0n : Nat) (x0c : Nat) (x3 : Addr) (x7 : Int) (x8 : Int), E4 g x0b x0n x0c x3 x7 x8 ∧ n6_L Kn Ke0 Kr k x0b x0n x0c x3 x7 x8 h) (fun g h hr => ?_) (fun N g h hr => ?_) N0 ⟨x0b, x0n, x0c, x3, x7, x8, hg, hS⟩
  · obtain ⟨x0b, x0n, x0c, x3, x7, x8, hg, hS⟩ := hr
    exact hS.elim
  · obtain ⟨x0b, x0n, x0c, x3, x7, x8, hg, hS⟩ := hr
    have hw : wpC none Try.prog 19 n6_c1 (Q3 (fun z0b z0n z0c z3 z7 z8 h => n6_L Kn Ke0 Kr N z0b z0n z0c z3 z7 z8 h) Ke0 Kr) g h := by
      obtain ⟨hg0, hg3, hg7, hg8, hds⟩ := hg
      refine wpC_of_wpx (by kernel_rfl) (by kernel_rfl) (g' := ((((⟨g.v, []⟩ : Env).upd (some 0) (.slice x0b x0n x0c)).upd (some 3) (.pointer (some x3))).upd (some 7) (.int .i64 x7)).upd (some 8) (.int .i64 x8)) (by rw [env_ds hds, upd_self hg0, upd_self hg3, upd_self hg7, upd_self hg8]) ?_
      have e : (n6_L Kn Ke0 Kr (N + 1) x0b x0n x0c x3 x7 x8 h) = wpx none Try.prog 19 n6_c1 (Q3 (fun z0b z0n z0c z3 z7 z8 h => n6_L Kn Ke0 Kr N z0b z0n z0c z3 z7 z8 h) Ke0 Kr) (((((⟨g.v, []⟩ : Env).upd (some 0) (.slice x0b x0n x0c)).upd (some 3) (.pointer (some x3))).upd (some 7) (.int .i64 x7)).upd (some 8) (.int .i64 x8)) h := by kernel_rfl
      exact e ▸ hS
    refine hw.mono ?_
    intro e g' h' hq
    cases e with
    | normal => exact D4_ok (K := (fun z0b z0n z0c z3 z7 z8 h => n6_L Kn Ke0 Kr N z0b z0n z0c z3 z7 z8 h)) hq
    | _ => exact hq
abbrev n5 (x0b : Option Addr) (x0n : Nat) (x0c : Nat) (x3 : Addr) (x7 : Int) (x8 : Int) (Kn : T3) (Kr : T0) (h : H) : Prop := n6 x0b x0n x0c x3 x7 x8 Kn Kn Kr h
theorem n5_ok (x0b : Option Addr) (x0n : Nat) (x0c : Nat) (x3 : Addr) (x7 : Int) (x8 : Int) (Kn : T3) (Kr : T0) (g : Env) (hg : E4 g x0b x0n x0c x3 x7 x8) (h : H) (hS : n5 x0b x0n x0c x3 x7 x8 Kn Kr h) : wpC none Try.prog 19 n4_c2 (Q1 Kn Kr) g h := by
  refine wpC_block' (id := 0) (x := n5_c1) (by kernel_rfl) (n6_ok x0b x0n x0c x3 x7 x8 Kn Kn Kr g hg h hS) ?_
  intro e g' h' hq
  cases e <;> exact hq
def Q4 (Kn : T4) (Kr : T0) : XPost
  | .normal, g, h => D4 Kn g h
  | .ret, g, h => D0 Kr g h
  | _, _, _ => False
abbrev n4 (x0b : Option Addr) (x0n : Nat) (x0c : Nat) (x3 : Addr) (Kn : T3) (Kr : T0) (h : H) : Prop :=
  n5 x0b x0n x0c x3 (x0n : Int) (0 : Int) Kn Kr h
theorem n4_ok (x0b : Option Addr) (x0n : Nat) (x0c : Nat) (x3 : Addr) (Kn : T3) (Kr : T0) (g : Env) (hg : E2 g x0b x0n x0c x3) (h : H) (hS : n4 x0b x0n x0c x3 Kn Kr h) : wpC none Try.prog 19 n2_c1 (Q1 Kn Kr) g h := by
  obtain ⟨hg0, hg3, hds⟩ := hg
  refine wpC_seq' (x := n4_c1) (y := n4_c2) (Q' := (Q4 (fun z0b z0n z0c z3 z7 z8 h => n5 z0b z0n z0c z3 z7 z8 Kn Kr h) Kr)) (by kernel_rfl) ?_ ?_
  · refine wpC_of_wpx (by kernel_rfl) (by kernel_rfl) (g' := ((⟨g.v, []⟩ : Env).upd (some 0) (.slice x0b x0n x0c)).upd (some 3) (.pointer (some x3))) (by rw [env_ds hds, upd_self hg0, upd_self hg3]) ?_
    have e : (n4 x0b x0n x0c x3 Kn Kr h) = wpx none Try.prog 19 n4_c1 (Q4 (fun z0b z0n z0c z3 z7 z8 h => n5 z0b z0n z0c z3 z7 z8 Kn Kr h) Kr) (((⟨g.v, []⟩ : Env).upd (some 0) (.slice x0b x0n x0c)).upd (some 3) (.pointer (some x3))) h := by kernel_rfl
    exact e ▸ hS
  · intro e g' h' hq
    cases e with
    | normal =>
      have hq : D4 (fun z0b z0n z0c z3 z7 z8 h => n5 z0b z0n z0c z3 z7 z8 Kn Kr h) g' h' := hq
      obtain ⟨y0b, y0n, y0c, y3, y7, y8, hg', hq⟩ := D4_ok hq
      exact n5_ok y0b y0n y0c y3 y7 y8 Kn Kr g' hg' h' hq
    | _ => exact hq
abbrev n2 (x0b : Option Addr) (x0n : Nat) (x0c : Nat) (x3 : Addr) (Kn : T0) (Kr : T0) (h : H) : Prop := n4 x0b x0n x0c x3 (fun  h => n3 Kn Kr h) Kr h
theorem n2_ok (x0b : Option Addr) (x0n : Nat) (x0c : Nat) (x3 : Addr) (Kn : T0) (Kr : T0) (g : Env) (hg : E2 g x0b x0n x0c x3) (h : H) (hS : n2 x0b x0n x0c x3 Kn Kr h) : wpC none Try.prog 19 n1_c2 (Q0 Kn Kr) g h := by
  refine wpC_seq' (x := n2_c1) (y := n2_c2) (by kernel_rfl) (n4_ok x0b x0n x0c x3 (fun  h => n3 Kn Kr h) Kr g hg h hS) ?_
  intro e g' h' hq
  cases e with
  | normal =>
    have hq : D3 (fun  h => n3 Kn Kr h) g' h' := hq
    obtain ⟨hg', hq⟩ := D3_ok hq
    exact n3_ok  Kn Kr g' hg' h' hq
  | _ => exact hq
def Q5 (Kn : T2) (Kr : T0) : XPost
  | .normal, g, h => D2 Kn g h
  | .ret, g, h => D0 Kr g h
  | _, _, _ => False
abbrev n1 (x0b : Option Addr) (x0n : Nat) (x0c : Nat) (x1_0 : List UInt8) (x1_1 : List UInt8) (Kn : T0) (Kr : T0) (h : H) : Prop :=
  newx h ⟨[(S x1_0), (S x1_1)]⟩ 38 fun a61 h62 => n2 x0b x0n x0c a61 Kn Kr h62
theorem n1_ok (x0b : Option Addr) (x0n : Nat) (x0c : Nat) (x1_0 : List UInt8) (x1_1 : List UInt8) (Kn : T0) (Kr : T0) (g : Env) (hg : E1 g x0b x0n x0c x1_0 x1_1) (h : H) (hS : n1 x0b x0n x0c x1_0 x1_1 Kn Kr h) : wpC none Try.prog 19 code (Q0 Kn Kr) g h := by
  obtain ⟨hg0, hg1, hds⟩ := hg
  refine wpC_seq' (x := n1_c1) (y := n1_c2) (Q' := (Q5 (fun z0b z0n z0c z3 h => n2 z0b z0n z0c z3 Kn Kr h) Kr)) (by kernel_rfl) ?_ ?_
  · refine wpC_of_wpx (by kernel_rfl) (by kernel_rfl) (g' := ((⟨g.v, []⟩ : Env).upd (some 0) (.slice x0b x0n x0c)).upd (some 1) (.agg ⟨[(S x1_0), (S x1_1)]⟩)) (by rw [env_ds hds, upd_self hg0, upd_self hg1]) ?_
    have e : (n1 x0b x0n x0c x1_0 x1_1 Kn Kr h) = wpx none Try.prog 19 n1_c1 (Q5 (fun z0b z0n z0c z3 h => n2 z0b z0n z0c z3 Kn Kr h) Kr) (((⟨g.v, []⟩ : Env).upd (some 0) (.slice x0b x0n x0c)).upd (some 1) (.agg ⟨[(S x1_0), (S x1_1)]⟩)) h := by kernel_rfl
    exact e ▸ hS
  · intro e g' h' hq
    cases e with
    | normal =>
      have hq : D2 (fun z0b z0n z0c z3 h => n2 z0b z0n z0c z3 Kn Kr h) g' h' := hq
      obtain ⟨y0b, y0n, y0c, y3, hg', hq⟩ := D2_ok hq
      exact n2_ok y0b y0n y0c y3 Kn Kr g' hg' h' hq
    | _ => exact hq
/-- WHAT slices.Index[[]tympan/api.Attr,tympan/api.Attr] ASKS -/
abbrev asks (x0b : Option Addr) (x0n : Nat) (x0c : Nat) (x1_0 : List UInt8) (x1_1 : List UInt8) (K : Value → H → Prop) (h : H) : Prop := n1 x0b x0n x0c x1_0 x1_1 (fun y4 h => K (.int .i64 y4) h) (fun y4 h => K (.int .i64 y4) h) h
theorem ok (x0b : Option Addr) (x0n : Nat) (x0c : Nat) (x1_0 : List UInt8) (x1_1 : List UInt8) (K : Value → H → Prop) (h : H) (hS : asks x0b x0n x0c x1_0 x1_1 K h) : HCalls Try.prog 39 ⟨[(.slice x0b x0n x0c), (.agg ⟨[(S x1_0), (S x1_1)]⟩)]⟩ h K := by
  refine calls_of_wpC (c := code) Try.func39 (by kernel_rfl) (Nat.le_of_ble_eq_true (by kernel_rfl)) ?_
  refine (n1_ok x0b x0n x0c x1_0 x1_1 (fun y4 h => K (.int .i64 y4) h) (fun y4 h => K (.int .i64 y4) h) (env0 [(.slice x0b x0n x0c), (.agg ⟨[(S x1_0), (S x1_1)]⟩)]) ⟨rfl, rfl, rfl⟩ h hS).mono ?_
  intro e g' h' hq
  cases e with
  | normal =>
    have hq : D0 (fun y4 h => K (.int .i64 y4) h) g' h' := hq
    obtain ⟨y4, ⟨hg4, hd⟩, hq⟩ := D0_ok hq
    show leaveX g'.ds h' _
    rw [hd]
    show K (g'.v 4) h'
    rw [hg4]
    exact hq
  | ret =>
    have hq : D0 (fun y4 h => K (.int .i64 y4) h) g' h' := hq
    obtain ⟨y4, ⟨hg4, hd⟩, hq⟩ := D0_ok hq
    show leaveX g'.ds h' _
    rw [hd]
    show K (g'.v 4) h'
    rw [hg4]
    exact hq
  | _ => exact hq
end Sx.slices_Index_apiAttr

/-! ### slices.IndexFunc[[]tympan/api.Attr,tympan/api.Attr] -/
namespace Sx.slices_IndexFunc_apiAttr
noncomputable def code : Code := bodyOf Try.f40
abbrev T0 := Int → H → Prop
def E0 (g : Env) (x4 : Int) : Prop := g.v 4 = (.int .i64 x4) ∧ g.ds = []
def D0 (K : T0) (g : Env) (h : H) : Prop := nilDs g.ds (vInt .i64 (g.v 4) fun i1 => K i1 h)
theorem D0_ok {K : T0} {g : Env} {h : H} (hq : D0 K g h) : ∃ (x4 : Int), E0 g x4 ∧ K x4 h := by
  obtain ⟨hd, hq⟩ := nilDs_ok hq
  obtain ⟨y3, e2, q4⟩ := vInt_ok hq
  exact ⟨y3, ⟨e2, hd⟩, q4⟩
def Q0 (Kn : T0) (Kr : T0) : XPost
  | .normal, g, h => D0 Kn g h
  | .ret, g, h => D0 Kr g h
  | _, _, _ => False
abbrev T1 := (Option Addr) → Nat → Nat → Value → H → Prop
def E1 (g : Env) (x0b : Option Addr) (x0n : Nat) (x0c : Nat) (x1 : Value) : Prop := g.v 0 = (.slice x0b x0n x0c) ∧ g.v 1 = x1 ∧ g.ds = []
def D1 (K : T1) (g : Env) (h : H) : Prop := nilDs g.ds (vSlice (g.v 0) fun s5b s5n s5c => K s5b s5n s5c (g.v 1) h)
theorem D1_ok {K : T1} {g : Env} {h : H} (hq : D1 K g h) : ∃ (x0b : Option Addr) (x0n : Nat) (x0c : Nat) (x1 : Value), E1 g x0b x0n x0c x1 ∧ K x0b x0n x0c x1 h := by
  obtain ⟨hd, hq⟩ := nilDs_ok hq
  obtain ⟨y7b, y7n, y7c, e6, q8⟩ := vSlice_ok hq
  exact ⟨y7b, y7n, y7c, (g.v 1), ⟨e6, rfl, hd⟩, q8⟩
noncomputable def n1_c1 : Code := cFst code
noncomputable def n1_c2 : Code := cSnd code
noncomputable def n2_c1 : Code := cFst n1_c2
noncomputable def n2_c2 : Code := cSnd n1_c2
abbrev T2 := H → Prop
def E2 (g : Env)  : Prop := g.ds = []
def D2 (K : T2) (g : Env) (h : H) : Prop := nilDs g.ds (K h)
theorem D2_ok {K : T2} {g : Env} {h : H} (hq : D2 K g h) : E2 g  ∧ K  h := by
  obtain ⟨hd, hq⟩ := nilDs_ok hq
  skip
  exact ⟨hd, hq⟩
abbrev n3  (Kn : T0) (Kr : T0) (h : H) : Prop :=
  Kr (-1 : Int) h
theorem n3_ok  (Kn : T0) (Kr : T0) (g : Env) (hg : E2 g ) (h : H) (hS : n3  Kn Kr h) : wpC none Try.prog 19 n2_c2 (Q0 Kn Kr) g h := by
  have hds : g.ds = [] := hg
  refine wpC_of_wpx (by kernel_rfl) (by kernel_rfl) (g' := ⟨g.v, []⟩) (by rw [env_ds hds]) ?_
  have e : (n3  Kn Kr h) = wpx none Try.prog 19 n2_c2 (Q0 Kn Kr) (⟨g.v, []⟩) h := by kernel_rfl
  exact e ▸ hS
def Q1 (Kn : T2) (Kr : T0) : XPost
  | .normal, g, h => D2 Kn g h
  | .ret, g, h => D0 Kr g h
  | _, _, _ => False
noncomputable def n4_c1 : Code := cFst n2_c1
noncomputable def n4_c2 : Code := cSnd n2_c1
abbrev T3 := (Option Addr) → Nat → Nat → Value → Int → Int → H → Prop
def E3 (g : Env) (x0b : Option Addr) (x0n : Nat) (x0c : Nat) (x1 : Value) (x7 : Int) (x8 : Int) : Prop := g.v 0 = (.slice x0b x0n x0c) ∧ g.v 1 = x1 ∧ g.v 7 = (.int .i64 x7) ∧ g.v 8 = (.int .i64 x8) ∧ g.ds = []
def D3 (K : T3) (g : Env) (h : H) : Prop := nilDs g.ds (vSlice (g.v 0) fun s9b s9n s9c => vInt .i64 (g.v 7) fun i10 => vInt .i64 (g.v 8) fun i11 => K s9b s9n s9c (g.v 1) i10 i11 h)
theorem D3_ok {K : T3} {g : Env} {h : H} (hq : D3 K g h) : ∃ (x0b : Option Addr) (x0n : Nat) (x0c : Nat) (x1 : Value) (x7 : Int) (x8 : Int), E3 g x0b x0n x0c x1 x7 x8 ∧ K x0b x0n x0c x1 x7 x8 h := by
  obtain ⟨hd, hq⟩ := nilDs_ok hq
  obtain ⟨y13b, y13n, y13c, e12, q14⟩ := vSlice_ok hq
  obtain ⟨y16, e15, q17⟩ := vInt_ok q14
  obtain ⟨y19, e18, q20⟩ := vInt_ok q17
  exact ⟨y13b, y13n, y13c, (g.v 1), y16, y19, ⟨e12, rfl, e15, e18, hd⟩, q20⟩
noncomputable def n5_c1 : Code := cFst n4_c2
def Q2 (Kn : T2) (Ke0 : T2) (Kr : T0) : XPost
  | .normal, g, h => D2 Kn g h
  | .ret, g, h => D0 Kr g h
  | .exit id, g, h => cond (Nat.beq id 0) (D2 Ke0 g h) (False)
  | _, _, _ => False
noncomputable def n6_c1 : Code := cFst n5_c1
def Q3 (Kn : T3) (Ke0 : T2) (Kr : T0) : XPost
  | .normal, g, h => D3 Kn g h
  | .ret, g, h => D0 Kr g h
  | .exit id, g, h => cond (Nat.beq id 0) (D2 Ke0 g h) (False)
  | _, _, _ => False
def n6_L (Kn : T2) (Ke0 : T2) (Kr : T0) : Nat → (Option Addr) → Nat → Nat → Value → Int → Int → H → Prop
  | 0, _, _, _, _, _, _, _ => False
  | N + 1, x0b, x0n, x0c, x1, x7, x8, h => Spl (x8 < x7) ((0 ≤ x8 ∧ x8 < (x0n : Int)) ∧ (vSome x0b fun a21 => ∃ s22, cell h (((a21.add (Int.toNat x8 * 2))).add 0) = some (S s22) ∧ (∃ s23, cell h (((a21.add (Int.toNat x8 * 2))).add 1) = some (S s23) ∧ (CallV Try.prog 4 x1 ⟨[(.agg ⟨[(S s22), (S s23)]⟩)]⟩ h fun v24 h25 => vBool v24 fun b26 => cond b26 (Kr x8 h25) (Rng .i64 (x8 + (1 : Int)) ∧ (n6_L Kn Ke0 Kr N x0b x0n x0c x1 x7 (x8 + (1 : Int)) h25)))))) (Ke0 h)
abbrev n6 (x0b : Option Addr) (x0n : Nat) (x0c : Nat) (x1 : Value) (x7 : Int) (x8 : Int) (Kn : T2) (Ke0 : T2) (Kr : T0) (h : H) : Prop := ∃ N, n6_L Kn Ke0 Kr N x0b x0n x0c x1 x7 x8 h
theorem n6_ok (x0b : Option Addr) (x0n : Nat) (x0c : Nat) (x1 : Value) (x7 : Int) (x8 : Int) (Kn : T2) (Ke0 : T2) (Kr : T0) (g : Env) (hg : E3 g x0b x0n x0c x1 x7 x8) (h : H) (hS : n6 x0b x0n x0c x1 x7 x8 Kn Ke0 Kr h) : wpC none Try.prog 19 n5_c1 (Q2 Kn Ke0 Kr) g h := by
  obtain ⟨N0, hS⟩ := hS
  refine wpC_loop' (x := n6_c1) (by kernel_rfl) (fun k g h => ∃ (x0b : Option Addr) (x0n : Nat) (x0c : Nat) (x1 : Value) (x7 : Int) (x8 : Int), E3 g x0b x0n x0c x1 x7 x8 ∧ n6_L Kn Ke0 Kr k x0b x0n x0c x1 x7 x8 h) (fun g h hr => ?_) (fun N g h hr => ?_) N0 ⟨x0b, x0n, x0c, x1, x7, x8, hg, hS⟩
  · obtain ⟨x0b, x0n, x0c, x1, x7, x8, hg, hS⟩ := hr
    exact hS.elim
  · obtain ⟨x0b, x0n, x0c, x1, x7, x8, hg, hS⟩ := hr
    have hw : wpC none Try.prog 19 n6_c1 (Q3 (fun z0b z0n z0c z1 z7 z8 h => n6_L Kn Ke0 Kr N z0b z0n z0c z1 z7 z8 h) Ke0 Kr) g h := by
      obtain ⟨hg0, hg1, hg7, hg8, hds⟩ := hg
      refine wpC_of_wpx (by kernel_rfl) (by kernel_rfl) (g' := ((((⟨g.v, []⟩ : Env).upd (some 0) (.slice x0b x0n x0c)).upd (some 1) x1).upd (some 7) (.int .i64 x7)).upd (some 8) (.int .i64 x8)) (by rw [env_ds hds, upd_self hg0, upd_self hg1, upd_self hg7, upd_self hg8]) ?_
      have e : (n6_L Kn Ke0 Kr (N + 1) x0b x0n x0c x1 x7 x8 h) = wpx none Try.prog 19 n6_c1 (Q3 (fun z0b z0n z0c z1 z7 z8 h => n6_L Kn Ke0 Kr N z0b z0n z0c z1 z7 z8 h) Ke0 Kr) (((((⟨g.v, []⟩ : Env).upd (some 0) (.slice x0b x0n x0c)).upd (some 1) x1).upd (some 7) (.int .i64 x7)).upd (some 8) (.int .i64 x8)) h := by kernel_rfl
      exact e ▸ hS
    refine hw.mono ?_
    intro e g' h' hq
    cases e with
    | normal => exact D3_ok (K := (fun z0b z0n z0c z1 z7 z8 h => n6_L Kn Ke0 Kr N z0b z0n z0c z1 z7 z8 h)) hq
    | _ => exact hq
abbrev n5 (x0b : Option Addr) (x0n : Nat) (x0c : Nat) (x1 : Value) (x7 : Int) (x8 : Int) (Kn : T2) (Kr : T0) (h : H) : Prop := n6 x0b x0n x0c x1 x7 x8 Kn Kn Kr h
theorem n5_ok (x0b : Option Addr) (x0n : Nat) (x0c : Nat) (x1 : Value) (x7 : Int) (x8 : Int) (Kn : T2) (Kr : T0) (g : Env) (hg : E3 g x0b x0n x0c x1 x7 x8) (h : H) (hS : n5 x0b x0n x0c x1 x7 x8 Kn Kr h) : wpC none Try.prog 19 n4_c2 (Q1 Kn Kr) g h := by
  refine wpC_block' (id := 0) (x := n5_c1) (by kernel_rfl) (n6_ok x0b x0n x0c x1 x7 x8 Kn Kn Kr g hg h hS) ?_
  intro e g' h' hq
  cases e <;> exact hq
def Q4 (Kn : T3) (Kr : T0) : XPost
  | .normal, g, h => D3 Kn g h
  | .ret, g, h => D0 Kr g h
  | _, _, _ => False
abbrev n4 (x0b : Option Addr) (x0n : Nat) (x0c : Nat) (x1 : Value) (Kn : T2) (Kr : T0) (h : H) : Prop :=
  n5 x0b x0n x0c x1 (x0n : Int) (0 : Int) Kn Kr h
theorem n4_ok (x0b : Option Addr) (x0n : Nat) (x0c : Nat) (x1 : Value) (Kn : T2) (Kr : T0) (g : Env) (hg : E1 g x0b x0n x0c x1) (h : H) (hS : n4 x0b x0n x0c x1 Kn Kr h) : wpC none Try.prog 19 n2_c1 (Q1 Kn Kr) g h := by
  obtain ⟨hg0, hg1, hds⟩ := hg
  refine wpC_seq' (x := n4_c1) (y := n4_c2) (Q' := (Q4 (fun z0b z0n z0c z1 z7 z8 h => n5 z0b z0n z0c z1 z7 z8 Kn Kr h) Kr)) (by kernel_rfl) ?_ ?_
  · refine wpC_of_wpx (by kernel_rfl) (by kernel_rfl) (g' := ((⟨g.v, []⟩ : Env).upd (some 0) (.slice x0b x0n x0c)).upd (some 1) x1) (by rw [env_ds hds, upd_self hg0, upd_self hg1]) ?_
    have e : (n4 x0b x0n x0c x1 Kn Kr h) = wpx none Try.prog 19 n4_c1 (Q4 (fun z0b z0n z0c z1 z7 z8 h => n5 z0b z0n z0c z1 z7 z8 Kn Kr h) Kr) (((⟨g.v, []⟩ : Env).upd (some 0) (.slice x0b x0n x0c)).upd (some 1) x1) h := by kernel_rfl
    exact e ▸ hS
  · intro e g' h' hq
    cases e with
    | normal =>
      have hq : D3 (fun z0b z0n z0c z1 z7 z8 h => n5 z0b z0n z0c z1 z7 z8 Kn Kr h) g' h' := hq
      obtain ⟨y0b, y0n, y0c, y1, y7, y8, hg', hq⟩ := D3_ok hq
      exact n5_ok y0b y0n y0c y1 y7 y8 Kn Kr g' hg' h' hq
    | _ => exact hq
abbrev n2 (x0b : Option Addr) (x0n : Nat) (x0c : Nat) (x1 : Value) (Kn : T0) (Kr : T0) (h : H) : Prop := n4 x0b x0n x0c x1 (fun  h => n3 Kn Kr h) Kr h
theorem n2_ok (x0b : Option Addr) (x0n : Nat) (x0c : Nat) (x1 : Value) (Kn : T0) (Kr : T0) (g : Env) (hg : E1 g x0b x0n x0c x1) (h : H) (hS : n2 x0b x0n x0c x1 Kn Kr h) : wpC none Try.prog 19 n1_c2 (Q0 Kn Kr) g h := by
  refine wpC_seq' (x := n2_c1) (y := n2_c2) (by kernel_rfl) (n4_ok x0b x0n x0c x1 (fun  h => n3 Kn Kr h) Kr g hg h hS) ?_
  intro e g' h' hq
  cases e with
  | normal =>
    have hq : D2 (fun  h => n3 Kn Kr h) g' h' := hq
    obtain ⟨hg', hq⟩ := D2_ok hq
    exact n3_ok  Kn Kr g' hg' h' hq
  | _ => exact hq
def Q5 (Kn : T1) (Kr : T0) : XPost
  | .normal, g, h => D1 Kn g h
  | .ret, g, h => D0 Kr g h
  | _, _, _ => False
abbrev n1 (x0b : Option Addr) (x0n : Nat) (x0c : Nat) (x1 : Value) (Kn : T0) (Kr : T0) (h : H) : Prop :=
  n2 x0b x0n x0c x1 Kn Kr h
theorem n1_ok (x0b : Option Addr) (x0n : Nat) (x0c : Nat) (x1 : Value) (Kn : T0) (Kr : T0) (g : Env) (hg : E1 g x0b x0n x0c x1) (h : H) (hS : n1 x0b x0n x0c x1 Kn Kr h) : wpC none Try.prog 19 code (Q0 Kn Kr) g h := by
  obtain ⟨hg0, hg1, hds⟩ := hg
  refine wpC_seq' (x := n1_c1) (y := n1_c2) (Q' := (Q5 (fun z0b z0n z0c z1 h => n2 z0b z0n z0c z1 Kn Kr h) Kr)) (by kernel_rfl) ?_ ?_
  · refine wpC_of_wpx (by kernel_rfl) (by kernel_rfl) (g' := ((⟨g.v, []⟩ : Env).upd (some 0) (.slice x0b x0n x0c)).upd (some 1) x1) (by rw [env_ds hds, upd_self hg0, upd_self hg1]) ?_
    have e : (n1 x0b x0n x0c x1 Kn Kr h) = wpx none Try.prog 19 n1_c1 (Q5 (fun z0b z0n z0c z1 h => n2 z0b z0n z0c z1 Kn Kr h) Kr) (((⟨g.v, []⟩ : Env).upd (some 0) (.slice x0b x0n x0c)).upd (some 1) x1) h := by kernel_rfl
    exact e ▸ hS
  · intro e g' h' hq
    cases e with
    | normal =>
      have hq : D1 (fun z0b z0n z0c z1 h => n2 z0b z0n z0c z1 Kn Kr h) g' h' := hq
      obtain ⟨y0b, y0n, y0c, y1, hg', hq⟩ := D1_ok hq
      exact n2_ok y0b y0n y0c y1 Kn Kr g' hg' h' hq
    | _ => exact hq
/-- WHAT slices.IndexFunc[[]tympan/api.Attr,tympan/api.Attr] ASKS -/
abbrev asks (x0b : Option Addr) (x0n : Nat) (x0c : Nat) (x1 : Value) (K : Value → H → Prop) (h : H) : Prop := n1 x0b x0n x0c x1 (fun y4 h => K (.int .i64 y4) h) (fun y4 h => K (.int .i64 y4) h) h
theorem ok (x0b : Option Addr) (x0n : Nat) (x0c : Nat) (x1 : Value) (K : Value → H → Prop) (h : H) (hS : asks x0b x0n x0c x1 K h) : HCalls Try.prog 40 ⟨[(.slice x0b x0n x0c), x1]⟩ h K := by
  refine calls_of_wpC (c := code) Try.func40 (by kernel_rfl) (Nat.le_of_ble_eq_true (by kernel_rfl)) ?_
  refine (n1_ok x0b x0n x0c x1 (fun y4 h => K (.int .i64 y4) h) (fun y4 h => K (.int .i64 y4) h) (env0 [(.slice x0b x0n x0c), x1]) ⟨rfl, rfl, rfl⟩ h hS).mono ?_
  intro e g' h' hq
  cases e with
  | normal =>
    have hq : D0 (fun y4 h => K (.int .i64 y4) h) g' h' := hq
    obtain ⟨y4, ⟨hg4, hd⟩, hq⟩ := D0_ok hq
    show leaveX g'.ds h' _
    rw [hd]
    show K (g'.v 4) h'
    rw [hg4]
    exact hq
  | ret =>
    have hq : D0 (fun y4 h => K (.int .i64 y4) h) g' h' := hq
    obtain ⟨y4, ⟨hg4, hd⟩, hq⟩ := D0_ok hq
    show leaveX g'.ds h' _
    rw [hd]
    show K (g'.v 4) h'
    rw [hg4]
    exact hq
  | _ => exact hq
end Sx.slices_IndexFunc_apiAttr
end Go.Proofs
