/- The shallow forms of functions, printed by sh.py out of the translation; each with its proof. No condition. -/
import Derived.Test.YtgkaebhnamcfkaaShJ
import Derived.Test.YtgkaebhnamcfkaaProg
namespace Go.Proofs
open Go Go.Sh
set_option linter.unusedVariables false
set_option maxRecDepth 100000

/-! ### tympan/tympanref10.New -/
namespace Sx.r10_New
noncomputable def code : Code := bodyOf Try.f17
abbrev T0 := (Option Addr) → H → Prop
def E0 (g : Env) (x0 : Option Addr) : Prop := g.v 0 = (.pointer x0) ∧ g.ds = []
def D0 (K : T0) (g : Env) (h : H) : Prop := nilDs g.ds (vPtr (g.v 0) fun p1 => K p1 h)
theorem D0_ok {K : T0} {g : Env} {h : H} (hq : D0 K g h) : ∃ (x0 : Option Addr), E0 g x0 ∧ K x0 h := by
  obtain ⟨hd, hq⟩ := nilDs_ok hq
  obtain ⟨y3, e2, q4⟩ := vPtr_ok hq
  exact ⟨y3, ⟨e2, hd⟩, q4⟩
def Q0 (Kn : T0) (Kr : T0) : XPost
  | .normal, g, h => D0 Kn g h
  | .ret, g, h => D0 Kr g h
  | _, _, _ => False
abbrev T1 := H → Prop
def E1 (g : Env)  : Prop := g.ds = []
def D1 (K : T1) (g : Env) (h : H) : Prop := nilDs g.ds (K h)
theorem D1_ok {K : T1} {g : Env} {h : H} (hq : D1 K g h) : E1 g  ∧ K  h := by
  obtain ⟨hd, hq⟩ := nilDs_ok hq
  skip
  exact ⟨hd, hq⟩
abbrev n1  (Kn : T0) (Kr : T0) (h : H) : Prop :=
  newx h #[(.int .u8 (0 : Int)), (.int .u8 (0 : Int)), (S ([] : List UInt8)), (.slice none 0 0), (S ([] : List UInt8)), (.slice none 0 0), (.int .i64 (-1 : Int)), (.slice none 0 0)] 65 fun a5 h6 => newx h6 ⟨[(.slice (some a5) 1 1)]⟩ 68 fun a7 h8 => Kr (some a7) h8
theorem n1_ok  (Kn : T0) (Kr : T0) (g : Env) (hg : E1 g ) (h : H) (hS : n1  Kn Kr h) : wpC none Try.prog 5 code (Q0 Kn Kr) g h := by
  have hds : g.ds = [] := hg
  refine wpC_of_wpx (by kernel_rfl) (by kernel_rfl) (g' := ⟨g.v, []⟩) (by rw [env_ds hds]) ?_
  have e : (n1  Kn Kr h) = wpx none Try.prog 5 code (Q0 Kn Kr) (⟨g.v, []⟩) h := by kernel_rfl
  exact e ▸ hS
/-- WHAT tympan/tympanref10.New ASKS -/
abbrev asks  (K : Value → H → Prop) (h : H) : Prop := n1  (fun y0 h => K (.pointer y0) h) (fun y0 h => K (.pointer y0) h) h
theorem ok  (K : Value → H → Prop) (h : H) (hS : asks  K h) : HCalls Try.prog 17 ⟨[]⟩ h K := by
  refine calls_of_wpC (c := code) Try.func17 (by kernel_rfl) (Nat.le_of_ble_eq_true (by kernel_rfl)) ?_
  refine (n1_ok  (fun y0 h => K (.pointer y0) h) (fun y0 h => K (.pointer y0) h) (env0 []) rfl h hS).mono ?_
  intro e g' h' hq
  cases e with
  | normal =>
    have hq : D0 (fun y0 h => K (.pointer y0) h) g' h' := hq
    obtain ⟨y0, ⟨hg0, hd⟩, hq⟩ := D0_ok hq
    show leaveX g'.ds h' _
    rw [hd]
    show K (g'.v 0) h'
    rw [hg0]
    exact hq
  | ret =>
    have hq : D0 (fun y0 h => K (.pointer y0) h) g' h' := hq
    obtain ⟨y0, ⟨hg0, hd⟩, hq⟩ := D0_ok hq
    show leaveX g'.ds h' _
    rw [hd]
    show K (g'.v 0) h'
    rw [hg0]
    exact hq
  | _ => exact hq
end Sx.r10_New

/-! ### (*tympan/tympanref10.Tree).Make -/
namespace Sx.r10_Tree_Make
noncomputable def code : Code := bodyOf Try.f18
abbrev T0 := Int → H → Prop
def E0 (g : Env) (x4 : Int) : Prop := g.v 4 = (.int .i64 x4) ∧ g.ds = []
def D0 (K : T0) (g : Env) (h : H) : Prop := nilDs g.ds (vInt .i64 (g.v 4) fun i1 => K i1 h)
theorem D0_ok {K : T0} {g : Env} {h : H} (hq : D0 K g h) : ∃ (x4 : Int), E0 g x4 ∧ K x4 h := by
  obtain ⟨hd, hq⟩ := nilDs_ok hq
  obtain ⟨y3, e2, q4⟩ := vInt_ok hq
  exact ⟨y3, ⟨e2, hd⟩, q4⟩
def Q0 (Kn : T0) (Kr : T0) : XPost
  | .normal, g, h => D0 Kn g h
  | .ret, g, h => D0 Kr g h
  | _, _, _ => False
abbrev T1 := (Option Addr) → Int → Int → (List UInt8) → (Option Addr) → Nat → Nat → (List UInt8) → (Option Addr) → Nat → Nat → H → Prop
def E1 (g : Env) (x0 : Option Addr) (x1_0 : Int) (x1_1 : Int) (x1_2 : List UInt8) (x1_3b : Option Addr) (x1_3n : Nat) (x1_3c : Nat) (x1_4 : List UInt8) (x1_5b : Option Addr) (x1_5n : Nat) (x1_5c : Nat) : Prop := g.v 0 = (.pointer x0) ∧ g.v 1 = (.agg ⟨[(.int .u8 x1_0), (.int .u8 x1_1), (S x1_2), (.slice x1_3b x1_3n x1_3c), (S x1_4), (.slice x1_5b x1_5n x1_5c)]⟩) ∧ g.ds = []
def D1 (K : T1) (g : Env) (h : H) : Prop := nilDs g.ds (vPtr (g.v 0) fun p5 => vAgg (g.v 1) fun l6 => uncons l6 fun e7 l8 => vInt .u8 e7 fun i9 => uncons l8 fun e10 l11 => vInt .u8 e10 fun i12 => uncons l11 fun e13 l14 => vStr e13 fun s15 => uncons l14 fun e16 l17 => vSlice e16 fun s18b s18n s18c => uncons l17 fun e19 l20 => vStr e19 fun s21 => uncons l20 fun e22 l23 => vSlice e22 fun s24b s24n s24c => unnil l23 (K p5 i9 i12 s15 s18b s18n s18c s21 s24b s24n s24c h))
theorem D1_ok {K : T1} {g : Env} {h : H} (hq : D1 K g h) : ∃ (x0 : Option Addr) (x1_0 : Int) (x1_1 : Int) (x1_2 : List UInt8) (x1_3b : Option Addr) (x1_3n : Nat) (x1_3c : Nat) (x1_4 : List UInt8) (x1_5b : Option Addr) (x1_5n : Nat) (x1_5c : Nat), E1 g x0 x1_0 x1_1 x1_2 x1_3b x1_3n x1_3c x1_4 x1_5b x1_5n x1_5c ∧ K x0 x1_0 x1_1 x1_2 x1_3b x1_3n x1_3c x1_4 x1_5b x1_5n x1_5c h := by
  obtain ⟨hd, hq⟩ := nilDs_ok hq
  obtain ⟨y26, e25, q27⟩ := vPtr_ok hq
  obtain ⟨l29, e28, q30⟩ := vAgg_ok q27
  obtain ⟨u31, l32, rfl, q33⟩ := uncons_ok q30
  obtain ⟨y34, rfl, q35⟩ := vInt_ok q33
  obtain ⟨u36, l37, rfl, q38⟩ := uncons_ok q35
  obtain ⟨y39, rfl, q40⟩ := vInt_ok q38
  obtain ⟨u41, l42, rfl, q43⟩ := uncons_ok q40
  obtain ⟨y44, rfl, q45⟩ := vStr_ok q43
  obtain ⟨u46, l47, rfl, q48⟩ := uncons_ok q45
  obtain ⟨y49b, y49n, y49c, rfl, q50⟩ := vSlice_ok q48
  obtain ⟨u51, l52, rfl, q53⟩ := uncons_ok q50
  obtain ⟨y54, rfl, q55⟩ := vStr_ok q53
  obtain ⟨u56, l57, rfl, q58⟩ := uncons_ok q55
  obtain ⟨y59b, y59n, y59c, rfl, q60⟩ := vSlice_ok q58
  obtain ⟨rfl, q61⟩ := unnil_ok q60
  exact ⟨y26, y34, y39, y44, y49b, y49n, y49c, y54, y59b, y59n, y59c, ⟨e25, e28, hd⟩, q61⟩
abbrev n1 (x0 : Option Addr) (x1_0 : Int) (x1_1 : Int) (x1_2 : List UInt8) (x1_3b : Option Addr) (x1_3n : Nat) (x1_3c : Nat) (x1_4 : List UInt8) (x1_5b : Option Addr) (x1_5n : Nat) (x1_5c : Nat) (Kn : T0) (Kr : T0) (h : H) : Prop :=
  newx h ⟨[(.int .u8 x1_0), (.int .u8 x1_1), (S x1_2), (.slice x1_3b x1_3n x1_3c), (S x1_4), (.slice x1_5b x1_5n x1_5c)]⟩ 31 fun a62 h63 => ∃ i64, cell h63 (a62.add 0) = some (.int .u8 i64) ∧ (Spl (i64 < (1 : Int)) (Kr (-1 : Int) h63) (∃ i65, cell h63 (a62.add 0) = some (.int .u8 i65) ∧ (Spl (i65 > (3 : Int)) (Kr (-1 : Int) h63) (vSome x0 fun a66 => ∃ s67b s67n s67c, cell h63 (a66.add 0) = some (.slice s67b s67n s67c) ∧ (∃ i68, cell h63 ((a62).add 0) = some (.int .u8 i68) ∧ (∃ i69, cell h63 ((a62).add 1) = some (.int .u8 i69) ∧ (∃ s70, cell h63 ((a62).add 2) = some (S s70) ∧ (∃ s71b s71n s71c, cell h63 ((a62).add 3) = some (.slice s71b s71n s71c) ∧ (∃ s72, cell h63 ((a62).add 4) = some (S s72) ∧ (∃ s73b s73n s73c, cell h63 ((a62).add 5) = some (.slice s73b s73n s73c) ∧ (HCalls Try.prog 43 ⟨[(.agg ⟨[(.int .u8 i68), (.int .u8 i69), (S s70), (.slice s71b s71n s71c), (S s72), (.slice s73b s73n s73c)]⟩)]⟩ h63 fun v74 h75 => vAgg v74 fun l76 => uncons l76 fun e77 l78 => vInt .u8 e77 fun i79 => uncons l78 fun e80 l81 => vInt .u8 e80 fun i82 => uncons l81 fun e83 l84 => vStr e83 fun s85 => uncons l84 fun e86 l87 => vSlice e86 fun s88b s88n s88c => uncons l87 fun e89 l90 => vStr e89 fun s91 => uncons l90 fun e92 l93 => vSlice e92 fun s94b s94n s94c => unnil l93 (ExtH h63 h75 ∧ (newx h75 #[(.int .u8 i79), (.int .u8 i82), (S s85), (.slice s88b s88n s88c), (S s91), (.slice s94b s94n s94c), (.int .i64 (-1 : Int)), (.slice none 0 0)] 65 fun a95 h96 => ExtH h75 h96 ∧ (SemH Try.prog (Builtin.append_ #[66, 66] 66 ⟨[(.slice s67b s67n s67c), (.slice (some a95) 1 1)]⟩) h96 fun v97 h98 => vSlice v97 fun s99b s99n s99c => vSome x0 fun a100 => stL (a100.add 0) [(.slice s99b s99n s99c)] 0 h98 fun h101 => vSome x0 fun a102 => ∃ s103b s103n s103c, cell h101 (a102.add 0) = some (.slice s103b s103n s103c) ∧ (Rng .i64 ((s103n : Int) - (1 : Int)) ∧ (Kr ((s103n : Int) - (1 : Int)) h101))))))))))))))))
theorem n1_ok (x0 : Option Addr) (x1_0 : Int) (x1_1 : Int) (x1_2 : List UInt8) (x1_3b : Option Addr) (x1_3n : Nat) (x1_3c : Nat) (x1_4 : List UInt8) (x1_5b : Option Addr) (x1_5n : Nat) (x1_5c : Nat) (Kn : T0) (Kr : T0) (g : Env) (hg : E1 g x0 x1_0 x1_1 x1_2 x1_3b x1_3n x1_3c x1_4 x1_5b x1_5n x1_5c) (h : H) (hS : n1 x0 x1_0 x1_1 x1_2 x1_3b x1_3n x1_3c x1_4 x1_5b x1_5n x1_5c Kn Kr h) : wpC none Try.prog 31 code (Q0 Kn Kr) g h := by
  obtain ⟨hg0, hg1, hds⟩ := hg
  refine wpC_of_wpx (by kernel_rfl) (by kernel_rfl) (g' := ((⟨g.v, []⟩ : Env).upd (some 0) (.pointer x0)).upd (some 1) (.agg ⟨[(.int .u8 x1_0), (.int .u8 x1_1), (S x1_2), (.slice x1_3b x1_3n x1_3c), (S x1_4), (.slice x1_5b x1_5n x1_5c)]⟩)) (by rw [env_ds hds, upd_self hg0, upd_self hg1]) ?_
  have e : (n1 x0 x1_0 x1_1 x1_2 x1_3b x1_3n x1_3c x1_4 x1_5b x1_5n x1_5c Kn Kr h) = wpx none Try.prog 31 code (Q0 Kn Kr) (((⟨g.v, []⟩ : Env).upd (some 0) (.pointer x0)).upd (some 1) (.agg ⟨[(.int .u8 x1_0), (.int .u8 x1_1), (S x1_2), (.slice x1_3b x1_3n x1_3c), (S x1_4), (.slice x1_5b x1_5n x1_5c)]⟩)) h := by kernel_rfl
  exact e ▸ hS
/-- WHAT (*tympan/tympanref10.Tree).Make ASKS -/
abbrev asks (x0 : Option Addr) (x1_0 : Int) (x1_1 : Int) (x1_2 : List UInt8) (x1_3b : Option Addr) (x1_3n : Nat) (x1_3c : Nat) (x1_4 : List UInt8) (x1_5b : Option Addr) (x1_5n : Nat) (x1_5c : Nat) (K : Value → H → Prop) (h : H) : Prop := n1 x0 x1_0 x1_1 x1_2 x1_3b x1_3n x1_3c x1_4 x1_5b x1_5n x1_5c (fun y4 h => K (.int .i64 y4) h) (fun y4 h => K (.int .i64 y4) h) h
theorem ok (x0 : Option Addr) (x1_0 : Int) (x1_1 : Int) (x1_2 : List UInt8) (x1_3b : Option Addr) (x1_3n : Nat) (x1_3c : Nat) (x1_4 : List UInt8) (x1_5b : Option Addr) (x1_5n : Nat) (x1_5c : Nat) (K : Value → H → Prop) (h : H) (hS : asks x0 x1_0 x1_1 x1_2 x1_3b x1_3n x1_3c x1_4 x1_5b x1_5n x1_5c K h) : HCalls Try.prog 18 ⟨[(.pointer x0), (.agg ⟨[(.int .u8 x1_0), (.int .u8 x1_1), (S x1_2), (.slice x1_3b x1_3n x1_3c), (S x1_4), (.slice x1_5b x1_5n x1_5c)]⟩)]⟩ h K := by
  refine calls_of_wpC (c := code) Try.func18 (by kernel_rfl) (Nat.le_of_ble_eq_true (by kernel_rfl)) ?_
  refine (n1_ok x0 x1_0 x1_1 x1_2 x1_3b x1_3n x1_3c x1_4 x1_5b x1_5n x1_5c (fun y4 h => K (.int .i64 y4) h) (fun y4 h => K (.int .i64 y4) h) (env0 [(.pointer x0), (.agg ⟨[(.int .u8 x1_0), (.int .u8 x1_1), (S x1_2), (.slice x1_3b x1_3n x1_3c), (S x1_4), (.slice x1_5b x1_5n x1_5c)]⟩)]) ⟨rfl, rfl, rfl⟩ h hS).mono ?_
  intro e g' h' hq
  cases e with
  | normal =>
    have hq : D0 (fun y4 h => K (.int .i64 y4) h) g' h' := hq
    obtain ⟨y4, ⟨hg4, hd⟩, hq⟩ := D0_ok hq
    show leaveX g'.ds h' _
    rw [hd]
    show K (g'.v 4) h'
    rw [hg4]
    exact hq
  | ret =>
    have hq : D0 (fun y4 h => K (.int .i64 y4) h) g' h' := hq
    obtain ⟨y4, ⟨hg4, hd⟩, hq⟩ := D0_ok hq
    show leaveX g'.ds h' _
    rw [hd]
    show K (g'.v 4) h'
    rw [hg4]
    exact hq
  | _ => exact hq
end Sx.r10_Tree_Make

/-! ### (*tympan/tympanref10.Tree).Copy -/
namespace Sx.r10_Tree_Copy
noncomputable def code : Code := bodyOf Try.f20
abbrev T0 := Int → H → Prop
def E0 (g : Env) (x4 : Int) : Prop := g.v 4 = (.int .i64 x4) ∧ g.ds = []
def D0 (K : T0) (g : Env) (h : H) : Prop := nilDs g.ds (vInt .i64 (g.v 4) fun i1 => K i1 h)
theorem D0_ok {K : T0} {g : Env} {h : H} (hq : D0 K g h) : ∃ (x4 : Int), E0 g x4 ∧ K x4 h := by
  obtain ⟨hd, hq⟩ := nilDs_ok hq
  obtain ⟨y3, e2, q4⟩ := vInt_ok hq
  exact ⟨y3, ⟨e2, hd⟩, q4⟩
def Q0 (Kn : T0) (Kr : T0) : XPost
  | .normal, g, h => D0 Kn g h
  | .ret, g, h => D0 Kr g h
  | _, _, _ => False
abbrev T1 := (Option Addr) → Int → H → Prop
def E1 (g : Env) (x0 : Option Addr) (x1 : Int) : Prop := g.v 0 = (.pointer x0) ∧ g.v 1 = (.int .i64 x1) ∧ g.ds = []
def D1 (K : T1) (g : Env) (h : H) : Prop := nilDs g.ds (vPtr (g.v 0) fun p5 => vInt .i64 (g.v 1) fun i6 => K p5 i6 h)
theorem D1_ok {K : T1} {g : Env} {h : H} (hq : D1 K g h) : ∃ (x0 : Option Addr) (x1 : Int), E1 g x0 x1 ∧ K x0 x1 h := by
  obtain ⟨hd, hq⟩ := nilDs_ok hq
  obtain ⟨y8, e7, q9⟩ := vPtr_ok hq
  obtain ⟨y11, e10, q12⟩ := vInt_ok q9
  exact ⟨y8, y11, ⟨e7, e10, hd⟩, q12⟩
noncomputable def n1_c1 : Code := cFst code
noncomputable def n1_c2 : Code := cSnd code
noncomputable def n2_c1 : Code := cFst n1_c2
noncomputable def n2_c2 : Code := cSnd n1_c2
abbrev T2 := (Option Addr) → Int → Bool → H → Prop
def E2 (g : Env) (x0 : Option Addr) (x1 : Int) (x5 : Bool) : Prop := g.v 0 = (.pointer x0) ∧ g.v 1 = (.int .i64 x1) ∧ g.v 5 = (.bool x5) ∧ g.ds = []
def D2 (K : T2) (g : Env) (h : H) : Prop := nilDs g.ds (vPtr (g.v 0) fun p13 => vInt .i64 (g.v 1) fun i14 => vBool (g.v 5) fun b15 => K p13 i14 b15 h)
theorem D2_ok {K : T2} {g : Env} {h : H} (hq : D2 K g h) : ∃ (x0 : Option Addr) (x1 : Int) (x5 : Bool), E2 g x0 x1 x5 ∧ K x0 x1 x5 h := by
  obtain ⟨hd, hq⟩ := nilDs_ok hq
  obtain ⟨y17, e16, q18⟩ := vPtr_ok hq
  obtain ⟨y20, e19, q21⟩ := vInt_ok q18
  obtain ⟨y23, e22, q24⟩ := vBool_ok q21
  exact ⟨y17, y20, y23, ⟨e16, e19, e22, hd⟩, q24⟩
abbrev n3 (x0 : Option Addr) (x1 : Int) (x5 : Bool) (Kn : T0) (Kr : T0) (h : H) : Prop :=
  cond x5 (Spl (x1 = (0 : Int)) (Kr (-1 : Int) h) (vSome x0 fun a25 => ∃ s26b s26n s26c, cell h (a25.add 0) = some (.slice s26b s26n s26c) ∧ ((0 ≤ x1 ∧ x1 < (s26n : Int)) ∧ (vSome s26b fun a27 => ∃ i28, cell h ((((a27.add (Int.toNat x1 * 8)).add 0)).add 0) = some (.int .u8 i28) ∧ (∃ i29, cell h ((((a27.add (Int.toNat x1 * 8)).add 0)).add 1) = some (.int .u8 i29) ∧ (∃ s30, cell h ((((a27.add (Int.toNat x1 * 8)).add 0)).add 2) = some (S s30) ∧ (∃ s31b s31n s31c, cell h ((((a27.add (Int.toNat x1 * 8)).add 0)).add 3) = some (.slice s31b s31n s31c) ∧ (∃ s32, cell h ((((a27.add (Int.toNat x1 * 8)).add 0)).add 4) = some (S s32) ∧ (∃ s33b s33n s33c, cell h ((((a27.add (Int.toNat x1 * 8)).add 0)).add 5) = some (.slice s33b s33n s33c) ∧ (HCalls Try.prog 18 ⟨[(.pointer x0), (.agg ⟨[(.int .u8 i28), (.int .u8 i29), (S s30), (.slice s31b s31n s31c), (S s32), (.slice s33b s33n s33c)]⟩)]⟩ h fun v34 h35 => vInt .i64 v34 fun i36 => Kr i36 h35)))))))))) (Kr (-1 : Int) h)
theorem n3_ok (x0 : Option Addr) (x1 : Int) (x5 : Bool) (Kn : T0) (Kr : T0) (g : Env) (hg : E2 g x0 x1 x5) (h : H) (hS : n3 x0 x1 x5 Kn Kr h) : wpC none Try.prog 25 n2_c2 (Q0 Kn Kr) g h := by
  obtain ⟨hg0, hg1, hg5, hds⟩ := hg
  refine wpC_of_wpx (by kernel_rfl) (by kernel_rfl) (g' := (((⟨g.v, []⟩ : Env).upd (some 0) (.pointer x0)).upd (some 1) (.int .i64 x1)).upd (some 5) (.bool x5)) (by rw [env_ds hds, upd_self hg0, upd_self hg1, upd_self hg5]) ?_
  have e : (n3 x0 x1 x5 Kn Kr h) = wpx none Try.prog 25 n2_c2 (Q0 Kn Kr) ((((⟨g.v, []⟩ : Env).upd (some 0) (.pointer x0)).upd (some 1) (.int .i64 x1)).upd (some 5) (.bool x5)) h := by kernel_rfl
  exact e ▸ hS
def Q1 (Kn : T2) (Kr : T0) : XPost
  | .normal, g, h => D2 Kn g h
  | .ret, g, h => D0 Kr g h
  | _, _, _ => False
abbrev n2 (x0 : Option Addr) (x1 : Int) (Kn : T0) (Kr : T0) (h : H) : Prop :=
  HCalls Try.prog 44 ⟨[(.pointer x0), (.int .i64 x1)]⟩ h fun v37 h38 => vBool v37 fun b39 => cond b39 (n3 x0 x1 true Kn Kr h38) (n3 x0 x1 false Kn Kr h38)
theorem n2_ok (x0 : Option Addr) (x1 : Int) (Kn : T0) (Kr : T0) (g : Env) (hg : E1 g x0 x1) (h : H) (hS : n2 x0 x1 Kn Kr h) : wpC none Try.prog 25 n1_c2 (Q0 Kn Kr) g h := by
  obtain ⟨hg0, hg1, hds⟩ := hg
  refine wpC_seq' (x := n2_c1) (y := n2_c2) (Q' := (Q1 (fun z0 z1 z5 h => n3 z0 z1 z5 Kn Kr h) Kr)) (by kernel_rfl) ?_ ?_
  · refine wpC_of_wpx (by kernel_rfl) (by kernel_rfl) (g' := ((⟨g.v, []⟩ : Env).upd (some 0) (.pointer x0)).upd (some 1) (.int .i64 x1)) (by rw [env_ds hds, upd_self hg0, upd_self hg1]) ?_
    have e : (n2 x0 x1 Kn Kr h) = wpx none Try.prog 25 n2_c1 (Q1 (fun z0 z1 z5 h => n3 z0 z1 z5 Kn Kr h) Kr) (((⟨g.v, []⟩ : Env).upd (some 0) (.pointer x0)).upd (some 1) (.int .i64 x1)) h := by kernel_rfl
    exact e ▸ hS
  · intro e g' h' hq
    cases e with
    | normal =>
      have hq : D2 (fun z0 z1 z5 h => n3 z0 z1 z5 Kn Kr h) g' h' := hq
      obtain ⟨y0, y1, y5, hg', hq⟩ := D2_ok hq
      exact n3_ok y0 y1 y5 Kn Kr g' hg' h' hq
    | _ => exact hq
def Q2 (Kn : T1) (Kr : T0) : XPost
  | .normal, g, h => D1 Kn g h
  | .ret, g, h => D0 Kr g h
  | _, _, _ => False
abbrev n1 (x0 : Option Addr) (x1 : Int) (Kn : T0) (Kr : T0) (h : H) : Prop :=
  n2 x0 x1 Kn Kr h
theorem n1_ok (x0 : Option Addr) (x1 : Int) (Kn : T0) (Kr : T0) (g : Env) (hg : E1 g x0 x1) (h : H) (hS : n1 x0 x1 Kn Kr h) : wpC none Try.prog 25 code (Q0 Kn Kr) g h := by
  obtain ⟨hg0, hg1, hds⟩ := hg
  refine wpC_seq' (x := n1_c1) (y := n1_c2) (Q' := (Q2 (fun z0 z1 h => n2 z0 z1 Kn Kr h) Kr)) (by kernel_rfl) ?_ ?_
  · refine wpC_of_wpx (by kernel_rfl) (by kernel_rfl) (g' := ((⟨g.v, []⟩ : Env).upd (some 0) (.pointer x0)).upd (some 1) (.int .i64 x1)) (by rw [env_ds hds, upd_self hg0, upd_self hg1]) ?_
    have e : (n1 x0 x1 Kn Kr h) = wpx none Try.prog 25 n1_c1 (Q2 (fun z0 z1 h => n2 z0 z1 Kn Kr h) Kr) (((⟨g.v, []⟩ : Env).upd (some 0) (.pointer x0)).upd (some 1) (.int .i64 x1)) h := by kernel_rfl
    exact e ▸ hS
  · intro e g' h' hq
    cases e with
    | normal =>
      have hq : D1 (fun z0 z1 h => n2 z0 z1 Kn Kr h) g' h' := hq
      obtain ⟨y0, y1, hg', hq⟩ := D1_ok hq
      exact n2_ok y0 y1 Kn Kr g' hg' h' hq
    | _ => exact hq
/-- WHAT (*tympan/tympanref10.Tree).Copy ASKS -/
abbrev asks (x0 : Option Addr) (x1 : Int) (K : Value → H → Prop) (h : H) : Prop := n1 x0 x1 (fun y4 h => K (.int .i64 y4) h) (fun y4 h => K (.int .i64 y4) h) h
theorem ok (x0 : Option Addr) (x1 : Int) (K : Value → H → Prop) (h : H) (hS : asks x0 x1 K h) : HCalls Try.prog 20 ⟨[(.pointer x0), (.int .i64 x1)]⟩ h K := by
  refine calls_of_wpC (c := code) Try.func20 (by kernel_rfl) (Nat.le_of_ble_eq_true (by kernel_rfl)) ?_
  refine (n1_ok x0 x1 (fun y4 h => K (.int .i64 y4) h) (fun y4 h => K (.int .i64 y4) h) (env0 [(.pointer x0), (.int .i64 x1)]) ⟨rfl, rfl, rfl⟩ h hS).mono ?_
  intro e g' h' hq
  cases e with
  | normal =>
    have hq : D0 (fun y4 h => K (.int .i64 y4) h) g' h' := hq
    obtain ⟨y4, ⟨hg4, hd⟩, hq⟩ := D0_ok hq
    show leaveX g'.ds h' _
    rw [hd]
    show K (g'.v 4) h'
    rw [hg4]
    exact hq
  | ret =>
    have hq : D0 (fun y4 h => K (.int .i64 y4) h) g' h' := hq
    obtain ⟨y4, ⟨hg4, hd⟩, hq⟩ := D0_ok hq
    show leaveX g'.ds h' _
    rw [hd]
    show K (g'.v 4) h'
    rw [hg4]
    exact hq
  | _ => exact hq
end Sx.r10_Tree_Copy

/-! ### (*tympan/tympanref10.Tree).Put -/
namespace Sx.r10_Tree_Put
noncomputable def code : Code := bodyOf Try.f21
abbrev T0 := Bool → H → Prop
def E0 (g : Env) (x8 : Bool) : Prop := g.v 8 = (.bool x8) ∧ g.ds = []
def D0 (K : T0) (g : Env) (h : H) : Prop := nilDs g.ds (vBool (g.v 8) fun b1 => K b1 h)
theorem D0_ok {K : T0} {g : Env} {h : H} (hq : D0 K g h) : ∃ (x8 : Bool), E0 g x8 ∧ K x8 h := by
  obtain ⟨hd, hq⟩ := nilDs_ok hq
  obtain ⟨y3, e2, q4⟩ := vBool_ok hq
  exact ⟨y3, ⟨e2, hd⟩, q4⟩
def Q0 (Kn : T0) (Kr : T0) : XPost
  | .normal, g, h => D0 Kn g h
  | .ret, g, h => D0 Kr g h
  | _, _, _ => False
abbrev T1 := (Option Addr) → Int → Int → Int → H → Prop
def E1 (g : Env) (x0 : Option Addr) (x1 : Int) (x2 : Int) (x3 : Int) : Prop := g.v 0 = (.pointer x0) ∧ g.v 1 = (.int .i64 x1) ∧ g.v 2 = (.int .i64 x2) ∧ g.v 3 = (.int .i64 x3) ∧ g.ds = []
def D1 (K : T1) (g : Env) (h : H) : Prop := nilDs g.ds (vPtr (g.v 0) fun p5 => vInt .i64 (g.v 1) fun i6 => vInt .i64 (g.v 2) fun i7 => vInt .i64 (g.v 3) fun i8 => K p5 i6 i7 i8 h)
theorem D1_ok {K : T1} {g : Env} {h : H} (hq : D1 K g h) : ∃ (x0 : Option Addr) (x1 : Int) (x2 : Int) (x3 : Int), E1 g x0 x1 x2 x3 ∧ K x0 x1 x2 x3 h := by
  obtain ⟨hd, hq⟩ := nilDs_ok hq
  obtain ⟨y10, e9, q11⟩ := vPtr_ok hq
  obtain ⟨y13, e12, q14⟩ := vInt_ok q11
  obtain ⟨y16, e15, q17⟩ := vInt_ok q14
  obtain ⟨y19, e18, q20⟩ := vInt_ok q17
  exact ⟨y10, y13, y16, y19, ⟨e9, e12, e15, e18, hd⟩, q20⟩
noncomputable def n1_c1 : Code := cFst code
noncomputable def n1_c2 : Code := cSnd code
noncomputable def n2_c1 : Code := cFst n1_c2
noncomputable def n2_c2 : Code := cSnd n1_c2
abbrev T2 := (Option Addr) → Int → Int → Int → Bool → H → Prop
def E2 (g : Env) (x0 : Option Addr) (x1 : Int) (x2 : Int) (x3 : Int) (x9 : Bool) : Prop := g.v 0 = (.pointer x0) ∧ g.v 1 = (.int .i64 x1) ∧ g.v 2 = (.int .i64 x2) ∧ g.v 3 = (.int .i64 x3) ∧ g.v 9 = (.bool x9) ∧ g.ds = []
def D2 (K : T2) (g : Env) (h : H) : Prop := nilDs g.ds (vPtr (g.v 0) fun p21 => vInt .i64 (g.v 1) fun i22 => vInt .i64 (g.v 2) fun i23 => vInt .i64 (g.v 3) fun i24 => vBool (g.v 9) fun b25 => K p21 i22 i23 i24 b25 h)
theorem D2_ok {K : T2} {g : Env} {h : H} (hq : D2 K g h) : ∃ (x0 : Option Addr) (x1 : Int) (x2 : Int) (x3 : Int) (x9 : Bool), E2 g x0 x1 x2 x3 x9 ∧ K x0 x1 x2 x3 x9 h := by
  obtain ⟨hd, hq⟩ := nilDs_ok hq
  obtain ⟨y27, e26, q28⟩ := vPtr_ok hq
  obtain ⟨y30, e29, q31⟩ := vInt_ok q28
  obtain ⟨y33, e32, q34⟩ := vInt_ok q31
  obtain ⟨y36, e35, q37⟩ := vInt_ok q34
  obtain ⟨y39, e38, q40⟩ := vBool_ok q37
  exact ⟨y27, y30, y33, y36, y39, ⟨e26, e29, e32, e35, e38, hd⟩, q40⟩
noncomputable def n3_c1 : Code := cFst n2_c2
noncomputable def n3_c2 : Code := cSnd n2_c2
abbrev T3 := (Option Addr) → Int → Int → Int → Bool → Bool → H → Prop
def E3 (g : Env) (x0 : Option Addr) (x1 : Int) (x2 : Int) (x3 : Int) (x9 : Bool) (x10 : Bool) : Prop := g.v 0 = (.pointer x0) ∧ g.v 1 = (.int .i64 x1) ∧ g.v 2 = (.int .i64 x2) ∧ g.v 3 = (.int .i64 x3) ∧ g.v 9 = (.bool x9) ∧ g.v 10 = (.bool x10) ∧ g.ds = []
def D3 (K : T3) (g : Env) (h : H) : Prop := nilDs g.ds (vPtr (g.v 0) fun p41 => vInt .i64 (g.v 1) fun i42 => vInt .i64 (g.v 2) fun i43 => vInt .i64 (g.v 3) fun i44 => vBool (g.v 9) fun b45 => vBool (g.v 10) fun b46 => K p41 i42 i43 i44 b45 b46 h)
theorem D3_ok {K : T3} {g : Env} {h : H} (hq : D3 K g h) : ∃ (x0 : Option Addr) (x1 : Int) (x2 : Int) (x3 : Int) (x9 : Bool) (x10 : Bool), E3 g x0 x1 x2 x3 x9 x10 ∧ K x0 x1 x2 x3 x9 x10 h := by
  obtain ⟨hd, hq⟩ := nilDs_ok hq
  obtain ⟨y48, e47, q49⟩ := vPtr_ok hq
  obtain ⟨y51, e50, q52⟩ := vInt_ok q49
  obtain ⟨y54, e53, q55⟩ := vInt_ok q52
  obtain ⟨y57, e56, q58⟩ := vInt_ok q55
  obtain ⟨y60, e59, q61⟩ := vBool_ok q58
  obtain ⟨y63, e62, q64⟩ := vBool_ok q61
  exact ⟨y48, y51, y54, y57, y60, y63, ⟨e47, e50, e53, e56, e59, e62, hd⟩, q64⟩
noncomputable def n4_c1 : Code := cFst n3_c2
noncomputable def n4_c2 : Code := cSnd n3_c2
noncomputable def n5_c1 : Code := cFst n4_c2
noncomputable def n5_c2 : Code := cSnd n4_c2
abbrev T4 := (Option Addr) → Int → Int → Int → Bool → H → Prop
def E4 (g : Env) (x0 : Option Addr) (x1 : Int) (x2 : Int) (x3 : Int) (x11 : Bool) : Prop := g.v 0 = (.pointer x0) ∧ g.v 1 = (.int .i64 x1) ∧ g.v 2 = (.int .i64 x2) ∧ g.v 3 = (.int .i64 x3) ∧ g.v 11 = (.bool x11) ∧ g.ds = []
def D4 (K : T4) (g : Env) (h : H) : Prop := nilDs g.ds (vPtr (g.v 0) fun p65 => vInt .i64 (g.v 1) fun i66 => vInt .i64 (g.v 2) fun i67 => vInt .i64 (g.v 3) fun i68 => vBool (g.v 11) fun b69 => K p65 i66 i67 i68 b69 h)
theorem D4_ok {K : T4} {g : Env} {h : H} (hq : D4 K g h) : ∃ (x0 : Option Addr) (x1 : Int) (x2 : Int) (x3 : Int) (x11 : Bool), E4 g x0 x1 x2 x3 x11 ∧ K x0 x1 x2 x3 x11 h := by
  obtain ⟨hd, hq⟩ := nilDs_ok hq
  obtain ⟨y71, e70, q72⟩ := vPtr_ok hq
  obtain ⟨y74, e73, q75⟩ := vInt_ok q72
  obtain ⟨y77, e76, q78⟩ := vInt_ok q75
  obtain ⟨y80, e79, q81⟩ := vInt_ok q78
  obtain ⟨y83, e82, q84⟩ := vBool_ok q81
  exact ⟨y71, y74, y77, y80, y83, ⟨e70, e73, e76, e79, e82, hd⟩, q84⟩
noncomputable def n6_c1 : Code := cFst n5_c2
noncomputable def n6_c2 : Code := cSnd n5_c2
noncomputable def n7_c1 : Code := cFst n6_c2
noncomputable def n7_c2 : Code := cSnd n6_c2
abbrev n8 (x0 : Option Addr) (x1 : Int) (x2 : Int) (x3 : Int) (Kn : T0) (Kr : T0) (h : H) : Prop :=
  HCalls Try.prog 47 ⟨[(.pointer x0), (.int .i64 x1), (.int .i64 x2)]⟩ h fun v85 h86 => vInt .i64 v85 fun i87 => vSome x0 fun a88 => ∃ s89b s89n s89c, cell h86 (a88.add 0) = some (.slice s89b s89n s89c) ∧ ((0 ≤ x1 ∧ x1 < (s89n : Int)) ∧ (vSome s89b fun a90 => ∃ s91b s91n s91c, cell h86 ((a90.add (Int.toNat x1 * 8)).add 7) = some (.slice s91b s91n s91c) ∧ ((0 ≤ (0 : Int) ∧ (0 : Int) ≤ i87 ∧ i87 ≤ (s91c : Int)) ∧ (SemH Try.prog (Builtin.append_ #[38, 38] 38 ⟨[(.slice none 0 0), (.slice (if s91c = Int.toNat (0 : Int) then s91b else Option.map (fun q => q.add (Int.toNat (0 : Int) * 1)) s91b) (Int.toNat i87 - Int.toNat (0 : Int)) (s91c - Int.toNat (0 : Int)))]⟩) h86 fun v92 h93 => vSlice v92 fun s94b s94n s94c => newx h93 #[(.int .i64 x3)] 3 fun a95 h96 => SemH Try.prog (Builtin.append_ #[38, 38] 38 ⟨[(.slice s94b s94n s94c), (.slice (some a95) 1 1)]⟩) h96 fun v97 h98 => vSlice v97 fun s99b s99n s99c => vSome x0 fun a100 => ∃ s101b s101n s101c, cell h98 (a100.add 0) = some (.slice s101b s101n s101c) ∧ ((0 ≤ x1 ∧ x1 < (s101n : Int)) ∧ (vSome s101b fun a102 => ∃ s103b s103n s103c, cell h98 ((a102.add (Int.toNat x1 * 8)).add 7) = some (.slice s103b s103n s103c) ∧ ((0 ≤ i87 ∧ i87 ≤ (s103n : Int) ∧ (s103n : Int) ≤ (s103c : Int)) ∧ (SemH Try.prog (Builtin.append_ #[38, 38] 38 ⟨[(.slice s99b s99n s99c), (.slice (if s103c = Int.toNat i87 then s103b else Option.map (fun q => q.add (Int.toNat i87 * 1)) s103b) (Int.toNat (s103n : Int) - Int.toNat i87) (s103c - Int.toNat i87))]⟩) h98 fun v104 h105 => vSlice v104 fun s106b s106n s106c => vSome x0 fun a107 => ∃ s108b s108n s108c, cell h105 (a107.add 0) = some (.slice s108b s108n s108c) ∧ ((0 ≤ x1 ∧ x1 < (s108n : Int)) ∧ (vSome s108b fun a109 => stL ((a109.add (Int.toNat x1 * 8)).add 7) [(.slice s106b s106n s106c)] 0 h105 fun h110 => vSome x0 fun a111 => ∃ s112b s112n s112c, cell h110 (a111.add 0) = some (.slice s112b s112n s112c) ∧ ((0 ≤ x3 ∧ x3 < (s112n : Int)) ∧ (vSome s112b fun a113 => stL ((a113.add (Int.toNat x3 * 8)).add 6) [(.int .i64 x1)] 0 h110 fun h114 => Kr true h114))))))))))))
theorem n8_ok (x0 : Option Addr) (x1 : Int) (x2 : Int) (x3 : Int) (Kn : T0) (Kr : T0) (g : Env) (hg : E1 g x0 x1 x2 x3) (h : H) (hS : n8 x0 x1 x2 x3 Kn Kr h) : wpC none Try.prog 98 n7_c2 (Q0 Kn Kr) g h := by
  obtain ⟨hg0, hg1, hg2, hg3, hds⟩ := hg
  refine wpC_of_wpx (by kernel_rfl) (by kernel_rfl) (g' := ((((⟨g.v, []⟩ : Env).upd (some 0) (.pointer x0)).upd (some 1) (.int .i64 x1)).upd (some 2) (.int .i64 x2)).upd (some 3) (.int .i64 x3)) (by rw [env_ds hds, upd_self hg0, upd_self hg1, upd_self hg2, upd_self hg3]) ?_
  have e : (n8 x0 x1 x2 x3 Kn Kr h) = wpx none Try.prog 98 n7_c2 (Q0 Kn Kr) (((((⟨g.v, []⟩ : Env).upd (some 0) (.pointer x0)).upd (some 1) (.int .i64 x1)).upd (some 2) (.int .i64 x2)).upd (some 3) (.int .i64 x3)) h := by kernel_rfl
  exact e ▸ hS
def Q1 (Kn : T1) (Kr : T0) : XPost
  | .normal, g, h => D1 Kn g h
  | .ret, g, h => D0 Kr g h
  | _, _, _ => False
abbrev n7 (x0 : Option Addr) (x1 : Int) (x2 : Int) (x3 : Int) (Kn : T0) (Kr : T0) (h : H) : Prop :=
  HCalls Try.prog 23 ⟨[(.pointer x0), (.int .i64 x3)]⟩ h fun v115 h116 => vBool v115 fun b117 => cond b117 (n8 x0 x1 x2 x3 Kn Kr h116) (n8 x0 x1 x2 x3 Kn Kr h116)
theorem n7_ok (x0 : Option Addr) (x1 : Int) (x2 : Int) (x3 : Int) (Kn : T0) (Kr : T0) (g : Env) (hg : E1 g x0 x1 x2 x3) (h : H) (hS : n7 x0 x1 x2 x3 Kn Kr h) : wpC none Try.prog 98 n6_c2 (Q0 Kn Kr) g h := by
  obtain ⟨hg0, hg1, hg2, hg3, hds⟩ := hg
  refine wpC_seq' (x := n7_c1) (y := n7_c2) (Q' := (Q1 (fun z0 z1 z2 z3 h => n8 z0 z1 z2 z3 Kn Kr h) Kr)) (by kernel_rfl) ?_ ?_
  · refine wpC_of_wpx (by kernel_rfl) (by kernel_rfl) (g' := ((((⟨g.v, []⟩ : Env).upd (some 0) (.pointer x0)).upd (some 1) (.int .i64 x1)).upd (some 2) (.int .i64 x2)).upd (some 3) (.int .i64 x3)) (by rw [env_ds hds, upd_self hg0, upd_self hg1, upd_self hg2, upd_self hg3]) ?_
    have e : (n7 x0 x1 x2 x3 Kn Kr h) = wpx none Try.prog 98 n7_c1 (Q1 (fun z0 z1 z2 z3 h => n8 z0 z1 z2 z3 Kn Kr h) Kr) (((((⟨g.v, []⟩ : Env).upd (some 0) (.pointer x0)).upd (some 1) (.int .i64 x1)).upd (some 2) (.int .i64 x2)).upd (some 3) (.int .i64 x3)) h := by kernel_rfl
    exact e ▸ hS
  · intro e g' h' hq
    cases e with
    | normal =>
      have hq : D1 (fun z0 z1 z2 z3 h => n8 z0 z1 z2 z3 Kn Kr h) g' h' := hq
      obtain ⟨y0, y1, y2, y3, hg', hq⟩ := D1_ok hq
      exact n8_ok y0 y1 y2 y3 Kn Kr g' hg' h' hq
    | _ => exact hq
abbrev n6 (x0 : Option Addr) (x1 : Int) (x2 : Int) (x3 : Int) (x11 : Bool) (Kn : T0) (Kr : T0) (h : H) : Prop :=
  cond x11 (Kr false h) (HCalls Try.prog 47 ⟨[(.pointer x0), (.int .i64 x1), (.int .i64 x2)]⟩ h fun v118 h119 => vInt .i64 v118 fun i120 => Spl (i120 < (0 : Int)) (Kr false h119) (n7 x0 x1 x2 x3 Kn Kr h119))
theorem n6_ok (x0 : Option Addr) (x1 : Int) (x2 : Int) (x3 : Int) (x11 : Bool) (Kn : T0) (Kr : T0) (g : Env) (hg : E4 g x0 x1 x2 x3 x11) (h : H) (hS : n6 x0 x1 x2 x3 x11 Kn Kr h) : wpC none Try.prog 98 n5_c2 (Q0 Kn Kr) g h := by
  obtain ⟨hg0, hg1, hg2, hg3, hg11, hds⟩ := hg
  refine wpC_seq' (x := n6_c1) (y := n6_c2) (Q' := (Q1 (fun z0 z1 z2 z3 h => n7 z0 z1 z2 z3 Kn Kr h) Kr)) (by kernel_rfl) ?_ ?_
  · refine wpC_of_wpx (by kernel_rfl) (by kernel_rfl) (g' := (((((⟨g.v, []⟩ : Env).upd (some 0) (.pointer x0)).upd (some 1) (.int .i64 x1)).upd (some 2) (.int .i64 x2)).upd (some 3) (.int .i64 x3)).upd (some 11) (.bool x11)) (by rw [env_ds hds, upd_self hg0, upd_self hg1, upd_self hg2, upd_self hg3, upd_self hg11]) ?_
    have e : (n6 x0 x1 x2 x3 x11 Kn Kr h) = wpx none Try.prog 98 n6_c1 (Q1 (fun z0 z1 z2 z3 h => n7 z0 z1 z2 z3 Kn Kr h) Kr) ((((((⟨g.v, []⟩ : Env).upd (some 0) (.pointer x0)).upd (some 1) (.int .i64 x1)).upd (some 2) (.int .i64 x2)).upd (some 3) (.int .i64 x3)).upd (some 11) (.bool x11)) h := by kernel_rfl
    exact e ▸ hS
  · intro e g' h' hq
    cases e with
    | normal =>
      have hq : D1 (fun z0 z1 z2 z3 h => n7 z0 z1 z2 z3 Kn Kr h) g' h' := hq
      obtain ⟨y0, y1, y2, y3, hg', hq⟩ := D1_ok hq
      exact n7_ok y0 y1 y2 y3 Kn Kr g' hg' h' hq
    | _ => exact hq
def Q2 (Kn : T4) (Kr : T0) : XPost
  | .normal, g, h => D4 Kn g h
  | .ret, g, h => D0 Kr g h
  | _, _, _ => False
abbrev n5 (x0 : Option Addr) (x1 : Int) (x2 : Int) (x3 : Int) (Kn : T0) (Kr : T0) (h : H) : Prop :=
  HCalls Try.prog 46 ⟨[(.pointer x0), (.int .i64 x1), (.int .i64 x3)]⟩ h fun v121 h122 => vBool v121 fun b123 => cond b123 (n6 x0 x1 x2 x3 true Kn Kr h122) (n6 x0 x1 x2 x3 false Kn Kr h122)
theorem n5_ok (x0 : Option Addr) (x1 : Int) (x2 : Int) (x3 : Int) (Kn : T0) (Kr : T0) (g : Env) (hg : E1 g x0 x1 x2 x3) (h : H) (hS : n5 x0 x1 x2 x3 Kn Kr h) : wpC none Try.prog 98 n4_c2 (Q0 Kn Kr) g h := by
  obtain ⟨hg0, hg1, hg2, hg3, hds⟩ := hg
  refine wpC_seq' (x := n5_c1) (y := n5_c2) (Q' := (Q2 (fun z0 z1 z2 z3 z11 h => n6 z0 z1 z2 z3 z11 Kn Kr h) Kr)) (by kernel_rfl) ?_ ?_
  · refine wpC_of_wpx (by kernel_rfl) (by kernel_rfl) (g' := ((((⟨g.v, []⟩ : Env).upd (some 0) (.pointer x0)).upd (some 1) (.int .i64 x1)).upd (some 2) (.int .i64 x2)).upd (some 3) (.int .i64 x3)) (by rw [env_ds hds, upd_self hg0, upd_self hg1, upd_self hg2, upd_self hg3]) ?_
    have e : (n5 x0 x1 x2 x3 Kn Kr h) = wpx none Try.prog 98 n5_c1 (Q2 (fun z0 z1 z2 z3 z11 h => n6 z0 z1 z2 z3 z11 Kn Kr h) Kr) (((((⟨g.v, []⟩ : Env).upd (some 0) (.pointer x0)).upd (some 1) (.int .i64 x1)).upd (some 2) (.int .i64 x2)).upd (some 3) (.int .i64 x3)) h := by kernel_rfl
    exact e ▸ hS
  · intro e g' h' hq
    cases e with
    | normal =>
      have hq : D4 (fun z0 z1 z2 z3 z11 h => n6 z0 z1 z2 z3 z11 Kn Kr h) g' h' := hq
      obtain ⟨y0, y1, y2, y3, y11, hg', hq⟩ := D4_ok hq
      exact n6_ok y0 y1 y2 y3 y11 Kn Kr g' hg' h' hq
    | _ => exact hq
abbrev n4 (x0 : Option Addr) (x1 : Int) (x2 : Int) (x3 : Int) (x9 : Bool) (x10 : Bool) (Kn : T0) (Kr : T0) (h : H) : Prop :=
  cond x9 (cond x10 (Spl (x3 = (0 : Int)) (Kr false h) (Spl (x2 = x3) (Kr false h) (n5 x0 x1 x2 x3 Kn Kr h))) (Kr false h)) (Kr false h)
theorem n4_ok (x0 : Option Addr) (x1 : Int) (x2 : Int) (x3 : Int) (x9 : Bool) (x10 : Bool) (Kn : T0) (Kr : T0) (g : Env) (hg : E3 g x0 x1 x2 x3 x9 x10) (h : H) (hS : n4 x0 x1 x2 x3 x9 x10 Kn Kr h) : wpC none Try.prog 98 n3_c2 (Q0 Kn Kr) g h := by
  obtain ⟨hg0, hg1, hg2, hg3, hg9, hg10, hds⟩ := hg
  refine wpC_seq' (x := n4_c1) (y := n4_c2) (Q' := (Q1 (fun z0 z1 z2 z3 h => n5 z0 z1 z2 z3 Kn Kr h) Kr)) (by kernel_rfl) ?_ ?_
  · refine wpC_of_wpx (by kernel_rfl) (by kernel_rfl) (g' := ((((((⟨g.v, []⟩ : Env).upd (some 0) (.pointer x0)).upd (some 1) (.int .i64 x1)).upd (some 2) (.int .i64 x2)).upd (some 3) (.int .i64 x3)).upd (some 9) (.bool x9)).upd (some 10) (.bool x10)) (by rw [env_ds hds, upd_self hg0, upd_self hg1, upd_self hg2, upd_self hg3, upd_self hg9, upd_self hg10]) ?_
    have e : (n4 x0 x1 x2 x3 x9 x10 Kn Kr h) = wpx none Try.prog 98 n4_c1 (Q1 (fun z0 z1 z2 z3 h => n5 z0 z1 z2 z3 Kn Kr h) Kr) (((((((⟨g.v, []⟩ : Env).upd (some 0) (.pointer x0)).upd (some 1) (.int .i64 x1)).upd (some 2) (.int .i64 x2)).upd (some 3) (.int .i64 x3)).upd (some 9) (.bool x9)).upd (some 10) (.bool x10)) h := by kernel_rfl
    exact e ▸ hS
  · intro e g' h' hq
    cases e with
    | normal =>
      have hq : D1 (fun z0 z1 z2 z3 h => n5 z0 z1 z2 z3 Kn Kr h) g' h' := hq
      obtain ⟨y0, y1, y2, y3, hg', hq⟩ := D1_ok hq
      exact n5_ok y0 y1 y2 y3 Kn Kr g' hg' h' hq
    | _ => exact hq
def Q3 (Kn : T3) (Kr : T0) : XPost
  | .normal, g, h => D3 Kn g h
  | .ret, g, h => D0 Kr g h
  | _, _, _ => False
abbrev n3 (x0 : Option Addr) (x1 : Int) (x2 : Int) (x3 : Int) (x9 : Bool) (Kn : T0) (Kr : T0) (h : H) : Prop :=
  HCalls Try.prog 44 ⟨[(.pointer x0), (.int .i64 x3)]⟩ h fun v124 h125 => vBool v124 fun b126 => cond b126 (n4 x0 x1 x2 x3 x9 true Kn Kr h125) (n4 x0 x1 x2 x3 x9 false Kn Kr h125)
theorem n3_ok (x0 : Option Addr) (x1 : Int) (x2 : Int) (x3 : Int) (x9 : Bool) (Kn : T0) (Kr : T0) (g : Env) (hg : E2 g x0 x1 x2 x3 x9) (h : H) (hS : n3 x0 x1 x2 x3 x9 Kn Kr h) : wpC none Try.prog 98 n2_c2 (Q0 Kn Kr) g h := by
  obtain ⟨hg0, hg1, hg2, hg3, hg9, hds⟩ := hg
  refine wpC_seq' (x := n3_c1) (y := n3_c2) (Q' := (Q3 (fun z0 z1 z2 z3 z9 z10 h => n4 z0 z1 z2 z3 z9 z10 Kn Kr h) Kr)) (by kernel_rfl) ?_ ?_
  · refine wpC_of_wpx (by kernel_rfl) (by kernel_rfl) (g' := (((((⟨g.v, []⟩ : Env).upd (some 0) (.pointer x0)).upd (some 1) (.int .i64 x1)).upd (some 2) (.int .i64 x2)).upd (some 3) (.int .i64 x3)).upd (some 9) (.bool x9)) (by rw [env_ds hds, upd_self hg0, upd_self hg1, upd_self hg2, upd_self hg3, upd_self hg9]) ?_
    have e : (n3 x0 x1 x2 x3 x9 Kn Kr h) = wpx none Try.prog 98 n3_c1 (Q3 (fun z0 z1 z2 z3 z9 z10 h => n4 z0 z1 z2 z3 z9 z10 Kn Kr h) Kr) ((((((⟨g.v, []⟩ : Env).upd (some 0) (.pointer x0)).upd (some 1) (.int .i64 x1)).upd (some 2) (.int .i64 x2)).upd (some 3) (.int .i64 x3)).upd (some 9) (.bool x9)) h := by kernel_rfl
    exact e ▸ hS
  · intro e g' h' hq
    cases e with
    | normal =>
      have hq : D3 (fun z0 z1 z2 z3 z9 z10 h => n4 z0 z1 z2 z3 z9 z10 Kn Kr h) g' h' := hq
      obtain ⟨y0, y1, y2, y3, y9, y10, hg', hq⟩ := D3_ok hq
      exact n4_ok y0 y1 y2 y3 y9 y10 Kn Kr g' hg' h' hq
    | _ => exact hq
def Q4 (Kn : T2) (Kr : T0) : XPost
  | .normal, g, h => D2 Kn g h
  | .ret, g, h => D0 Kr g h
  | _, _, _ => False
abbrev n2 (x0 : Option Addr) (x1 : Int) (x2 : Int) (x3 : Int) (Kn : T0) (Kr : T0) (h : H) : Prop :=
  HCalls Try.prog 45 ⟨[(.pointer x0), (.int .i64 x1)]⟩ h fun v127 h128 => vBool v127 fun b129 => cond b129 (n3 x0 x1 x2 x3 true Kn Kr h128) (n3 x0 x1 x2 x3 false Kn Kr h128)
theorem n2_ok (x0 : Option Addr) (x1 : Int) (x2 : Int) (x3 : Int) (Kn : T0) (Kr : T0) (g : Env) (hg : E1 g x0 x1 x2 x3) (h : H) (hS : n2 x0 x1 x2 x3 Kn Kr h) : wpC none Try.prog 98 n1_c2 (Q0 Kn Kr) g h := by
  obtain ⟨hg0, hg1, hg2, hg3, hds⟩ := hg
  refine wpC_seq' (x := n2_c1) (y := n2_c2) (Q' := (Q4 (fun z0 z1 z2 z3 z9 h => n3 z0 z1 z2 z3 z9 Kn Kr h) Kr)) (by kernel_rfl) ?_ ?_
  · refine wpC_of_wpx (by kernel_rfl) (by kernel_rfl) (g' := ((((⟨g.v, []⟩ : Env).upd (some 0) (.pointer x0)).upd (some 1) (.int .i64 x1)).upd (some 2) (.int .i64 x2)).upd (some 3) (.int .i64 x3)) (by rw [env_ds hds, upd_self hg0, upd_self hg1, upd_self hg2, upd_self hg3]) ?_
    have e : (n2 x0 x1 x2 x3 Kn Kr h) = wpx none Try.prog 98 n2_c1 (Q4 (fun z0 z1 z2 z3 z9 h => n3 z0 z1 z2 z3 z9 Kn Kr h) Kr) (((((⟨g.v, []⟩ : Env).upd (some 0) (.pointer x0)).upd (some 1) (.int .i64 x1)).upd (some 2) (.int .i64 x2)).upd (some 3) (.int .i64 x3)) h := by kernel_rfl
    exact e ▸ hS
  · intro e g' h' hq
    cases e with
    | normal =>
      have hq : D2 (fun z0 z1 z2 z3 z9 h => n3 z0 z1 z2 z3 z9 Kn Kr h) g' h' := hq
      obtain ⟨y0, y1, y2, y3, y9, hg', hq⟩ := D2_ok hq
      exact n3_ok y0 y1 y2 y3 y9 Kn Kr g' hg' h' hq
    | _ => exact hq
abbrev n1 (x0 : Option Addr) (x1 : Int) (x2 : Int) (x3 : Int) (Kn : T0) (Kr : T0) (h : H) : Prop :=
  n2 x0 x1 x2 x3 Kn Kr h
theorem n1_ok (x0 : Option Addr) (x1 : Int) (x2 : Int) (x3 : Int) (Kn : T0) (Kr : T0) (g : Env) (hg : E1 g x0 x1 x2 x3) (h : H) (hS : n1 x0 x1 x2 x3 Kn Kr h) : wpC none Try.prog 98 code (Q0 Kn Kr) g h := by
  obtain ⟨hg0, hg1, hg2, hg3, hds⟩ := hg
  refine wpC_seq' (x := n1_c1) (y := n1_c2) (Q' := (Q1 (fun z0 z1 z2 z3 h => n2 z0 z1 z2 z3 Kn Kr h) Kr)) (by kernel_rfl) ?_ ?_
  · refine wpC_of_wpx (by kernel_rfl) (by kernel_rfl) (g' := ((((⟨g.v, []⟩ : Env).upd (some 0) (.pointer x0)).upd (some 1) (.int .i64 x1)).upd (some 2) (.int .i64 x2)).upd (some 3) (.int .i64 x3)) (by rw [env_ds hds, upd_self hg0, upd_self hg1, upd_self hg2, upd_self hg3]) ?_
    have e : (n1 x0 x1 x2 x3 Kn Kr h) = wpx none Try.prog 98 n1_c1 (Q1 (fun z0 z1 z2 z3 h => n2 z0 z1 z2 z3 Kn Kr h) Kr) (((((⟨g.v, []⟩ : Env).upd (some 0) (.pointer x0)).upd (some 1) (.int .i64 x1)).upd (some 2) (.int .i64 x2)).upd (some 3) (.int .i64 x3)) h := by kernel_rfl
    exact e ▸ hS
  · intro e g' h' hq
    cases e with
    | normal =>
      have hq : D1 (fun z0 z1 z2 z3 h => n2 z0 z1 z2 z3 Kn Kr h) g' h' := hq
      obtain ⟨y0, y1, y2, y3, hg', hq⟩ := D1_ok hq
      exact n2_ok y0 y1 y2 y3 Kn Kr g' hg' h' hq
    | _ => exact hq
/-- WHAT (*tympan/tympanref10.Tree).Put ASKS -/
abbrev asks (x0 : Option Addr) (x1 : Int) (x2 : Int) (x3 : Int) (K : Value → H → Prop) (h : H) : Prop := n1 x0 x1 x2 x3 (fun y8 h => K (.bool y8) h) (fun y8 h => K (.bool y8) h) h
theorem ok (x0 : Option Addr) (x1 : Int) (x2 : Int) (x3 : Int) (K : Value → H → Prop) (h : H) (hS : asks x0 x1 x2 x3 K h) : HCalls Try.prog 21 ⟨[(.pointer x0), (.int .i64 x1), (.int .i64 x2), (.int .i64 x3)]⟩ h K := by
  refine calls_of_wpC (c := code) Try.func21 (by kernel_rfl) (Nat.le_of_ble_eq_true (by kernel_rfl)) ?_
  refine (n1_ok x0 x1 x2 x3 (fun y8 h => K (.bool y8) h) (fun y8 h => K (.bool y8) h) (env0 [(.pointer x0), (.int .i64 x1), (.int .i64 x2), (.int .i64 x3)]) ⟨rfl, rfl, rfl, rfl, rfl⟩ h hS).mono ?_
  intro e g' h' hq
  cases e with
  | normal =>
    have hq : D0 (fun y8 h => K (.bool y8) h) g' h' := hq
    obtain ⟨y8, ⟨hg8, hd⟩, hq⟩ := D0_ok hq
    show leaveX g'.ds h' _
    rw [hd]
    show K (g'.v 8) h'
    rw [hg8]
    exact hq
  | ret =>
    have hq : D0 (fun y8 h => K (.bool y8) h) g' h' := hq
    obtain ⟨y8, ⟨hg8, hd⟩, hq⟩ := D0_ok hq
    show leaveX g'.ds h' _
    rw [hd]
    show K (g'.v 8) h'
    rw [hg8]
    exact hq
  | _ => exact hq
end Sx.r10_Tree_Put

/-! ### (*tympan/tympanref10.Tree).Cut -/
namespace Sx.r10_Tree_Cut
noncomputable def code : Code := bodyOf Try.f23
abbrev T0 := Bool → H → Prop
def E0 (g : Env) (x4 : Bool) : Prop := g.v 4 = (.bool x4) ∧ g.ds = []
def D0 (K : T0) (g : Env) (h : H) : Prop := nilDs g.ds (vBool (g.v 4) fun b1 => K b1 h)
theorem D0_ok {K : T0} {g : Env} {h : H} (hq : D0 K g h) : ∃ (x4 : Bool), E0 g x4 ∧ K x4 h := by
  obtain ⟨hd, hq⟩ := nilDs_ok hq
  obtain ⟨y3, e2, q4⟩ := vBool_ok hq
  exact ⟨y3, ⟨e2, hd⟩, q4⟩
def Q0 (Kn : T0) (Kr : T0) : XPost
  | .normal, g, h => D0 Kn g h
  | .ret, g, h => D0 Kr g h
  | _, _, _ => False
abbrev T1 := (Option Addr) → Int → H → Prop
def E1 (g : Env) (x0 : Option Addr) (x1 : Int) : Prop := g.v 0 = (.pointer x0) ∧ g.v 1 = (.int .i64 x1) ∧ g.ds = []
def D1 (K : T1) (g : Env) (h : H) : Prop := nilDs g.ds (vPtr (g.v 0) fun p5 => vInt .i64 (g.v 1) fun i6 => K p5 i6 h)
theorem D1_ok {K : T1} {g : Env} {h : H} (hq : D1 K g h) : ∃ (x0 : Option Addr) (x1 : Int), E1 g x0 x1 ∧ K x0 x1 h := by
  obtain ⟨hd, hq⟩ := nilDs_ok hq
  obtain ⟨y8, e7, q9⟩ := vPtr_ok hq
  obtain ⟨y11, e10, q12⟩ := vInt_ok q9
  exact ⟨y8, y11, ⟨e7, e10, hd⟩, q12⟩
noncomputable def n1_c1 : Code := cFst code
noncomputable def n1_c2 : Code := cSnd code
noncomputable def n2_c1 : Code := cFst n1_c2
noncomputable def n2_c2 : Code := cSnd n1_c2
abbrev T2 := (Option Addr) → Int → Bool → H → Prop
def E2 (g : Env) (x0 : Option Addr) (x1 : Int) (x5 : Bool) : Prop := g.v 0 = (.pointer x0) ∧ g.v 1 = (.int .i64 x1) ∧ g.v 5 = (.bool x5) ∧ g.ds = []
def D2 (K : T2) (g : Env) (h : H) : Prop := nilDs g.ds (vPtr (g.v 0) fun p13 => vInt .i64 (g.v 1) fun i14 => vBool (g.v 5) fun b15 => K p13 i14 b15 h)
theorem D2_ok {K : T2} {g : Env} {h : H} (hq : D2 K g h) : ∃ (x0 : Option Addr) (x1 : Int) (x5 : Bool), E2 g x0 x1 x5 ∧ K x0 x1 x5 h := by
  obtain ⟨hd, hq⟩ := nilDs_ok hq
  obtain ⟨y17, e16, q18⟩ := vPtr_ok hq
  obtain ⟨y20, e19, q21⟩ := vInt_ok q18
  obtain ⟨y23, e22, q24⟩ := vBool_ok q21
  exact ⟨y17, y20, y23, ⟨e16, e19, e22, hd⟩, q24⟩
abbrev n3 (x0 : Option Addr) (x1 : Int) (x5 : Bool) (Kn : T0) (Kr : T0) (h : H) : Prop :=
  cond x5 (vSome x0 fun a25 => ∃ s26b s26n s26c, cell h (a25.add 0) = some (.slice s26b s26n s26c) ∧ ((0 ≤ x1 ∧ x1 < (s26n : Int)) ∧ (vSome s26b fun a27 => ∃ i28, cell h ((a27.add (Int.toNat x1 * 8)).add 6) = some (.int .i64 i28) ∧ (Spl (i28 < (0 : Int)) (Kr false h) (vSome x0 fun a29 => ∃ s30b s30n s30c, cell h (a29.add 0) = some (.slice s30b s30n s30c) ∧ ((0 ≤ x1 ∧ x1 < (s30n : Int)) ∧ (vSome s30b fun a31 => ∃ i32, cell h ((a31.add (Int.toNat x1 * 8)).add 6) = some (.int .i64 i32) ∧ (HCalls Try.prog 47 ⟨[(.pointer x0), (.int .i64 i32), (.int .i64 x1)]⟩ h fun v33 h34 => vInt .i64 v33 fun i35 => vSome x0 fun a36 => ∃ s37b s37n s37c, cell h34 (a36.add 0) = some (.slice s37b s37n s37c) ∧ ((0 ≤ i32 ∧ i32 < (s37n : Int)) ∧ (vSome s37b fun a38 => ∃ s39b s39n s39c, cell h34 ((a38.add (Int.toNat i32 * 8)).add 7) = some (.slice s39b s39n s39c) ∧ ((0 ≤ (0 : Int) ∧ (0 : Int) ≤ i35 ∧ i35 ≤ (s39c : Int)) ∧ (SemH Try.prog (Builtin.append_ #[38, 38] 38 ⟨[(.slice none 0 0), (.slice (if s39c = Int.toNat (0 : Int) then s39b else Option.map (fun q => q.add (Int.toNat (0 : Int) * 1)) s39b) (Int.toNat i35 - Int.toNat (0 : Int)) (s39c - Int.toNat (0 : Int)))]⟩) h34 fun v40 h41 => vSlice v40 fun s42b s42n s42c => vSome x0 fun a43 => ∃ s44b s44n s44c, cell h41 (a43.add 0) = some (.slice s44b s44n s44c) ∧ ((0 ≤ i32 ∧ i32 < (s44n : Int)) ∧ (vSome s44b fun a45 => ∃ s46b s46n s46c, cell h41 ((a45.add (Int.toNat i32 * 8)).add 7) = some (.slice s46b s46n s46c) ∧ (Rng .i64 (i35 + (1 : Int)) ∧ ((0 ≤ (i35 + (1 : Int)) ∧ (i35 + (1 : Int)) ≤ (s46n : Int) ∧ (s46n : Int) ≤ (s46c : Int)) ∧ (SemH Try.prog (Builtin.append_ #[38, 38] 38 ⟨[(.slice s42b s42n s42c), (.slice (if s46c = Int.toNat (i35 + (1 : Int)) then s46b else Option.map (fun q => q.add (Int.toNat (i35 + (1 : Int)) * 1)) s46b) (Int.toNat (s46n : Int) - Int.toNat (i35 + (1 : Int))) (s46c - Int.toNat (i35 + (1 : Int))))]⟩) h41 fun v47 h48 => vSlice v47 fun s49b s49n s49c => vSome x0 fun a50 => ∃ s51b s51n s51c, cell h48 (a50.add 0) = some (.slice s51b s51n s51c) ∧ ((0 ≤ i32 ∧ i32 < (s51n : Int)) ∧ (vSome s51b fun a52 => stL ((a52.add (Int.toNat i32 * 8)).add 7) [(.slice s49b s49n s49c)] 0 h48 fun h53 => vSome x0 fun a54 => ∃ s55b s55n s55c, cell h53 (a54.add 0) = some (.slice s55b s55n s55c) ∧ ((0 ≤ x1 ∧ x1 < (s55n : Int)) ∧ (vSome s55b fun a56 => stL ((a56.add (Int.toNat x1 * 8)).add 6) [(.int .i64 (-1 : Int))] 0 h53 fun h57 => Kr true h57))))))))))))))))))))) (Kr false h)
theorem n3_ok (x0 : Option Addr) (x1 : Int) (x5 : Bool) (Kn : T0) (Kr : T0) (g : Env) (hg : E2 g x0 x1 x5) (h : H) (hS : n3 x0 x1 x5 Kn Kr h) : wpC none Try.prog 77 n2_c2 (Q0 Kn Kr) g h := by
  obtain ⟨hg0, hg1, hg5, hds⟩ := hg
  refine wpC_of_wpx (by kernel_rfl) (by kernel_rfl) (g' := (((⟨g.v, []⟩ : Env).upd (some 0) (.pointer x0)).upd (some 1) (.int .i64 x1)).upd (some 5) (.bool x5)) (by rw [env_ds hds, upd_self hg0, upd_self hg1, upd_self hg5]) ?_
  have e : (n3 x0 x1 x5 Kn Kr h) = wpx none Try.prog 77 n2_c2 (Q0 Kn Kr) ((((⟨g.v, []⟩ : Env).upd (some 0) (.pointer x0)).upd (some 1) (.int .i64 x1)).upd (some 5) (.bool x5)) h := by kernel_rfl
  exact e ▸ hS
def Q1 (Kn : T2) (Kr : T0) : XPost
  | .normal, g, h => D2 Kn g h
  | .ret, g, h => D0 Kr g h
  | _, _, _ => False
abbrev n2 (x0 : Option Addr) (x1 : Int) (Kn : T0) (Kr : T0) (h : H) : Prop :=
  HCalls Try.prog 44 ⟨[(.pointer x0), (.int .i64 x1)]⟩ h fun v58 h59 => vBool v58 fun b60 => cond b60 (n3 x0 x1 true Kn Kr h59) (n3 x0 x1 false Kn Kr h59)
theorem n2_ok (x0 : Option Addr) (x1 : Int) (Kn : T0) (Kr : T0) (g : Env) (hg : E1 g x0 x1) (h : H) (hS : n2 x0 x1 Kn Kr h) : wpC none Try.prog 77 n1_c2 (Q0 Kn Kr) g h := by
  obtain ⟨hg0, hg1, hds⟩ := hg
  refine wpC_seq' (x := n2_c1) (y := n2_c2) (Q' := (Q1 (fun z0 z1 z5 h => n3 z0 z1 z5 Kn Kr h) Kr)) (by kernel_rfl) ?_ ?_
  · refine wpC_of_wpx (by kernel_rfl) (by kernel_rfl) (g' := ((⟨g.v, []⟩ : Env).upd (some 0) (.pointer x0)).upd (some 1) (.int .i64 x1)) (by rw [env_ds hds, upd_self hg0, upd_self hg1]) ?_
    have e : (n2 x0 x1 Kn Kr h) = wpx none Try.prog 77 n2_c1 (Q1 (fun z0 z1 z5 h => n3 z0 z1 z5 Kn Kr h) Kr) (((⟨g.v, []⟩ : Env).upd (some 0) (.pointer x0)).upd (some 1) (.int .i64 x1)) h := by kernel_rfl
    exact e ▸ hS
  · intro e g' h' hq
    cases e with
    | normal =>
      have hq : D2 (fun z0 z1 z5 h => n3 z0 z1 z5 Kn Kr h) g' h' := hq
      obtain ⟨y0, y1, y5, hg', hq⟩ := D2_ok hq
      exact n3_ok y0 y1 y5 Kn Kr g' hg' h' hq
    | _ => exact hq
def Q2 (Kn : T1) (Kr : T0) : XPost
  | .normal, g, h => D1 Kn g h
  | .ret, g, h => D0 Kr g h
  | _, _, _ => False
abbrev n1 (x0 : Option Addr) (x1 : Int) (Kn : T0) (Kr : T0) (h : H) : Prop :=
  n2 x0 x1 Kn Kr h
theorem n1_ok (x0 : Option Addr) (x1 : Int) (Kn : T0) (Kr : T0) (g : Env) (hg : E1 g x0 x1) (h : H) (hS : n1 x0 x1 Kn Kr h) : wpC none Try.prog 77 code (Q0 Kn Kr) g h := by
  obtain ⟨hg0, hg1, hds⟩ := hg
  refine wpC_seq' (x := n1_c1) (y := n1_c2) (Q' := (Q2 (fun z0 z1 h => n2 z0 z1 Kn Kr h) Kr)) (by kernel_rfl) ?_ ?_
  · refine wpC_of_wpx (by kernel_rfl) (by kernel_rfl) (g' := ((⟨g.v, []⟩ : Env).upd (some 0) (.pointer x0)).upd (some 1) (.int .i64 x1)) (by rw [env_ds hds, upd_self hg0, upd_self hg1]) ?_
    have e : (n1 x0 x1 Kn Kr h) = wpx none Try.prog 77 n1_c1 (Q2 (fun z0 z1 h => n2 z0 z1 Kn Kr h) Kr) (((⟨g.v, []⟩ : Env).upd (some 0) (.pointer x0)).upd (some 1) (.int .i64 x1)) h := by kernel_rfl
    exact e ▸ hS
  · intro e g' h' hq
    cases e with
    | normal =>
      have hq : D1 (fun z0 z1 h => n2 z0 z1 Kn Kr h) g' h' := hq
      obtain ⟨y0, y1, hg', hq⟩ := D1_ok hq
      exact n2_ok y0 y1 Kn Kr g' hg' h' hq
    | _ => exact hq
/-- WHAT (*tympan/tympanref10.Tree).Cut ASKS -/
abbrev asks (x0 : Option Addr) (x1 : Int) (K : Value → H → Prop) (h : H) : Prop := n1 x0 x1 (fun y4 h => K (.bool y4) h) (fun y4 h => K (.bool y4) h) h
theorem ok (x0 : Option Addr) (x1 : Int) (K : Value → H → Prop) (h : H) (hS : asks x0 x1 K h) : HCalls Try.prog 23 ⟨[(.pointer x0), (.int .i64 x1)]⟩ h K := by
  refine calls_of_wpC (c := code) Try.func23 (by kernel_rfl) (Nat.le_of_ble_eq_true (by kernel_rfl)) ?_
  refine (n1_ok x0 x1 (fun y4 h => K (.bool y4) h) (fun y4 h => K (.bool y4) h) (env0 [(.pointer x0), (.int .i64 x1)]) ⟨rfl, rfl, rfl⟩ h hS).mono ?_
  intro e g' h' hq
  cases e with
  | normal =>
    have hq : D0 (fun y4 h => K (.bool y4) h) g' h' := hq
    obtain ⟨y4, ⟨hg4, hd⟩, hq⟩ := D0_ok hq
    show leaveX g'.ds h' _
    rw [hd]
    show K (g'.v 4) h'
    rw [hg4]
    exact hq
  | ret =>
    have hq : D0 (fun y4 h => K (.bool y4) h) g' h' := hq
    obtain ⟨y4, ⟨hg4, hd⟩, hq⟩ := D0_ok hq
    show leaveX g'.ds h' _
    rw [hd]
    show K (g'.v 4) h'
    rw [hg4]
    exact hq
  | _ => exact hq
end Sx.r10_Tree_Cut

/-! ### (*tympan/tympanref10.Tree).Move -/
namespace Sx.r10_Tree_Move
noncomputable def code : Code := bodyOf Try.f25
abbrev T0 := Bool → H → Prop
def E0 (g : Env) (x6 : Bool) : Prop := g.v 6 = (.bool x6) ∧ g.ds = []
def D0 (K : T0) (g : Env) (h : H) : Prop := nilDs g.ds (vBool (g.v 6) fun b1 => K b1 h)
theorem D0_ok {K : T0} {g : Env} {h : H} (hq : D0 K g h) : ∃ (x6 : Bool), E0 g x6 ∧ K x6 h := by
  obtain ⟨hd, hq⟩ := nilDs_ok hq
  obtain ⟨y3, e2, q4⟩ := vBool_ok hq
  exact ⟨y3, ⟨e2, hd⟩, q4⟩
def Q0 (Kn : T0) (Kr : T0) : XPost
  | .normal, g, h => D0 Kn g h
  | .ret, g, h => D0 Kr g h
  | _, _, _ => False
abbrev T1 := (Option Addr) → Int → Int → H → Prop
def E1 (g : Env) (x0 : Option Addr) (x1 : Int) (x2 : Int) : Prop := g.v 0 = (.pointer x0) ∧ g.v 1 = (.int .i64 x1) ∧ g.v 2 = (.int .i64 x2) ∧ g.ds = []
def D1 (K : T1) (g : Env) (h : H) : Prop := nilDs g.ds (vPtr (g.v 0) fun p5 => vInt .i64 (g.v 1) fun i6 => vInt .i64 (g.v 2) fun i7 => K p5 i6 i7 h)
theorem D1_ok {K : T1} {g : Env} {h : H} (hq : D1 K g h) : ∃ (x0 : Option Addr) (x1 : Int) (x2 : Int), E1 g x0 x1 x2 ∧ K x0 x1 x2 h := by
  obtain ⟨hd, hq⟩ := nilDs_ok hq
  obtain ⟨y9, e8, q10⟩ := vPtr_ok hq
  obtain ⟨y12, e11, q13⟩ := vInt_ok q10
  obtain ⟨y15, e14, q16⟩ := vInt_ok q13
  exact ⟨y9, y12, y15, ⟨e8, e11, e14, hd⟩, q16⟩
noncomputable def n1_c1 : Code := cFst code
noncomputable def n1_c2 : Code := cSnd code
noncomputable def n2_c1 : Code := cFst n1_c2
noncomputable def n2_c2 : Code := cSnd n1_c2
abbrev T2 := (Option Addr) → Int → Int → Bool → H → Prop
def E2 (g : Env) (x0 : Option Addr) (x1 : Int) (x2 : Int) (x7 : Bool) : Prop := g.v 0 = (.pointer x0) ∧ g.v 1 = (.int .i64 x1) ∧ g.v 2 = (.int .i64 x2) ∧ g.v 7 = (.bool x7) ∧ g.ds = []
def D2 (K : T2) (g : Env) (h : H) : Prop := nilDs g.ds (vPtr (g.v 0) fun p17 => vInt .i64 (g.v 1) fun i18 => vInt .i64 (g.v 2) fun i19 => vBool (g.v 7) fun b20 => K p17 i18 i19 b20 h)
theorem D2_ok {K : T2} {g : Env} {h : H} (hq : D2 K g h) : ∃ (x0 : Option Addr) (x1 : Int) (x2 : Int) (x7 : Bool), E2 g x0 x1 x2 x7 ∧ K x0 x1 x2 x7 h := by
  obtain ⟨hd, hq⟩ := nilDs_ok hq
  obtain ⟨y22, e21, q23⟩ := vPtr_ok hq
  obtain ⟨y25, e24, q26⟩ := vInt_ok q23
  obtain ⟨y28, e27, q29⟩ := vInt_ok q26
  obtain ⟨y31, e30, q32⟩ := vBool_ok q29
  exact ⟨y22, y25, y28, y31, ⟨e21, e24, e27, e30, hd⟩, q32⟩
noncomputable def n3_c1 : Code := cFst n2_c2
noncomputable def n3_c2 : Code := cSnd n2_c2
abbrev T3 := (Option Addr) → Int → Int → Bool → Bool → H → Prop
def E3 (g : Env) (x0 : Option Addr) (x1 : Int) (x2 : Int) (x7 : Bool) (x8 : Bool) : Prop := g.v 0 = (.pointer x0) ∧ g.v 1 = (.int .i64 x1) ∧ g.v 2 = (.int .i64 x2) ∧ g.v 7 = (.bool x7) ∧ g.v 8 = (.bool x8) ∧ g.ds = []
def D3 (K : T3) (g : Env) (h : H) : Prop := nilDs g.ds (vPtr (g.v 0) fun p33 => vInt .i64 (g.v 1) fun i34 => vInt .i64 (g.v 2) fun i35 => vBool (g.v 7) fun b36 => vBool (g.v 8) fun b37 => K p33 i34 i35 b36 b37 h)
theorem D3_ok {K : T3} {g : Env} {h : H} (hq : D3 K g h) : ∃ (x0 : Option Addr) (x1 : Int) (x2 : Int) (x7 : Bool) (x8 : Bool), E3 g x0 x1 x2 x7 x8 ∧ K x0 x1 x2 x7 x8 h := by
  obtain ⟨hd, hq⟩ := nilDs_ok hq
  obtain ⟨y39, e38, q40⟩ := vPtr_ok hq
  obtain ⟨y42, e41, q43⟩ := vInt_ok q40
  obtain ⟨y45, e44, q46⟩ := vInt_ok q43
  obtain ⟨y48, e47, q49⟩ := vBool_ok q46
  obtain ⟨y51, e50, q52⟩ := vBool_ok q49
  exact ⟨y39, y42, y45, y48, y51, ⟨e38, e41, e44, e47, e50, hd⟩, q52⟩
noncomputable def n4_c1 : Code := cFst n3_c2
noncomputable def n4_c2 : Code := cSnd n3_c2
noncomputable def n5_c1 : Code := cFst n4_c2
noncomputable def n5_c2 : Code := cSnd n4_c2
abbrev T4 := (Option Addr) → Int → Int → Bool → H → Prop
def E4 (g : Env) (x0 : Option Addr) (x1 : Int) (x2 : Int) (x9 : Bool) : Prop := g.v 0 = (.pointer x0) ∧ g.v 1 = (.int .i64 x1) ∧ g.v 2 = (.int .i64 x2) ∧ g.v 9 = (.bool x9) ∧ g.ds = []
def D4 (K : T4) (g : Env) (h : H) : Prop := nilDs g.ds (vPtr (g.v 0) fun p53 => vInt .i64 (g.v 1) fun i54 => vInt .i64 (g.v 2) fun i55 => vBool (g.v 9) fun b56 => K p53 i54 i55 b56 h)
theorem D4_ok {K : T4} {g : Env} {h : H} (hq : D4 K g h) : ∃ (x0 : Option Addr) (x1 : Int) (x2 : Int) (x9 : Bool), E4 g x0 x1 x2 x9 ∧ K x0 x1 x2 x9 h := by
  obtain ⟨hd, hq⟩ := nilDs_ok hq
  obtain ⟨y58, e57, q59⟩ := vPtr_ok hq
  obtain ⟨y61, e60, q62⟩ := vInt_ok q59
  obtain ⟨y64, e63, q65⟩ := vInt_ok q62
  obtain ⟨y67, e66, q68⟩ := vBool_ok q65
  exact ⟨y58, y61, y64, y67, ⟨e57, e60, e63, e66, hd⟩, q68⟩
noncomputable def n6_c1 : Code := cFst n5_c2
noncomputable def n6_c2 : Code := cSnd n5_c2
noncomputable def n7_c1 : Code := cFst n6_c2
noncomputable def n7_c2 : Code := cSnd n6_c2
abbrev T5 := (Option Addr) → Int → Int → (Option Addr) → Nat → Nat → H → Prop
def E5 (g : Env) (x0 : Option Addr) (x1 : Int) (x2 : Int) (x10b : Option Addr) (x10n : Nat) (x10c : Nat) : Prop := g.v 0 = (.pointer x0) ∧ g.v 1 = (.int .i64 x1) ∧ g.v 2 = (.int .i64 x2) ∧ g.v 10 = (.slice x10b x10n x10c) ∧ g.ds = []
def D5 (K : T5) (g : Env) (h : H) : Prop := nilDs g.ds (vPtr (g.v 0) fun p69 => vInt .i64 (g.v 1) fun i70 => vInt .i64 (g.v 2) fun i71 => vSlice (g.v 10) fun s72b s72n s72c => K p69 i70 i71 s72b s72n s72c h)
theorem D5_ok {K : T5} {g : Env} {h : H} (hq : D5 K g h) : ∃ (x0 : Option Addr) (x1 : Int) (x2 : Int) (x10b : Option Addr) (x10n : Nat) (x10c : Nat), E5 g x0 x1 x2 x10b x10n x10c ∧ K x0 x1 x2 x10b x10n x10c h := by
  obtain ⟨hd, hq⟩ := nilDs_ok hq
  obtain ⟨y74, e73, q75⟩ := vPtr_ok hq
  obtain ⟨y77, e76, q78⟩ := vInt_ok q75
  obtain ⟨y80, e79, q81⟩ := vInt_ok q78
  obtain ⟨y83b, y83n, y83c, e82, q84⟩ := vSlice_ok q81
  exact ⟨y74, y77, y80, y83b, y83n, y83c, ⟨e73, e76, e79, e82, hd⟩, q84⟩
noncomputable def n8_c1 : Code := cFst n7_c2
noncomputable def n8_c2 : Code := cSnd n7_c2
abbrev T6 := (Option Addr) → Int → (Option Addr) → Nat → Nat → H → Prop
def E6 (g : Env) (x0 : Option Addr) (x2 : Int) (x10b : Option Addr) (x10n : Nat) (x10c : Nat) : Prop := g.v 0 = (.pointer x0) ∧ g.v 2 = (.int .i64 x2) ∧ g.v 10 = (.slice x10b x10n x10c) ∧ g.ds = []
def D6 (K : T6) (g : Env) (h : H) : Prop := nilDs g.ds (vPtr (g.v 0) fun p85 => vInt .i64 (g.v 2) fun i86 => vSlice (g.v 10) fun s87b s87n s87c => K p85 i86 s87b s87n s87c h)
theorem D6_ok {K : T6} {g : Env} {h : H} (hq : D6 K g h) : ∃ (x0 : Option Addr) (x2 : Int) (x10b : Option Addr) (x10n : Nat) (x10c : Nat), E6 g x0 x2 x10b x10n x10c ∧ K x0 x2 x10b x10n x10c h := by
  obtain ⟨hd, hq⟩ := nilDs_ok hq
  obtain ⟨y89, e88, q90⟩ := vPtr_ok hq
  obtain ⟨y92, e91, q93⟩ := vInt_ok q90
  obtain ⟨y95b, y95n, y95c, e94, q96⟩ := vSlice_ok q93
  exact ⟨y89, y92, y95b, y95n, y95c, ⟨e88, e91, e94, hd⟩, q96⟩
noncomputable def n9_c1 : Code := cFst n8_c2
noncomputable def n9_c2 : Code := cSnd n8_c2
abbrev n10 (x0 : Option Addr) (x2 : Int) (x10b : Option Addr) (x10n : Nat) (x10c : Nat) (Kn : T0) (Kr : T0) (h : H) : Prop :=
  (vSome x0 fun a97 => vSome x0 fun a98 => ∃ s99b s99n s99c, cell h (a98.add 0) = some (.slice s99b s99n s99c) ∧ ((0 ≤ x2 ∧ x2 < (s99n : Int)) ∧ (vSome s99b fun a100 => ∃ s101b s101n s101c, cell h ((a100.add (Int.toNat x2 * 8)).add 7) = some (.slice s101b s101n s101c) ∧ (SemH Try.prog (Builtin.append_ #[38, 38] 38 ⟨[(.slice s101b s101n s101c), (.slice x10b x10n x10c)]⟩) h fun v102 h103 => vSlice v102 fun s104b s104n s104c => ∃ s105b s105n s105c, cell h103 (a97.add 0) = some (.slice s105b s105n s105c) ∧ ((0 ≤ x2 ∧ x2 < (s105n : Int)) ∧ (vSome s105b fun a106 => stL ((a106.add (Int.toNat x2 * 8)).add 7) [(.slice s104b s104n s104c)] 0 h103 fun h107 => Kr true h107)))))) ∧ (vSome x0 fun a108 => ∃ s109b s109n s109c, cell h (a108.add 0) = some (.slice s109b s109n s109c) ∧ (vSome x0 fun a110 => ∃ s111b s111n s111c, cell h (a110.add 0) = some (.slice s111b s111n s111c) ∧ ((0 ≤ x2 ∧ x2 < (s111n : Int)) ∧ (vSome s111b fun a112 => ∃ s113b s113n s113c, cell h ((a112.add (Int.toNat x2 * 8)).add 7) = some (.slice s113b s113n s113c) ∧ (SemH Try.prog (Builtin.append_ #[38, 38] 38 ⟨[(.slice s113b s113n s113c), (.slice x10b x10n x10c)]⟩) h fun v114 h115 => vSlice v114 fun s116b s116n s116c => (0 ≤ x2 ∧ x2 < (s109n : Int)) ∧ (vSome s109b fun a117 => stL ((a117.add (Int.toNat x2 * 8)).add 7) [(.slice s116b s116n s116c)] 0 h115 fun h118 => Kr true h118))))))
theorem n10_ok (x0 : Option Addr) (x2 : Int) (x10b : Option Addr) (x10n : Nat) (x10c : Nat) (Kn : T0) (Kr : T0) (g : Env) (hg : E6 g x0 x2 x10b x10n x10c) (h : H) (hS : n10 x0 x2 x10b x10n x10c Kn Kr h) : wpC none Try.prog 90 n9_c2 (Q0 Kn Kr) g h := by
  obtain ⟨hg0, hg2, hg10, hds⟩ := hg
  refine wpC_of_wpx (by kernel_rfl) (by kernel_rfl) (g' := (((⟨g.v, []⟩ : Env).upd (some 0) (.pointer x0)).upd (some 2) (.int .i64 x2)).upd (some 10) (.slice x10b x10n x10c)) (by rw [env_ds hds, upd_self hg0, upd_self hg2, upd_self hg10]) ?_
  have e : (n10 x0 x2 x10b x10n x10c Kn Kr h) = wpx none Try.prog 90 n9_c2 (Q0 Kn Kr) ((((⟨g.v, []⟩ : Env).upd (some 0) (.pointer x0)).upd (some 2) (.int .i64 x2)).upd (some 10) (.slice x10b x10n x10c)) h := by kernel_rfl
  exact e ▸ hS
def Q1 (Kn : T6) (Kr : T0) : XPost
  | .normal, g, h => D6 Kn g h
  | .ret, g, h => D0 Kr g h
  | _, _, _ => False
noncomputable def n11_c1 : Code := cFst n9_c1
noncomputable def n11_c2 : Code := cSnd n9_c1
abbrev T7 := (Option Addr) → Int → (Option Addr) → Nat → Nat → Int → H → Prop
def E7 (g : Env) (x0 : Option Addr) (x2 : Int) (x10b : Option Addr) (x10n : Nat) (x10c : Nat) (x11 : Int) : Prop := g.v 0 = (.pointer x0) ∧ g.v 2 = (.int .i64 x2) ∧ g.v 10 = (.slice x10b x10n x10c) ∧ g.v 11 = (.int .i64 x11) ∧ g.ds = []
def D7 (K : T7) (g : Env) (h : H) : Prop := nilDs g.ds (vPtr (g.v 0) fun p119 => vInt .i64 (g.v 2) fun i120 => vSlice (g.v 10) fun s121b s121n s121c => vInt .i64 (g.v 11) fun i122 => K p119 i120 s121b s121n s121c i122 h)
theorem D7_ok {K : T7} {g : Env} {h : H} (hq : D7 K g h) : ∃ (x0 : Option Addr) (x2 : Int) (x10b : Option Addr) (x10n : Nat) (x10c : Nat) (x11 : Int), E7 g x0 x2 x10b x10n x10c x11 ∧ K x0 x2 x10b x10n x10c x11 h := by
  obtain ⟨hd, hq⟩ := nilDs_ok hq
  obtain ⟨y124, e123, q125⟩ := vPtr_ok hq
  obtain ⟨y127, e126, q128⟩ := vInt_ok q125
  obtain ⟨y130b, y130n, y130c, e129, q131⟩ := vSlice_ok q128
  obtain ⟨y133, e132, q134⟩ := vInt_ok q131
  exact ⟨y124, y127, y130b, y130n, y130c, y133, ⟨e123, e126, e129, e132, hd⟩, q134⟩
noncomputable def n12_c1 : Code := cFst n11_c2
def Q2 (Kn : T6) (Ke0 : T6) (Kr : T0) : XPost
  | .normal, g, h => D6 Kn g h
  | .ret, g, h => D0 Kr g h
  | .exit id, g, h => cond (Nat.beq id 0) (D6 Ke0 g h) (False)
  | _, _, _ => False
noncomputable def n13_c1 : Code := cFst n12_c1
def Q3 (Kn : T7) (Ke0 : T6) (Kr : T0) : XPost
  | .normal, g, h => D7 Kn g h
  | .ret, g, h => D0 Kr g h
  | .exit id, g, h => cond (Nat.beq id 0) (D6 Ke0 g h) (False)
  | _, _, _ => False
def n13_L (Kn : T6) (Ke0 : T6) (Kr : T0) : Nat → (Option Addr) → Int → (Option Addr) → Nat → Nat → Int → H → Prop
  | 0 => fun _ _ _ _ _ _ _ => False
  | N + 1 => fun x0 x2 x10b x10n x10c x11 h => Spl (x11 < (x10n : Int)) (vSome x0 fun a135 => ∃ s136b s136n s136c, cell h (a135.add 0) = some (.slice s136b s136n s136c) ∧ ((0 ≤ x11 ∧ x11 < (x10n : Int)) ∧ (vSome x10b fun a137 => ∃ i138, cell h (a137.add (Int.toNat x11 * 1)) = some (.int .i64 i138) ∧ ((0 ≤ i138 ∧ i138 < (s136n : Int)) ∧ (vSome s136b fun a139 => stL ((a139.add (Int.toNat i138 * 8)).add 6) [(.int .i64 x2)] 0 h fun h140 => Rng .i64 (x11 + (1 : Int)) ∧ (n13_L Kn Ke0 Kr N x0 x2 x10b x10n x10c (x11 + (1 : Int)) h140)))))) (Ke0 x0 x2 x10b x10n x10c h)
abbrev n13 (x0 : Option Addr) (x2 : Int) (x10b : Option Addr) (x10n : Nat) (x10c : Nat) (x11 : Int) (Kn : T6) (Ke0 : T6) (Kr : T0) (h : H) : Prop := ∃ N, n13_L Kn Ke0 Kr N x0 x2 x10b x10n x10c x11 h
theorem n13_ok (x0 : Option Addr) (x2 : Int) (x10b : Option Addr) (x10n : Nat) (x10c : Nat) (x11 : Int) (Kn : T6) (Ke0 : T6) (Kr : T0) (g : Env) (hg : E7 g x0 x2 x10b x10n x10c x11) (h : H) (hS : n13 x0 x2 x10b x10n x10c x11 Kn Ke0 Kr h) : wpC none Try.prog 90 n12_c1 (Q2 Kn Ke0 Kr) g h := by
  obtain ⟨N0, hS⟩ := hS
  refine wpC_loop' (x := n13_c1) (by kernel_rfl) (fun k g h => ∃ (x0 : Option Addr) (x2 : Int) (x10b : Option Addr) (x10n : Nat) (x10c : Nat) (x11 : Int), E7 g x0 x2 x10b x10n x10c x11 ∧ n13_L Kn Ke0 Kr k x0 x2 x10b x10n x10c x11 h) (fun g h hr => ?_) (fun N g h hr => ?_) N0 ⟨x0, x2, x10b, x10n, x10c, x11, hg, hS⟩
  · obtain ⟨x0, x2, x10b, x10n, x10c, x11, hg, hS⟩ := hr
    exact hS.elim
  · obtain ⟨x0, x2, x10b, x10n, x10c, x11, hg, hS⟩ := hr
    have hw : wpC none Try.prog 90 n13_c1 (Q3 (fun z0 z2 z10b z10n z10c z11 h => n13_L Kn Ke0 Kr N z0 z2 z10b z10n z10c z11 h) Ke0 Kr) g h := by
      obtain ⟨hg0, hg2, hg10, hg11, hds⟩ := hg
      refine wpC_of_wpx (by kernel_rfl) (by kernel_rfl) (g' := ((((⟨g.v, []⟩ : Env).upd (some 0) (.pointer x0)).upd (some 2) (.int .i64 x2)).upd (some 10) (.slice x10b x10n x10c)).upd (some 11) (.int .i64 x11)) (by rw [env_ds hds, upd_self hg0, upd_self hg2, upd_self hg10, upd_self hg11]) ?_
      have e : (n13_L Kn Ke0 Kr (N + 1) x0 x2 x10b x10n x10c x11 h) = wpx none Try.prog 90 n13_c1 (Q3 (fun z0 z2 z10b z10n z10c z11 h => n13_L Kn Ke0 Kr N z0 z2 z10b z10n z10c z11 h) Ke0 Kr) (((((⟨g.v, []⟩ : Env).upd (some 0) (.pointer x0)).upd (some 2) (.int .i64 x2)).upd (some 10) (.slice x10b x10n x10c)).upd (some 11) (.int .i64 x11)) h := by kernel_rfl
      exact e ▸ hS
    refine hw.mono ?_
    intro e g' h' hq
    cases e with
    | normal => exact D7_ok (K := (fun z0 z2 z10b z10n z10c z11 h => n13_L Kn Ke0 Kr N z0 z2 z10b z10n z10c z11 h)) hq
    | _ => exact hq
abbrev n12 (x0 : Option Addr) (x2 : Int) (x10b : Option Addr) (x10n : Nat) (x10c : Nat) (x11 : Int) (Kn : T6) (Kr : T0) (h : H) : Prop := n13 x0 x2 x10b x10n x10c x11 Kn Kn Kr h
theorem n12_ok (x0 : Option Addr) (x2 : Int) (x10b : Option Addr) (x10n : Nat) (x10c : Nat) (x11 : Int) (Kn : T6) (Kr : T0) (g : Env) (hg : E7 g x0 x2 x10b x10n x10c x11) (h : H) (hS : n12 x0 x2 x10b x10n x10c x11 Kn Kr h) : wpC none Try.prog 90 n11_c2 (Q1 Kn Kr) g h := by
  refine wpC_block' (id := 0) (x := n12_c1) (by kernel_rfl) (n13_ok x0 x2 x10b x10n x10c x11 Kn Kn Kr g hg h hS) ?_
  intro e g' h' hq
  cases e <;> exact hq
def Q4 (Kn : T7) (Kr : T0) : XPost
  | .normal, g, h => D7 Kn g h
  | .ret, g, h => D0 Kr g h
  | _, _, _ => False
abbrev n11 (x0 : Option Addr) (x2 : Int) (x10b : Option Addr) (x10n : Nat) (x10c : Nat) (Kn : T6) (Kr : T0) (h : H) : Prop :=
  n12 x0 x2 x10b x10n x10c (0 : Int) Kn Kr h
theorem n11_ok (x0 : Option Addr) (x2 : Int) (x10b : Option Addr) (x10n : Nat) (x10c : Nat) (Kn : T6) (Kr : T0) (g : Env) (hg : E6 g x0 x2 x10b x10n x10c) (h : H) (hS : n11 x0 x2 x10b x10n x10c Kn Kr h) : wpC none Try.prog 90 n9_c1 (Q1 Kn Kr) g h := by
  obtain ⟨hg0, hg2, hg10, hds⟩ := hg
  refine wpC_seq' (x := n11_c1) (y := n11_c2) (Q' := (Q4 (fun z0 z2 z10b z10n z10c z11 h => n12 z0 z2 z10b z10n z10c z11 Kn Kr h) Kr)) (by kernel_rfl) ?_ ?_
  · refine wpC_of_wpx (by kernel_rfl) (by kernel_rfl) (g' := (((⟨g.v, []⟩ : Env).upd (some 0) (.pointer x0)).upd (some 2) (.int .i64 x2)).upd (some 10) (.slice x10b x10n x10c)) (by rw [env_ds hds, upd_self hg0, upd_self hg2, upd_self hg10]) ?_
    have e : (n11 x0 x2 x10b x10n x10c Kn Kr h) = wpx none Try.prog 90 n11_c1 (Q4 (fun z0 z2 z10b z10n z10c z11 h => n12 z0 z2 z10b z10n z10c z11 Kn Kr h) Kr) ((((⟨g.v, []⟩ : Env).upd (some 0) (.pointer x0)).upd (some 2) (.int .i64 x2)).upd (some 10) (.slice x10b x10n x10c)) h := by kernel_rfl
    exact e ▸ hS
  · intro e g' h' hq
    cases e with
    | normal =>
      have hq : D7 (fun z0 z2 z10b z10n z10c z11 h => n12 z0 z2 z10b z10n z10c z11 Kn Kr h) g' h' := hq
      obtain ⟨y0, y2, y10b, y10n, y10c, y11, hg', hq⟩ := D7_ok hq
      exact n12_ok y0 y2 y10b y10n y10c y11 Kn Kr g' hg' h' hq
    | _ => exact hq
abbrev n9 (x0 : Option Addr) (x2 : Int) (x10b : Option Addr) (x10n : Nat) (x10c : Nat) (Kn : T0) (Kr : T0) (h : H) : Prop := n11 x0 x2 x10b x10n x10c (fun z0 z2 z10b z10n z10c h => n10 z0 z2 z10b z10n z10c Kn Kr h) Kr h
theorem n9_ok (x0 : Option Addr) (x2 : Int) (x10b : Option Addr) (x10n : Nat) (x10c : Nat) (Kn : T0) (Kr : T0) (g : Env) (hg : E6 g x0 x2 x10b x10n x10c) (h : H) (hS : n9 x0 x2 x10b x10n x10c Kn Kr h) : wpC none Try.prog 90 n8_c2 (Q0 Kn Kr) g h := by
  refine wpC_seq' (x := n9_c1) (y := n9_c2) (by kernel_rfl) (n11_ok x0 x2 x10b x10n x10c (fun z0 z2 z10b z10n z10c h => n10 z0 z2 z10b z10n z10c Kn Kr h) Kr g hg h hS) ?_
  intro e g' h' hq
  cases e with
  | normal =>
    have hq : D6 (fun z0 z2 z10b z10n z10c h => n10 z0 z2 z10b z10n z10c Kn Kr h) g' h' := hq
    obtain ⟨y0, y2, y10b, y10n, y10c, hg', hq⟩ := D6_ok hq
    exact n10_ok y0 y2 y10b y10n y10c Kn Kr g' hg' h' hq
  | _ => exact hq
abbrev n8 (x0 : Option Addr) (x1 : Int) (x2 : Int) (x10b : Option Addr) (x10n : Nat) (x10c : Nat) (Kn : T0) (Kr : T0) (h : H) : Prop :=
  vSome x0 fun a141 => ∃ s142b s142n s142c, cell h (a141.add 0) = some (.slice s142b s142n s142c) ∧ ((0 ≤ x1 ∧ x1 < (s142n : Int)) ∧ (vSome s142b fun a143 => stL ((a143.add (Int.toNat x1 * 8)).add 7) [(.slice none 0 0)] 0 h fun h144 => n9 x0 x2 x10b x10n x10c Kn Kr h144))
theorem n8_ok (x0 : Option Addr) (x1 : Int) (x2 : Int) (x10b : Option Addr) (x10n : Nat) (x10c : Nat) (Kn : T0) (Kr : T0) (g : Env) (hg : E5 g x0 x1 x2 x10b x10n x10c) (h : H) (hS : n8 x0 x1 x2 x10b x10n x10c Kn Kr h) : wpC none Try.prog 90 n7_c2 (Q0 Kn Kr) g h := by
  obtain ⟨hg0, hg1, hg2, hg10, hds⟩ := hg
  refine wpC_seq' (x := n8_c1) (y := n8_c2) (Q' := (Q1 (fun z0 z2 z10b z10n z10c h => n9 z0 z2 z10b z10n z10c Kn Kr h) Kr)) (by kernel_rfl) ?_ ?_
  · refine wpC_of_wpx (by kernel_rfl) (by kernel_rfl) (g' := ((((⟨g.v, []⟩ : Env).upd (some 0) (.pointer x0)).upd (some 1) (.int .i64 x1)).upd (some 2) (.int .i64 x2)).upd (some 10) (.slice x10b x10n x10c)) (by rw [env_ds hds, upd_self hg0, upd_self hg1, upd_self hg2, upd_self hg10]) ?_
    have e : (n8 x0 x1 x2 x10b x10n x10c Kn Kr h) = wpx none Try.prog 90 n8_c1 (Q1 (fun z0 z2 z10b z10n z10c h => n9 z0 z2 z10b z10n z10c Kn Kr h) Kr) (((((⟨g.v, []⟩ : Env).upd (some 0) (.pointer x0)).upd (some 1) (.int .i64 x1)).upd (some 2) (.int .i64 x2)).upd (some 10) (.slice x10b x10n x10c)) h := by kernel_rfl
    exact e ▸ hS
  · intro e g' h' hq
    cases e with
    | normal =>
      have hq : D6 (fun z0 z2 z10b z10n z10c h => n9 z0 z2 z10b z10n z10c Kn Kr h) g' h' := hq
      obtain ⟨y0, y2, y10b, y10n, y10c, hg', hq⟩ := D6_ok hq
      exact n9_ok y0 y2 y10b y10n y10c Kn Kr g' hg' h' hq
    | _ => exact hq
def Q5 (Kn : T5) (Kr : T0) : XPost
  | .normal, g, h => D5 Kn g h
  | .ret, g, h => D0 Kr g h
  | _, _, _ => False
abbrev n7 (x0 : Option Addr) (x1 : Int) (x2 : Int) (Kn : T0) (Kr : T0) (h : H) : Prop :=
  vSome x0 fun a145 => ∃ s146b s146n s146c, cell h (a145.add 0) = some (.slice s146b s146n s146c) ∧ ((0 ≤ x1 ∧ x1 < (s146n : Int)) ∧ (vSome s146b fun a147 => ∃ s148b s148n s148c, cell h ((a147.add (Int.toNat x1 * 8)).add 7) = some (.slice s148b s148n s148c) ∧ (n8 x0 x1 x2 s148b s148n s148c Kn Kr h)))
theorem n7_ok (x0 : Option Addr) (x1 : Int) (x2 : Int) (Kn : T0) (Kr : T0) (g : Env) (hg : E1 g x0 x1 x2) (h : H) (hS : n7 x0 x1 x2 Kn Kr h) : wpC none Try.prog 90 n6_c2 (Q0 Kn Kr) g h := by
  obtain ⟨hg0, hg1, hg2, hds⟩ := hg
  refine wpC_seq' (x := n7_c1) (y := n7_c2) (Q' := (Q5 (fun z0 z1 z2 z10b z10n z10c h => n8 z0 z1 z2 z10b z10n z10c Kn Kr h) Kr)) (by kernel_rfl) ?_ ?_
  · refine wpC_of_wpx (by kernel_rfl) (by kernel_rfl) (g' := (((⟨g.v, []⟩ : Env).upd (some 0) (.pointer x0)).upd (some 1) (.int .i64 x1)).upd (some 2) (.int .i64 x2)) (by rw [env_ds hds, upd_self hg0, upd_self hg1, upd_self hg2]) ?_
    have e : (n7 x0 x1 x2 Kn Kr h) = wpx none Try.prog 90 n7_c1 (Q5 (fun z0 z1 z2 z10b z10n z10c h => n8 z0 z1 z2 z10b z10n z10c Kn Kr h) Kr) ((((⟨g.v, []⟩ : Env).upd (some 0) (.pointer x0)).upd (some 1) (.int .i64 x1)).upd (some 2) (.int .i64 x2)) h := by kernel_rfl
    exact e ▸ hS
  · intro e g' h' hq
    cases e with
    | normal =>
      have hq : D5 (fun z0 z1 z2 z10b z10n z10c h => n8 z0 z1 z2 z10b z10n z10c Kn Kr h) g' h' := hq
      obtain ⟨y0, y1, y2, y10b, y10n, y10c, hg', hq⟩ := D5_ok hq
      exact n8_ok y0 y1 y2 y10b y10n y10c Kn Kr g' hg' h' hq
    | _ => exact hq
def Q6 (Kn : T1) (Kr : T0) : XPost
  | .normal, g, h => D1 Kn g h
  | .ret, g, h => D0 Kr g h
  | _, _, _ => False
abbrev n6 (x0 : Option Addr) (x1 : Int) (x2 : Int) (x9 : Bool) (Kn : T0) (Kr : T0) (h : H) : Prop :=
  cond x9 (Kr false h) (n7 x0 x1 x2 Kn Kr h)
theorem n6_ok (x0 : Option Addr) (x1 : Int) (x2 : Int) (x9 : Bool) (Kn : T0) (Kr : T0) (g : Env) (hg : E4 g x0 x1 x2 x9) (h : H) (hS : n6 x0 x1 x2 x9 Kn Kr h) : wpC none Try.prog 90 n5_c2 (Q0 Kn Kr) g h := by
  obtain ⟨hg0, hg1, hg2, hg9, hds⟩ := hg
  refine wpC_seq' (x := n6_c1) (y := n6_c2) (Q' := (Q6 (fun z0 z1 z2 h => n7 z0 z1 z2 Kn Kr h) Kr)) (by kernel_rfl) ?_ ?_
  · refine wpC_of_wpx (by kernel_rfl) (by kernel_rfl) (g' := ((((⟨g.v, []⟩ : Env).upd (some 0) (.pointer x0)).upd (some 1) (.int .i64 x1)).upd (some 2) (.int .i64 x2)).upd (some 9) (.bool x9)) (by rw [env_ds hds, upd_self hg0, upd_self hg1, upd_self hg2, upd_self hg9]) ?_
    have e : (n6 x0 x1 x2 x9 Kn Kr h) = wpx none Try.prog 90 n6_c1 (Q6 (fun z0 z1 z2 h => n7 z0 z1 z2 Kn Kr h) Kr) (((((⟨g.v, []⟩ : Env).upd (some 0) (.pointer x0)).upd (some 1) (.int .i64 x1)).upd (some 2) (.int .i64 x2)).upd (some 9) (.bool x9)) h := by kernel_rfl
    exact e ▸ hS
  · intro e g' h' hq
    cases e with
    | normal =>
      have hq : D1 (fun z0 z1 z2 h => n7 z0 z1 z2 Kn Kr h) g' h' := hq
      obtain ⟨y0, y1, y2, hg', hq⟩ := D1_ok hq
      exact n7_ok y0 y1 y2 Kn Kr g' hg' h' hq
    | _ => exact hq
def Q7 (Kn : T4) (Kr : T0) : XPost
  | .normal, g, h => D4 Kn g h
  | .ret, g, h => D0 Kr g h
  | _, _, _ => False
abbrev n5 (x0 : Option Addr) (x1 : Int) (x2 : Int) (Kn : T0) (Kr : T0) (h : H) : Prop :=
  HCalls Try.prog 46 ⟨[(.pointer x0), (.int .i64 x2), (.int .i64 x1)]⟩ h fun v149 h150 => vBool v149 fun b151 => cond b151 (n6 x0 x1 x2 true Kn Kr h150) (n6 x0 x1 x2 false Kn Kr h150)
theorem n5_ok (x0 : Option Addr) (x1 : Int) (x2 : Int) (Kn : T0) (Kr : T0) (g : Env) (hg : E1 g x0 x1 x2) (h : H) (hS : n5 x0 x1 x2 Kn Kr h) : wpC none Try.prog 90 n4_c2 (Q0 Kn Kr) g h := by
  obtain ⟨hg0, hg1, hg2, hds⟩ := hg
  refine wpC_seq' (x := n5_c1) (y := n5_c2) (Q' := (Q7 (fun z0 z1 z2 z9 h => n6 z0 z1 z2 z9 Kn Kr h) Kr)) (by kernel_rfl) ?_ ?_
  · refine wpC_of_wpx (by kernel_rfl) (by kernel_rfl) (g' := (((⟨g.v, []⟩ : Env).upd (some 0) (.pointer x0)).upd (some 1) (.int .i64 x1)).upd (some 2) (.int .i64 x2)) (by rw [env_ds hds, upd_self hg0, upd_self hg1, upd_self hg2]) ?_
    have e : (n5 x0 x1 x2 Kn Kr h) = wpx none Try.prog 90 n5_c1 (Q7 (fun z0 z1 z2 z9 h => n6 z0 z1 z2 z9 Kn Kr h) Kr) ((((⟨g.v, []⟩ : Env).upd (some 0) (.pointer x0)).upd (some 1) (.int .i64 x1)).upd (some 2) (.int .i64 x2)) h := by kernel_rfl
    exact e ▸ hS
  · intro e g' h' hq
    cases e with
    | normal =>
      have hq : D4 (fun z0 z1 z2 z9 h => n6 z0 z1 z2 z9 Kn Kr h) g' h' := hq
      obtain ⟨y0, y1, y2, y9, hg', hq⟩ := D4_ok hq
      exact n6_ok y0 y1 y2 y9 Kn Kr g' hg' h' hq
    | _ => exact hq
abbrev n4 (x0 : Option Addr) (x1 : Int) (x2 : Int) (x7 : Bool) (x8 : Bool) (Kn : T0) (Kr : T0) (h : H) : Prop :=
  cond x7 (cond x8 (vSome x0 fun a152 => ∃ s153b s153n s153c, cell h (a152.add 0) = some (.slice s153b s153n s153c) ∧ ((0 ≤ x1 ∧ x1 < (s153n : Int)) ∧ (vSome s153b fun a154 => ∃ s155b s155n s155c, cell h ((a154.add (Int.toNat x1 * 8)).add 7) = some (.slice s155b s155n s155c) ∧ (Spl ((s155n : Int) = (0 : Int)) (Kr false h) (n5 x0 x1 x2 Kn Kr h))))) (Kr false h)) (Kr false h)
theorem n4_ok (x0 : Option Addr) (x1 : Int) (x2 : Int) (x7 : Bool) (x8 : Bool) (Kn : T0) (Kr : T0) (g : Env) (hg : E3 g x0 x1 x2 x7 x8) (h : H) (hS : n4 x0 x1 x2 x7 x8 Kn Kr h) : wpC none Try.prog 90 n3_c2 (Q0 Kn Kr) g h := by
  obtain ⟨hg0, hg1, hg2, hg7, hg8, hds⟩ := hg
  refine wpC_seq' (x := n4_c1) (y := n4_c2) (Q' := (Q6 (fun z0 z1 z2 h => n5 z0 z1 z2 Kn Kr h) Kr)) (by kernel_rfl) ?_ ?_
  · refine wpC_of_wpx (by kernel_rfl) (by kernel_rfl) (g' := (((((⟨g.v, []⟩ : Env).upd (some 0) (.pointer x0)).upd (some 1) (.int .i64 x1)).upd (some 2) (.int .i64 x2)).upd (some 7) (.bool x7)).upd (some 8) (.bool x8)) (by rw [env_ds hds, upd_self hg0, upd_self hg1, upd_self hg2, upd_self hg7, upd_self hg8]) ?_
    have e : (n4 x0 x1 x2 x7 x8 Kn Kr h) = wpx none Try.prog 90 n4_c1 (Q6 (fun z0 z1 z2 h => n5 z0 z1 z2 Kn Kr h) Kr) ((((((⟨g.v, []⟩ : Env).upd (some 0) (.pointer x0)).upd (some 1) (.int .i64 x1)).upd (some 2) (.int .i64 x2)).upd (some 7) (.bool x7)).upd (some 8) (.bool x8)) h := by kernel_rfl
    exact e ▸ hS
  · intro e g' h' hq
    cases e with
    | normal =>
      have hq : D1 (fun z0 z1 z2 h => n5 z0 z1 z2 Kn Kr h) g' h' := hq
      obtain ⟨y0, y1, y2, hg', hq⟩ := D1_ok hq
      exact n5_ok y0 y1 y2 Kn Kr g' hg' h' hq
    | _ => exact hq
def Q8 (Kn : T3) (Kr : T0) : XPost
  | .normal, g, h => D3 Kn g h
  | .ret, g, h => D0 Kr g h
  | _, _, _ => False
abbrev n3 (x0 : Option Addr) (x1 : Int) (x2 : Int) (x7 : Bool) (Kn : T0) (Kr : T0) (h : H) : Prop :=
  HCalls Try.prog 45 ⟨[(.pointer x0), (.int .i64 x2)]⟩ h fun v156 h157 => vBool v156 fun b158 => cond b158 (n4 x0 x1 x2 x7 true Kn Kr h157) (n4 x0 x1 x2 x7 false Kn Kr h157)
theorem n3_ok (x0 : Option Addr) (x1 : Int) (x2 : Int) (x7 : Bool) (Kn : T0) (Kr : T0) (g : Env) (hg : E2 g x0 x1 x2 x7) (h : H) (hS : n3 x0 x1 x2 x7 Kn Kr h) : wpC none Try.prog 90 n2_c2 (Q0 Kn Kr) g h := by
  obtain ⟨hg0, hg1, hg2, hg7, hds⟩ := hg
  refine wpC_seq' (x := n3_c1) (y := n3_c2) (Q' := (Q8 (fun z0 z1 z2 z7 z8 h => n4 z0 z1 z2 z7 z8 Kn Kr h) Kr)) (by kernel_rfl) ?_ ?_
  · refine wpC_of_wpx (by kernel_rfl) (by kernel_rfl) (g' := ((((⟨g.v, []⟩ : Env).upd (some 0) (.pointer x0)).upd (some 1) (.int .i64 x1)).upd (some 2) (.int .i64 x2)).upd (some 7) (.bool x7)) (by rw [env_ds hds, upd_self hg0, upd_self hg1, upd_self hg2, upd_self hg7]) ?_
    have e : (n3 x0 x1 x2 x7 Kn Kr h) = wpx none Try.prog 90 n3_c1 (Q8 (fun z0 z1 z2 z7 z8 h => n4 z0 z1 z2 z7 z8 Kn Kr h) Kr) (((((⟨g.v, []⟩ : Env).upd (some 0) (.pointer x0)).upd (some 1) (.int .i64 x1)).upd (some 2) (.int .i64 x2)).upd (some 7) (.bool x7)) h := by kernel_rfl
    exact e ▸ hS
  · intro e g' h' hq
    cases e with
    | normal =>
      have hq : D3 (fun z0 z1 z2 z7 z8 h => n4 z0 z1 z2 z7 z8 Kn Kr h) g' h' := hq
      obtain ⟨y0, y1, y2, y7, y8, hg', hq⟩ := D3_ok hq
      exact n4_ok y0 y1 y2 y7 y8 Kn Kr g' hg' h' hq
    | _ => exact hq
def Q9 (Kn : T2) (Kr : T0) : XPost
  | .normal, g, h => D2 Kn g h
  | .ret, g, h => D0 Kr g h
  | _, _, _ => False
abbrev n2 (x0 : Option Addr) (x1 : Int) (x2 : Int) (Kn : T0) (Kr : T0) (h : H) : Prop :=
  HCalls Try.prog 44 ⟨[(.pointer x0), (.int .i64 x1)]⟩ h fun v159 h160 => vBool v159 fun b161 => cond b161 (n3 x0 x1 x2 true Kn Kr h160) (n3 x0 x1 x2 false Kn Kr h160)
theorem n2_ok (x0 : Option Addr) (x1 : Int) (x2 : Int) (Kn : T0) (Kr : T0) (g : Env) (hg : E1 g x0 x1 x2) (h : H) (hS : n2 x0 x1 x2 Kn Kr h) : wpC none Try.prog 90 n1_c2 (Q0 Kn Kr) g h := by
  obtain ⟨hg0, hg1, hg2, hds⟩ := hg
  refine wpC_seq' (x := n2_c1) (y := n2_c2) (Q' := (Q9 (fun z0 z1 z2 z7 h => n3 z0 z1 z2 z7 Kn Kr h) Kr)) (by kernel_rfl) ?_ ?_
  · refine wpC_of_wpx (by kernel_rfl) (by kernel_rfl) (g' := (((⟨g.v, []⟩ : Env).upd (some 0) (.pointer x0)).upd (some 1) (.int .i64 x1)).upd (some 2) (.int .i64 x2)) (by rw [env_ds hds, upd_self hg0, upd_self hg1, upd_self hg2]) ?_
    have e : (n2 x0 x1 x2 Kn Kr h) = wpx none Try.prog 90 n2_c1 (Q9 (fun z0 z1 z2 z7 h => n3 z0 z1 z2 z7 Kn Kr h) Kr) ((((⟨g.v, []⟩ : Env).upd (some 0) (.pointer x0)).upd (some 1) (.int .i64 x1)).upd (some 2) (.int .i64 x2)) h := by kernel_rfl
    exact e ▸ hS
  · intro e g' h' hq
    cases e with
    | normal =>
      have hq : D2 (fun z0 z1 z2 z7 h => n3 z0 z1 z2 z7 Kn Kr h) g' h' := hq
      obtain ⟨y0, y1, y2, y7, hg', hq⟩ := D2_ok hq
      exact n3_ok y0 y1 y2 y7 Kn Kr g' hg' h' hq
    | _ => exact hq
abbrev n1 (x0 : Option Addr) (x1 : Int) (x2 : Int) (Kn : T0) (Kr : T0) (h : H) : Prop :=
  n2 x0 x1 x2 Kn Kr h
theorem n1_ok (x0 : Option Addr) (x1 : Int) (x2 : Int) (Kn : T0) (Kr : T0) (g : Env) (hg : E1 g x0 x1 x2) (h : H) (hS : n1 x0 x1 x2 Kn Kr h) : wpC none Try.prog 90 code (Q0 Kn Kr) g h := by
  obtain ⟨hg0, hg1, hg2, hds⟩ := hg
  refine wpC_seq' (x := n1_c1) (y := n1_c2) (Q' := (Q6 (fun z0 z1 z2 h => n2 z0 z1 z2 Kn Kr h) Kr)) (by kernel_rfl) ?_ ?_
  · refine wpC_of_wpx (by kernel_rfl) (by kernel_rfl) (g' := (((⟨g.v, []⟩ : Env).upd (some 0) (.pointer x0)).upd (some 1) (.int .i64 x1)).upd (some 2) (.int .i64 x2)) (by rw [env_ds hds, upd_self hg0, upd_self hg1, upd_self hg2]) ?_
    have e : (n1 x0 x1 x2 Kn Kr h) = wpx none Try.prog 90 n1_c1 (Q6 (fun z0 z1 z2 h => n2 z0 z1 z2 Kn Kr h) Kr) ((((⟨g.v, []⟩ : Env).upd (some 0) (.pointer x0)).upd (some 1) (.int .i64 x1)).upd (some 2) (.int .i64 x2)) h := by kernel_rfl
    exact e ▸ hS
  · intro e g' h' hq
    cases e with
    | normal =>
      have hq : D1 (fun z0 z1 z2 h => n2 z0 z1 z2 Kn Kr h) g' h' := hq
      obtain ⟨y0, y1, y2, hg', hq⟩ := D1_ok hq
      exact n2_ok y0 y1 y2 Kn Kr g' hg' h' hq
    | _ => exact hq
/-- WHAT (*tympan/tympanref10.Tree).Move ASKS -/
abbrev asks (x0 : Option Addr) (x1 : Int) (x2 : Int) (K : Value → H → Prop) (h : H) : Prop := n1 x0 x1 x2 (fun y6 h => K (.bool y6) h) (fun y6 h => K (.bool y6) h) h
theorem ok (x0 : Option Addr) (x1 : Int) (x2 : Int) (K : Value → H → Prop) (h : H) (hS : asks x0 x1 x2 K h) : HCalls Try.prog 25 ⟨[(.pointer x0), (.int .i64 x1), (.int .i64 x2)]⟩ h K := by
  refine calls_of_wpC (c := code) Try.func25 (by kernel_rfl) (Nat.le_of_ble_eq_true (by kernel_rfl)) ?_
  refine (n1_ok x0 x1 x2 (fun y6 h => K (.bool y6) h) (fun y6 h => K (.bool y6) h) (env0 [(.pointer x0), (.int .i64 x1), (.int .i64 x2)]) ⟨rfl, rfl, rfl, rfl⟩ h hS).mono ?_
  intro e g' h' hq
  cases e with
  | normal =>
    have hq : D0 (fun y6 h => K (.bool y6) h) g' h' := hq
    obtain ⟨y6, ⟨hg6, hd⟩, hq⟩ := D0_ok hq
    show leaveX g'.ds h' _
    rw [hd]
    show K (g'.v 6) h'
    rw [hg6]
    exact hq
  | ret =>
    have hq : D0 (fun y6 h => K (.bool y6) h) g' h' := hq
    obtain ⟨y6, ⟨hg6, hd⟩, hq⟩ := D0_ok hq
    show leaveX g'.ds h' _
    rw [hd]
    show K (g'.v 6) h'
    rw [hg6]
    exact hq
  | _ => exact hq
end Sx.r10_Tree_Move

/-! ### (*tympan/tympanref10.Tree).Write -/
namespace Sx.r10_Tree_Write
noncomputable def code : Code := bodyOf Try.f27
abbrev T0 := Bool → H → Prop
def E0 (g : Env) (x8 : Bool) : Prop := g.v 8 = (.bool x8) ∧ g.ds = []
def D0 (K : T0) (g : Env) (h : H) : Prop := nilDs g.ds (vBool (g.v 8) fun b1 => K b1 h)
theorem D0_ok {K : T0} {g : Env} {h : H} (hq : D0 K g h) : ∃ (x8 : Bool), E0 g x8 ∧ K x8 h := by
  obtain ⟨hd, hq⟩ := nilDs_ok hq
  obtain ⟨y3, e2, q4⟩ := vBool_ok hq
  exact ⟨y3, ⟨e2, hd⟩, q4⟩
def Q0 (Kn : T0) (Kr : T0) : XPost
  | .normal, g, h => D0 Kn g h
  | .ret, g, h => D0 Kr g h
  | _, _, _ => False
abbrev T1 := (Option Addr) → Int → Int → (List UInt8) → H → Prop
def E1 (g : Env) (x0 : Option Addr) (x1 : Int) (x2 : Int) (x3 : List UInt8) : Prop := g.v 0 = (.pointer x0) ∧ g.v 1 = (.int .i64 x1) ∧ g.v 2 = (.int .i64 x2) ∧ g.v 3 = (S x3) ∧ g.ds = []
def D1 (K : T1) (g : Env) (h : H) : Prop := nilDs g.ds (vPtr (g.v 0) fun p5 => vInt .i64 (g.v 1) fun i6 => vInt .i64 (g.v 2) fun i7 => vStr (g.v 3) fun s8 => K p5 i6 i7 s8 h)
theorem D1_ok {K : T1} {g : Env} {h : H} (hq : D1 K g h) : ∃ (x0 : Option Addr) (x1 : Int) (x2 : Int) (x3 : List UInt8), E1 g x0 x1 x2 x3 ∧ K x0 x1 x2 x3 h := by
  obtain ⟨hd, hq⟩ := nilDs_ok hq
  obtain ⟨y10, e9, q11⟩ := vPtr_ok hq
  obtain ⟨y13, e12, q14⟩ := vInt_ok q11
  obtain ⟨y16, e15, q17⟩ := vInt_ok q14
  obtain ⟨y19, e18, q20⟩ := vStr_ok q17
  exact ⟨y10, y13, y16, y19, ⟨e9, e12, e15, e18, hd⟩, q20⟩
noncomputable def n1_c1 : Code := cFst code
noncomputable def n1_c2 : Code := cSnd code
noncomputable def n2_c1 : Code := cFst n1_c2
noncomputable def n2_c2 : Code := cSnd n1_c2
abbrev T2 := (Option Addr) → Int → Int → (List UInt8) → Bool → H → Prop
def E2 (g : Env) (x0 : Option Addr) (x1 : Int) (x2 : Int) (x3 : List UInt8) (x9 : Bool) : Prop := g.v 0 = (.pointer x0) ∧ g.v 1 = (.int .i64 x1) ∧ g.v 2 = (.int .i64 x2) ∧ g.v 3 = (S x3) ∧ g.v 9 = (.bool x9) ∧ g.ds = []
def D2 (K : T2) (g : Env) (h : H) : Prop := nilDs g.ds (vPtr (g.v 0) fun p21 => vInt .i64 (g.v 1) fun i22 => vInt .i64 (g.v 2) fun i23 => vStr (g.v 3) fun s24 => vBool (g.v 9) fun b25 => K p21 i22 i23 s24 b25 h)
theorem D2_ok {K : T2} {g : Env} {h : H} (hq : D2 K g h) : ∃ (x0 : Option Addr) (x1 : Int) (x2 : Int) (x3 : List UInt8) (x9 : Bool), E2 g x0 x1 x2 x3 x9 ∧ K x0 x1 x2 x3 x9 h := by
  obtain ⟨hd, hq⟩ := nilDs_ok hq
  obtain ⟨y27, e26, q28⟩ := vPtr_ok hq
  obtain ⟨y30, e29, q31⟩ := vInt_ok q28
  obtain ⟨y33, e32, q34⟩ := vInt_ok q31
  obtain ⟨y36, e35, q37⟩ := vStr_ok q34
  obtain ⟨y39, e38, q40⟩ := vBool_ok q37
  exact ⟨y27, y30, y33, y36, y39, ⟨e26, e29, e32, e35, e38, hd⟩, q40⟩
noncomputable def n3_c1 : Code := cFst n2_c2
noncomputable def n3_c2 : Code := cSnd n2_c2
noncomputable def n4_c1 : Code := cFst n3_c2
noncomputable def n4_c2 : Code := cSnd n3_c2
abbrev T3 := (Option Addr) → Int → Int → (List UInt8) → Int → H → Prop
def E3 (g : Env) (x0 : Option Addr) (x1 : Int) (x2 : Int) (x3 : List UInt8) (x10 : Int) : Prop := g.v 0 = (.pointer x0) ∧ g.v 1 = (.int .i64 x1) ∧ g.v 2 = (.int .i64 x2) ∧ g.v 3 = (S x3) ∧ g.v 10 = (.int .i64 x10) ∧ g.ds = []
def D3 (K : T3) (g : Env) (h : H) : Prop := nilDs g.ds (vPtr (g.v 0) fun p41 => vInt .i64 (g.v 1) fun i42 => vInt .i64 (g.v 2) fun i43 => vStr (g.v 3) fun s44 => vInt .i64 (g.v 10) fun i45 => K p41 i42 i43 s44 i45 h)
theorem D3_ok {K : T3} {g : Env} {h : H} (hq : D3 K g h) : ∃ (x0 : Option Addr) (x1 : Int) (x2 : Int) (x3 : List UInt8) (x10 : Int), E3 g x0 x1 x2 x3 x10 ∧ K x0 x1 x2 x3 x10 h := by
  obtain ⟨hd, hq⟩ := nilDs_ok hq
  obtain ⟨y47, e46, q48⟩ := vPtr_ok hq
  obtain ⟨y50, e49, q51⟩ := vInt_ok q48
  obtain ⟨y53, e52, q54⟩ := vInt_ok q51
  obtain ⟨y56, e55, q57⟩ := vStr_ok q54
  obtain ⟨y59, e58, q60⟩ := vInt_ok q57
  exact ⟨y47, y50, y53, y56, y59, ⟨e46, e49, e52, e55, e58, hd⟩, q60⟩
noncomputable def n5_c1 : Code := cFst n4_c2
noncomputable def n5_c2 : Code := cSnd n4_c2
noncomputable def n6_c1 : Code := cFst n5_c2
noncomputable def n6_c2 : Code := cSnd n5_c2
noncomputable def n7_c1 : Code := cFst n6_c2
noncomputable def n7_c2 : Code := cSnd n6_c2
abbrev n8 (x0 : Option Addr) (x1 : Int) (x2 : Int) (x3 : List UInt8) (Kn : T0) (Kr : T0) (h : H) : Prop :=
  HCalls Try.prog 18 ⟨[(.pointer x0), (.agg ⟨[(.int .u8 (2 : Int)), (.int .u8 (0 : Int)), (S ([] : List UInt8)), (.slice none 0 0), (S x3), (.slice none 0 0)]⟩)]⟩ h fun v61 h62 => vInt .i64 v61 fun i63 => HCalls Try.prog 21 ⟨[(.pointer x0), (.int .i64 x1), (.int .i64 x2), (.int .i64 i63)]⟩ h62 fun v64 h65 => vBool v64 fun b66 => cond b66 (Kr true h65) (Kr false h65)
theorem n8_ok (x0 : Option Addr) (x1 : Int) (x2 : Int) (x3 : List UInt8) (Kn : T0) (Kr : T0) (g : Env) (hg : E1 g x0 x1 x2 x3) (h : H) (hS : n8 x0 x1 x2 x3 Kn Kr h) : wpC none Try.prog 78 n7_c2 (Q0 Kn Kr) g h := by
  obtain ⟨hg0, hg1, hg2, hg3, hds⟩ := hg
  refine wpC_of_wpx (by kernel_rfl) (by kernel_rfl) (g' := ((((⟨g.v, []⟩ : Env).upd (some 0) (.pointer x0)).upd (some 1) (.int .i64 x1)).upd (some 2) (.int .i64 x2)).upd (some 3) (S x3)) (by rw [env_ds hds, upd_self hg0, upd_self hg1, upd_self hg2, upd_self hg3]) ?_
  have e : (n8 x0 x1 x2 x3 Kn Kr h) = wpx none Try.prog 78 n7_c2 (Q0 Kn Kr) (((((⟨g.v, []⟩ : Env).upd (some 0) (.pointer x0)).upd (some 1) (.int .i64 x1)).upd (some 2) (.int .i64 x2)).upd (some 3) (S x3)) h := by kernel_rfl
  exact e ▸ hS
def Q1 (Kn : T1) (Kr : T0) : XPost
  | .normal, g, h => D1 Kn g h
  | .ret, g, h => D0 Kr g h
  | _, _, _ => False
noncomputable def n9_c1 : Code := cFst n7_c1
noncomputable def n9_c2 : Code := cSnd n7_c1
abbrev T4 := (Option Addr) → Int → Int → (List UInt8) → Int → Bool → H → Prop
def E4 (g : Env) (x0 : Option Addr) (x1 : Int) (x2 : Int) (x3 : List UInt8) (x10 : Int) (x27 : Bool) : Prop := g.v 0 = (.pointer x0) ∧ g.v 1 = (.int .i64 x1) ∧ g.v 2 = (.int .i64 x2) ∧ g.v 3 = (S x3) ∧ g.v 10 = (.int .i64 x10) ∧ g.v 27 = (.bool x27) ∧ g.ds = []
def D4 (K : T4) (g : Env) (h : H) : Prop := nilDs g.ds (vPtr (g.v 0) fun p67 => vInt .i64 (g.v 1) fun i68 => vInt .i64 (g.v 2) fun i69 => vStr (g.v 3) fun s70 => vInt .i64 (g.v 10) fun i71 => vBool (g.v 27) fun b72 => K p67 i68 i69 s70 i71 b72 h)
theorem D4_ok {K : T4} {g : Env} {h : H} (hq : D4 K g h) : ∃ (x0 : Option Addr) (x1 : Int) (x2 : Int) (x3 : List UInt8) (x10 : Int) (x27 : Bool), E4 g x0 x1 x2 x3 x10 x27 ∧ K x0 x1 x2 x3 x10 x27 h := by
  obtain ⟨hd, hq⟩ := nilDs_ok hq
  obtain ⟨y74, e73, q75⟩ := vPtr_ok hq
  obtain ⟨y77, e76, q78⟩ := vInt_ok q75
  obtain ⟨y80, e79, q81⟩ := vInt_ok q78
  obtain ⟨y83, e82, q84⟩ := vStr_ok q81
  obtain ⟨y86, e85, q87⟩ := vInt_ok q84
  obtain ⟨y89, e88, q90⟩ := vBool_ok q87
  exact ⟨y74, y77, y80, y83, y86, y89, ⟨e73, e76, e79, e82, e85, e88, hd⟩, q90⟩
noncomputable def n10_c1 : Code := cFst n9_c2
noncomputable def n10_c2 : Code := cSnd n9_c2
noncomputable def n11_c1 : Code := cFst n10_c1
noncomputable def n11_c2 : Code := cSnd n10_c1
abbrev T5 := (Option Addr) → Int → Int → (List UInt8) → Int → H → Prop
def E5 (g : Env) (x0 : Option Addr) (x1 : Int) (x2 : Int) (x3 : List UInt8) (x11 : Int) : Prop := g.v 0 = (.pointer x0) ∧ g.v 1 = (.int .i64 x1) ∧ g.v 2 = (.int .i64 x2) ∧ g.v 3 = (S x3) ∧ g.v 11 = (.int .i64 x11) ∧ g.ds = []
def D5 (K : T5) (g : Env) (h : H) : Prop := nilDs g.ds (vPtr (g.v 0) fun p91 => vInt .i64 (g.v 1) fun i92 => vInt .i64 (g.v 2) fun i93 => vStr (g.v 3) fun s94 => vInt .i64 (g.v 11) fun i95 => K p91 i92 i93 s94 i95 h)
theorem D5_ok {K : T5} {g : Env} {h : H} (hq : D5 K g h) : ∃ (x0 : Option Addr) (x1 : Int) (x2 : Int) (x3 : List UInt8) (x11 : Int), E5 g x0 x1 x2 x3 x11 ∧ K x0 x1 x2 x3 x11 h := by
  obtain ⟨hd, hq⟩ := nilDs_ok hq
  obtain ⟨y97, e96, q98⟩ := vPtr_ok hq
  obtain ⟨y100, e99, q101⟩ := vInt_ok q98
  obtain ⟨y103, e102, q104⟩ := vInt_ok q101
  obtain ⟨y106, e105, q107⟩ := vStr_ok q104
  obtain ⟨y109, e108, q110⟩ := vInt_ok q107
  exact ⟨y97, y100, y103, y106, y109, ⟨e96, e99, e102, e105, e108, hd⟩, q110⟩
noncomputable def n12_c1 : Code := cFst n11_c2
noncomputable def n12_c2 : Code := cSnd n11_c2
abbrev T6 := (Option Addr) → Int → Int → (List UInt8) → Int → Bool → H → Prop
def E6 (g : Env) (x0 : Option Addr) (x1 : Int) (x2 : Int) (x3 : List UInt8) (x11 : Int) (x49 : Bool) : Prop := g.v 0 = (.pointer x0) ∧ g.v 1 = (.int .i64 x1) ∧ g.v 2 = (.int .i64 x2) ∧ g.v 3 = (S x3) ∧ g.v 11 = (.int .i64 x11) ∧ g.v 49 = (.bool x49) ∧ g.ds = []
def D6 (K : T6) (g : Env) (h : H) : Prop := nilDs g.ds (vPtr (g.v 0) fun p111 => vInt .i64 (g.v 1) fun i112 => vInt .i64 (g.v 2) fun i113 => vStr (g.v 3) fun s114 => vInt .i64 (g.v 11) fun i115 => vBool (g.v 49) fun b116 => K p111 i112 i113 s114 i115 b116 h)
theorem D6_ok {K : T6} {g : Env} {h : H} (hq : D6 K g h) : ∃ (x0 : Option Addr) (x1 : Int) (x2 : Int) (x3 : List UInt8) (x11 : Int) (x49 : Bool), E6 g x0 x1 x2 x3 x11 x49 ∧ K x0 x1 x2 x3 x11 x49 h := by
  obtain ⟨hd, hq⟩ := nilDs_ok hq
  obtain ⟨y118, e117, q119⟩ := vPtr_ok hq
  obtain ⟨y121, e120, q122⟩ := vInt_ok q119
  obtain ⟨y124, e123, q125⟩ := vInt_ok q122
  obtain ⟨y127, e126, q128⟩ := vStr_ok q125
  obtain ⟨y130, e129, q131⟩ := vInt_ok q128
  obtain ⟨y133, e132, q134⟩ := vBool_ok q131
  exact ⟨y118, y121, y124, y127, y130, y133, ⟨e117, e120, e123, e126, e129, e132, hd⟩, q134⟩
abbrev n13 (x0 : Option Addr) (x1 : Int) (x2 : Int) (x3 : List UInt8) (x11 : Int) (x49 : Bool) (Kn : T1) (Kr : T0) (h : H) : Prop :=
  cond x49 (vSome x0 fun a135 => ∃ s136b s136n s136c, cell h (a135.add 0) = some (.slice s136b s136n s136c) ∧ (vSome x0 fun a137 => ∃ s138b s138n s138c, cell h (a137.add 0) = some (.slice s138b s138n s138c) ∧ ((0 ≤ x11 ∧ x11 < (s138n : Int)) ∧ (vSome s138b fun a139 => ∃ s140, cell h (((a139.add (Int.toNat x11 * 8)).add 0).add 4) = some (S s140) ∧ (((s140.length + x3.length : Nat) : Int) ≤ 9223372036854775807 ∧ ((0 ≤ x11 ∧ x11 < (s136n : Int)) ∧ (vSome s136b fun a141 => stL (((a141.add (Int.toNat x11 * 8)).add 0).add 4) [(S (s140 ++ x3))] 0 h fun h142 => Kr true h142))))))) (Kn x0 x1 x2 x3 h)
theorem n13_ok (x0 : Option Addr) (x1 : Int) (x2 : Int) (x3 : List UInt8) (x11 : Int) (x49 : Bool) (Kn : T1) (Kr : T0) (g : Env) (hg : E6 g x0 x1 x2 x3 x11 x49) (h : H) (hS : n13 x0 x1 x2 x3 x11 x49 Kn Kr h) : wpC none Try.prog 78 n12_c2 (Q1 Kn Kr) g h := by
  obtain ⟨hg0, hg1, hg2, hg3, hg11, hg49, hds⟩ := hg
  refine wpC_of_wpx (by kernel_rfl) (by kernel_rfl) (g' := ((((((⟨g.v, []⟩ : Env).upd (some 0) (.pointer x0)).upd (some 1) (.int .i64 x1)).upd (some 2) (.int .i64 x2)).upd (some 3) (S x3)).upd (some 11) (.int .i64 x11)).upd (some 49) (.bool x49)) (by rw [env_ds hds, upd_self hg0, upd_self hg1, upd_self hg2, upd_self hg3, upd_self hg11, upd_self hg49]) ?_
  have e : (n13 x0 x1 x2 x3 x11 x49 Kn Kr h) = wpx none Try.prog 78 n12_c2 (Q1 Kn Kr) (((((((⟨g.v, []⟩ : Env).upd (some 0) (.pointer x0)).upd (some 1) (.int .i64 x1)).upd (some 2) (.int .i64 x2)).upd (some 3) (S x3)).upd (some 11) (.int .i64 x11)).upd (some 49) (.bool x49)) h := by kernel_rfl
  exact e ▸ hS
def Q2 (Kn : T6) (Kr : T0) : XPost
  | .normal, g, h => D6 Kn g h
  | .ret, g, h => D0 Kr g h
  | _, _, _ => False
abbrev n12 (x0 : Option Addr) (x1 : Int) (x2 : Int) (x3 : List UInt8) (x11 : Int) (Kn : T1) (Kr : T0) (h : H) : Prop :=
  vSome x0 fun a143 => ∃ s144b s144n s144c, cell h (a143.add 0) = some (.slice s144b s144n s144c) ∧ ((0 ≤ x11 ∧ x11 < (s144n : Int)) ∧ (vSome s144b fun a145 => ∃ i146, cell h (((a145.add (Int.toNat x11 * 8)).add 0).add 0) = some (.int .u8 i146) ∧ (Spl (i146 = (2 : Int)) (n13 x0 x1 x2 x3 x11 true Kn Kr h) (n13 x0 x1 x2 x3 x11 false Kn Kr h))))
theorem n12_ok (x0 : Option Addr) (x1 : Int) (x2 : Int) (x3 : List UInt8) (x11 : Int) (Kn : T1) (Kr : T0) (g : Env) (hg : E5 g x0 x1 x2 x3 x11) (h : H) (hS : n12 x0 x1 x2 x3 x11 Kn Kr h) : wpC none Try.prog 78 n11_c2 (Q1 Kn Kr) g h := by
  obtain ⟨hg0, hg1, hg2, hg3, hg11, hds⟩ := hg
  refine wpC_seq' (x := n12_c1) (y := n12_c2) (Q' := (Q2 (fun z0 z1 z2 z3 z11 z49 h => n13 z0 z1 z2 z3 z11 z49 Kn Kr h) Kr)) (by kernel_rfl) ?_ ?_
  · refine wpC_of_wpx (by kernel_rfl) (by kernel_rfl) (g' := (((((⟨g.v, []⟩ : Env).upd (some 0) (.pointer x0)).upd (some 1) (.int .i64 x1)).upd (some 2) (.int .i64 x2)).upd (some 3) (S x3)).upd (some 11) (.int .i64 x11)) (by rw [env_ds hds, upd_self hg0, upd_self hg1, upd_self hg2, upd_self hg3, upd_self hg11]) ?_
    have e : (n12 x0 x1 x2 x3 x11 Kn Kr h) = wpx none Try.prog 78 n12_c1 (Q2 (fun z0 z1 z2 z3 z11 z49 h => n13 z0 z1 z2 z3 z11 z49 Kn Kr h) Kr) ((((((⟨g.v, []⟩ : Env).upd (some 0) (.pointer x0)).upd (some 1) (.int .i64 x1)).upd (some 2) (.int .i64 x2)).upd (some 3) (S x3)).upd (some 11) (.int .i64 x11)) h := by kernel_rfl
    exact e ▸ hS
  · intro e g' h' hq
    cases e with
    | normal =>
      have hq : D6 (fun z0 z1 z2 z3 z11 z49 h => n13 z0 z1 z2 z3 z11 z49 Kn Kr h) g' h' := hq
      obtain ⟨y0, y1, y2, y3, y11, y49, hg', hq⟩ := D6_ok hq
      exact n13_ok y0 y1 y2 y3 y11 y49 Kn Kr g' hg' h' hq
    | _ => exact hq
def Q3 (Kn : T5) (Kr : T0) : XPost
  | .normal, g, h => D5 Kn g h
  | .ret, g, h => D0 Kr g h
  | _, _, _ => False
abbrev n11 (x0 : Option Addr) (x1 : Int) (x2 : Int) (x3 : List UInt8) (x10 : Int) (Kn : T1) (Kr : T0) (h : H) : Prop :=
  vSome x0 fun a147 => ∃ s148b s148n s148c, cell h (a147.add 0) = some (.slice s148b s148n s148c) ∧ ((0 ≤ x1 ∧ x1 < (s148n : Int)) ∧ (vSome s148b fun a149 => ∃ s150b s150n s150c, cell h ((a149.add (Int.toNat x1 * 8)).add 7) = some (.slice s150b s150n s150c) ∧ (Rng .i64 (x10 - (1 : Int)) ∧ ((0 ≤ (x10 - (1 : Int)) ∧ (x10 - (1 : Int)) < (s150n : Int)) ∧ (vSome s150b fun a151 => ∃ i152, cell h (a151.add (Int.toNat (x10 - (1 : Int)) * 1)) = some (.int .i64 i152) ∧ (n12 x0 x1 x2 x3 i152 Kn Kr h))))))
theorem n11_ok (x0 : Option Addr) (x1 : Int) (x2 : Int) (x3 : List UInt8) (x10 : Int) (Kn : T1) (Kr : T0) (g : Env) (hg : E3 g x0 x1 x2 x3 x10) (h : H) (hS : n11 x0 x1 x2 x3 x10 Kn Kr h) : wpC none Try.prog 78 n10_c1 (Q1 Kn Kr) g h := by
  obtain ⟨hg0, hg1, hg2, hg3, hg10, hds⟩ := hg
  refine wpC_seq' (x := n11_c1) (y := n11_c2) (Q' := (Q3 (fun z0 z1 z2 z3 z11 h => n12 z0 z1 z2 z3 z11 Kn Kr h) Kr)) (by kernel_rfl) ?_ ?_
  · refine wpC_of_wpx (by kernel_rfl) (by kernel_rfl) (g' := (((((⟨g.v, []⟩ : Env).upd (some 0) (.pointer x0)).upd (some 1) (.int .i64 x1)).upd (some 2) (.int .i64 x2)).upd (some 3) (S x3)).upd (some 10) (.int .i64 x10)) (by rw [env_ds hds, upd_self hg0, upd_self hg1, upd_self hg2, upd_self hg3, upd_self hg10]) ?_
    have e : (n11 x0 x1 x2 x3 x10 Kn Kr h) = wpx none Try.prog 78 n11_c1 (Q3 (fun z0 z1 z2 z3 z11 h => n12 z0 z1 z2 z3 z11 Kn Kr h) Kr) ((((((⟨g.v, []⟩ : Env).upd (some 0) (.pointer x0)).upd (some 1) (.int .i64 x1)).upd (some 2) (.int .i64 x2)).upd (some 3) (S x3)).upd (some 10) (.int .i64 x10)) h := by kernel_rfl
    exact e ▸ hS
  · intro e g' h' hq
    cases e with
    | normal =>
      have hq : D5 (fun z0 z1 z2 z3 z11 h => n12 z0 z1 z2 z3 z11 Kn Kr h) g' h' := hq
      obtain ⟨y0, y1, y2, y3, y11, hg', hq⟩ := D5_ok hq
      exact n12_ok y0 y1 y2 y3 y11 Kn Kr g' hg' h' hq
    | _ => exact hq
abbrev n14 (x0 : Option Addr) (x1 : Int) (x2 : Int) (x3 : List UInt8) (Kn : T1) (Kr : T0) (h : H) : Prop :=
  Kn x0 x1 x2 x3 h
theorem n14_ok (x0 : Option Addr) (x1 : Int) (x2 : Int) (x3 : List UInt8) (Kn : T1) (Kr : T0) (g : Env) (hg : E1 g x0 x1 x2 x3) (h : H) (hS : n14 x0 x1 x2 x3 Kn Kr h) : wpC none Try.prog 78 n10_c2 (Q1 Kn Kr) g h := by
  obtain ⟨hg0, hg1, hg2, hg3, hds⟩ := hg
  refine wpC_of_wpx (by kernel_rfl) (by kernel_rfl) (g' := ((((⟨g.v, []⟩ : Env).upd (some 0) (.pointer x0)).upd (some 1) (.int .i64 x1)).upd (some 2) (.int .i64 x2)).upd (some 3) (S x3)) (by rw [env_ds hds, upd_self hg0, upd_self hg1, upd_self hg2, upd_self hg3]) ?_
  have e : (n14 x0 x1 x2 x3 Kn Kr h) = wpx none Try.prog 78 n10_c2 (Q1 Kn Kr) (((((⟨g.v, []⟩ : Env).upd (some 0) (.pointer x0)).upd (some 1) (.int .i64 x1)).upd (some 2) (.int .i64 x2)).upd (some 3) (S x3)) h := by kernel_rfl
  exact e ▸ hS
abbrev n10 (x0 : Option Addr) (x1 : Int) (x2 : Int) (x3 : List UInt8) (x10 : Int) (x27 : Bool) (Kn : T1) (Kr : T0) (h : H) : Prop := cond x27 (n11 x0 x1 x2 x3 x10 Kn Kr h) (n14 x0 x1 x2 x3 Kn Kr h)
theorem n10_ok (x0 : Option Addr) (x1 : Int) (x2 : Int) (x3 : List UInt8) (x10 : Int) (x27 : Bool) (Kn : T1) (Kr : T0) (g : Env) (hg : E4 g x0 x1 x2 x3 x10 x27) (h : H) (hS : n10 x0 x1 x2 x3 x10 x27 Kn Kr h) : wpC none Try.prog 78 n9_c2 (Q1 Kn Kr) g h := by
  obtain ⟨hg0, hg1, hg2, hg3, hg10, hg27, hds⟩ := hg
  have hx : evalE 78 g (.tmp 27) = .bool x27 := by
    show cond (Nat.blt 27 78) (g.v 27) undef = _
    rw [hg27]; rfl
  unfold n10 at hS
  refine wpC_cond' (o := .tmp 27) (x := n10_c1) (y := n10_c2) (by kernel_rfl) hx (fun hb => ?_) (fun hb => ?_)
  · subst hb
    exact n11_ok x0 x1 x2 x3 x10 Kn Kr g ⟨hg0, hg1, hg2, hg3, hg10, hds⟩ h hS
  · subst hb
    exact n14_ok x0 x1 x2 x3 Kn Kr g ⟨hg0, hg1, hg2, hg3, hds⟩ h hS
def Q4 (Kn : T4) (Kr : T0) : XPost
  | .normal, g, h => D4 Kn g h
  | .ret, g, h => D0 Kr g h
  | _, _, _ => False
abbrev n9 (x0 : Option Addr) (x1 : Int) (x2 : Int) (x3 : List UInt8) (x10 : Int) (Kn : T1) (Kr : T0) (h : H) : Prop :=
  Spl (x10 > (0 : Int)) (n10 x0 x1 x2 x3 x10 true Kn Kr h) (n10 x0 x1 x2 x3 x10 false Kn Kr h)
theorem n9_ok (x0 : Option Addr) (x1 : Int) (x2 : Int) (x3 : List UInt8) (x10 : Int) (Kn : T1) (Kr : T0) (g : Env) (hg : E3 g x0 x1 x2 x3 x10) (h : H) (hS : n9 x0 x1 x2 x3 x10 Kn Kr h) : wpC none Try.prog 78 n7_c1 (Q1 Kn Kr) g h := by
  obtain ⟨hg0, hg1, hg2, hg3, hg10, hds⟩ := hg
  refine wpC_seq' (x := n9_c1) (y := n9_c2) (Q' := (Q4 (fun z0 z1 z2 z3 z10 z27 h => n10 z0 z1 z2 z3 z10 z27 Kn Kr h) Kr)) (by kernel_rfl) ?_ ?_
  · refine wpC_of_wpx (by kernel_rfl) (by kernel_rfl) (g' := (((((⟨g.v, []⟩ : Env).upd (some 0) (.pointer x0)).upd (some 1) (.int .i64 x1)).upd (some 2) (.int .i64 x2)).upd (some 3) (S x3)).upd (some 10) (.int .i64 x10)) (by rw [env_ds hds, upd_self hg0, upd_self hg1, upd_self hg2, upd_self hg3, upd_self hg10]) ?_
    have e : (n9 x0 x1 x2 x3 x10 Kn Kr h) = wpx none Try.prog 78 n9_c1 (Q4 (fun z0 z1 z2 z3 z10 z27 h => n10 z0 z1 z2 z3 z10 z27 Kn Kr h) Kr) ((((((⟨g.v, []⟩ : Env).upd (some 0) (.pointer x0)).upd (some 1) (.int .i64 x1)).upd (some 2) (.int .i64 x2)).upd (some 3) (S x3)).upd (some 10) (.int .i64 x10)) h := by kernel_rfl
    exact e ▸ hS
  · intro e g' h' hq
    cases e with
    | normal =>
      have hq : D4 (fun z0 z1 z2 z3 z10 z27 h => n10 z0 z1 z2 z3 z10 z27 Kn Kr h) g' h' := hq
      obtain ⟨y0, y1, y2, y3, y10, y27, hg', hq⟩ := D4_ok hq
      exact n10_ok y0 y1 y2 y3 y10 y27 Kn Kr g' hg' h' hq
    | _ => exact hq
abbrev n7 (x0 : Option Addr) (x1 : Int) (x2 : Int) (x3 : List UInt8) (x10 : Int) (Kn : T0) (Kr : T0) (h : H) : Prop := n9 x0 x1 x2 x3 x10 (fun z0 z1 z2 z3 h => n8 z0 z1 z2 z3 Kn Kr h) Kr h
theorem n7_ok (x0 : Option Addr) (x1 : Int) (x2 : Int) (x3 : List UInt8) (x10 : Int) (Kn : T0) (Kr : T0) (g : Env) (hg : E3 g x0 x1 x2 x3 x10) (h : H) (hS : n7 x0 x1 x2 x3 x10 Kn Kr h) : wpC none Try.prog 78 n6_c2 (Q0 Kn Kr) g h := by
  refine wpC_seq' (x := n7_c1) (y := n7_c2) (by kernel_rfl) (n9_ok x0 x1 x2 x3 x10 (fun z0 z1 z2 z3 h => n8 z0 z1 z2 z3 Kn Kr h) Kr g hg h hS) ?_
  intro e g' h' hq
  cases e with
  | normal =>
    have hq : D1 (fun z0 z1 z2 z3 h => n8 z0 z1 z2 z3 Kn Kr h) g' h' := hq
    obtain ⟨y0, y1, y2, y3, hg', hq⟩ := D1_ok hq
    exact n8_ok y0 y1 y2 y3 Kn Kr g' hg' h' hq
  | _ => exact hq
def Q5 (Kn : T3) (Kr : T0) : XPost
  | .normal, g, h => D3 Kn g h
  | .ret, g, h => D0 Kr g h
  | _, _, _ => False
abbrev n6 (x0 : Option Addr) (x1 : Int) (x2 : Int) (x3 : List UInt8) (x10 : Int) (Kn : T0) (Kr : T0) (h : H) : Prop :=
  Spl (x3 = ([] : List UInt8)) (Kr true h) (n7 x0 x1 x2 x3 x10 Kn Kr h)
theorem n6_ok (x0 : Option Addr) (x1 : Int) (x2 : Int) (x3 : List UInt8) (x10 : Int) (Kn : T0) (Kr : T0) (g : Env) (hg : E3 g x0 x1 x2 x3 x10) (h : H) (hS : n6 x0 x1 x2 x3 x10 Kn Kr h) : wpC none Try.prog 78 n5_c2 (Q0 Kn Kr) g h := by
  obtain ⟨hg0, hg1, hg2, hg3, hg10, hds⟩ := hg
  refine wpC_seq' (x := n6_c1) (y := n6_c2) (Q' := (Q5 (fun z0 z1 z2 z3 z10 h => n7 z0 z1 z2 z3 z10 Kn Kr h) Kr)) (by kernel_rfl) ?_ ?_
  · refine wpC_of_wpx (by kernel_rfl) (by kernel_rfl) (g' := (((((⟨g.v, []⟩ : Env).upd (some 0) (.pointer x0)).upd (some 1) (.int .i64 x1)).upd (some 2) (.int .i64 x2)).upd (some 3) (S x3)).upd (some 10) (.int .i64 x10)) (by rw [env_ds hds, upd_self hg0, upd_self hg1, upd_self hg2, upd_self hg3, upd_self hg10]) ?_
    have e : (n6 x0 x1 x2 x3 x10 Kn Kr h) = wpx none Try.prog 78 n6_c1 (Q5 (fun z0 z1 z2 z3 z10 h => n7 z0 z1 z2 z3 z10 Kn Kr h) Kr) ((((((⟨g.v, []⟩ : Env).upd (some 0) (.pointer x0)).upd (some 1) (.int .i64 x1)).upd (some 2) (.int .i64 x2)).upd (some 3) (S x3)).upd (some 10) (.int .i64 x10)) h := by kernel_rfl
    exact e ▸ hS
  · intro e g' h' hq
    cases e with
    | normal =>
      have hq : D3 (fun z0 z1 z2 z3 z10 h => n7 z0 z1 z2 z3 z10 Kn Kr h) g' h' := hq
      obtain ⟨y0, y1, y2, y3, y10, hg', hq⟩ := D3_ok hq
      exact n7_ok y0 y1 y2 y3 y10 Kn Kr g' hg' h' hq
    | _ => exact hq
abbrev n5 (x0 : Option Addr) (x1 : Int) (x2 : Int) (x3 : List UInt8) (x10 : Int) (Kn : T0) (Kr : T0) (h : H) : Prop :=
  Spl (x10 < (0 : Int)) (Kr false h) (n6 x0 x1 x2 x3 x10 Kn Kr h)
theorem n5_ok (x0 : Option Addr) (x1 : Int) (x2 : Int) (x3 : List UInt8) (x10 : Int) (Kn : T0) (Kr : T0) (g : Env) (hg : E3 g x0 x1 x2 x3 x10) (h : H) (hS : n5 x0 x1 x2 x3 x10 Kn Kr h) : wpC none Try.prog 78 n4_c2 (Q0 Kn Kr) g h := by
  obtain ⟨hg0, hg1, hg2, hg3, hg10, hds⟩ := hg
  refine wpC_seq' (x := n5_c1) (y := n5_c2) (Q' := (Q5 (fun z0 z1 z2 z3 z10 h => n6 z0 z1 z2 z3 z10 Kn Kr h) Kr)) (by kernel_rfl) ?_ ?_
  · refine wpC_of_wpx (by kernel_rfl) (by kernel_rfl) (g' := (((((⟨g.v, []⟩ : Env).upd (some 0) (.pointer x0)).upd (some 1) (.int .i64 x1)).upd (some 2) (.int .i64 x2)).upd (some 3) (S x3)).upd (some 10) (.int .i64 x10)) (by rw [env_ds hds, upd_self hg0, upd_self hg1, upd_self hg2, upd_self hg3, upd_self hg10]) ?_
    have e : (n5 x0 x1 x2 x3 x10 Kn Kr h) = wpx none Try.prog 78 n5_c1 (Q5 (fun z0 z1 z2 z3 z10 h => n6 z0 z1 z2 z3 z10 Kn Kr h) Kr) ((((((⟨g.v, []⟩ : Env).upd (some 0) (.pointer x0)).upd (some 1) (.int .i64 x1)).upd (some 2) (.int .i64 x2)).upd (some 3) (S x3)).upd (some 10) (.int .i64 x10)) h := by kernel_rfl
    exact e ▸ hS
  · intro e g' h' hq
    cases e with
    | normal =>
      have hq : D3 (fun z0 z1 z2 z3 z10 h => n6 z0 z1 z2 z3 z10 Kn Kr h) g' h' := hq
      obtain ⟨y0, y1, y2, y3, y10, hg', hq⟩ := D3_ok hq
      exact n6_ok y0 y1 y2 y3 y10 Kn Kr g' hg' h' hq
    | _ => exact hq
abbrev n4 (x0 : Option Addr) (x1 : Int) (x2 : Int) (x3 : List UInt8) (Kn : T0) (Kr : T0) (h : H) : Prop :=
  HCalls Try.prog 47 ⟨[(.pointer x0), (.int .i64 x1), (.int .i64 x2)]⟩ h fun v153 h154 => vInt .i64 v153 fun i155 => n5 x0 x1 x2 x3 i155 Kn Kr h154
theorem n4_ok (x0 : Option Addr) (x1 : Int) (x2 : Int) (x3 : List UInt8) (Kn : T0) (Kr : T0) (g : Env) (hg : E1 g x0 x1 x2 x3) (h : H) (hS : n4 x0 x1 x2 x3 Kn Kr h) : wpC none Try.prog 78 n3_c2 (Q0 Kn Kr) g h := by
  obtain ⟨hg0, hg1, hg2, hg3, hds⟩ := hg
  refine wpC_seq' (x := n4_c1) (y := n4_c2) (Q' := (Q5 (fun z0 z1 z2 z3 z10 h => n5 z0 z1 z2 z3 z10 Kn Kr h) Kr)) (by kernel_rfl) ?_ ?_
  · refine wpC_of_wpx (by kernel_rfl) (by kernel_rfl) (g' := ((((⟨g.v, []⟩ : Env).upd (some 0) (.pointer x0)).upd (some 1) (.int .i64 x1)).upd (some 2) (.int .i64 x2)).upd (some 3) (S x3)) (by rw [env_ds hds, upd_self hg0, upd_self hg1, upd_self hg2, upd_self hg3]) ?_
    have e : (n4 x0 x1 x2 x3 Kn Kr h) = wpx none Try.prog 78 n4_c1 (Q5 (fun z0 z1 z2 z3 z10 h => n5 z0 z1 z2 z3 z10 Kn Kr h) Kr) (((((⟨g.v, []⟩ : Env).upd (some 0) (.pointer x0)).upd (some 1) (.int .i64 x1)).upd (some 2) (.int .i64 x2)).upd (some 3) (S x3)) h := by kernel_rfl
    exact e ▸ hS
  · intro e g' h' hq
    cases e with
    | normal =>
      have hq : D3 (fun z0 z1 z2 z3 z10 h => n5 z0 z1 z2 z3 z10 Kn Kr h) g' h' := hq
      obtain ⟨y0, y1, y2, y3, y10, hg', hq⟩ := D3_ok hq
      exact n5_ok y0 y1 y2 y3 y10 Kn Kr g' hg' h' hq
    | _ => exact hq
abbrev n3 (x0 : Option Addr) (x1 : Int) (x2 : Int) (x3 : List UInt8) (x9 : Bool) (Kn : T0) (Kr : T0) (h : H) : Prop :=
  cond x9 (n4 x0 x1 x2 x3 Kn Kr h) (Kr false h)
theorem n3_ok (x0 : Option Addr) (x1 : Int) (x2 : Int) (x3 : List UInt8) (x9 : Bool) (Kn : T0) (Kr : T0) (g : Env) (hg : E2 g x0 x1 x2 x3 x9) (h : H) (hS : n3 x0 x1 x2 x3 x9 Kn Kr h) : wpC none Try.prog 78 n2_c2 (Q0 Kn Kr) g h := by
  obtain ⟨hg0, hg1, hg2, hg3, hg9, hds⟩ := hg
  refine wpC_seq' (x := n3_c1) (y := n3_c2) (Q' := (Q1 (fun z0 z1 z2 z3 h => n4 z0 z1 z2 z3 Kn Kr h) Kr)) (by kernel_rfl) ?_ ?_
  · refine wpC_of_wpx (by kernel_rfl) (by kernel_rfl) (g' := (((((⟨g.v, []⟩ : Env).upd (some 0) (.pointer x0)).upd (some 1) (.int .i64 x1)).upd (some 2) (.int .i64 x2)).upd (some 3) (S x3)).upd (some 9) (.bool x9)) (by rw [env_ds hds, upd_self hg0, upd_self hg1, upd_self hg2, upd_self hg3, upd_self hg9]) ?_
    have e : (n3 x0 x1 x2 x3 x9 Kn Kr h) = wpx none Try.prog 78 n3_c1 (Q1 (fun z0 z1 z2 z3 h => n4 z0 z1 z2 z3 Kn Kr h) Kr) ((((((⟨g.v, []⟩ : Env).upd (some 0) (.pointer x0)).upd (some 1) (.int .i64 x1)).upd (some 2) (.int .i64 x2)).upd (some 3) (S x3)).upd (some 9) (.bool x9)) h := by kernel_rfl
    exact e ▸ hS
  · intro e g' h' hq
    cases e with
    | normal =>
      have hq : D1 (fun z0 z1 z2 z3 h => n4 z0 z1 z2 z3 Kn Kr h) g' h' := hq
      obtain ⟨y0, y1, y2, y3, hg', hq⟩ := D1_ok hq
      exact n4_ok y0 y1 y2 y3 Kn Kr g' hg' h' hq
    | _ => exact hq
def Q6 (Kn : T2) (Kr : T0) : XPost
  | .normal, g, h => D2 Kn g h
  | .ret, g, h => D0 Kr g h
  | _, _, _ => False
abbrev n2 (x0 : Option Addr) (x1 : Int) (x2 : Int) (x3 : List UInt8) (Kn : T0) (Kr : T0) (h : H) : Prop :=
  HCalls Try.prog 45 ⟨[(.pointer x0), (.int .i64 x1)]⟩ h fun v156 h157 => vBool v156 fun b158 => cond b158 (n3 x0 x1 x2 x3 true Kn Kr h157) (n3 x0 x1 x2 x3 false Kn Kr h157)
theorem n2_ok (x0 : Option Addr) (x1 : Int) (x2 : Int) (x3 : List UInt8) (Kn : T0) (Kr : T0) (g : Env) (hg : E1 g x0 x1 x2 x3) (h : H) (hS : n2 x0 x1 x2 x3 Kn Kr h) : wpC none Try.prog 78 n1_c2 (Q0 Kn Kr) g h := by
  obtain ⟨hg0, hg1, hg2, hg3, hds⟩ := hg
  refine wpC_seq' (x := n2_c1) (y := n2_c2) (Q' := (Q6 (fun z0 z1 z2 z3 z9 h => n3 z0 z1 z2 z3 z9 Kn Kr h) Kr)) (by kernel_rfl) ?_ ?_
  · refine wpC_of_wpx (by kernel_rfl) (by kernel_rfl) (g' := ((((⟨g.v, []⟩ : Env).upd (some 0) (.pointer x0)).upd (some 1) (.int .i64 x1)).upd (some 2) (.int .i64 x2)).upd (some 3) (S x3)) (by rw [env_ds hds, upd_self hg0, upd_self hg1, upd_self hg2, upd_self hg3]) ?_
    have e : (n2 x0 x1 x2 x3 Kn Kr h) = wpx none Try.prog 78 n2_c1 (Q6 (fun z0 z1 z2 z3 z9 h => n3 z0 z1 z2 z3 z9 Kn Kr h) Kr) (((((⟨g.v, []⟩ : Env).upd (some 0) (.pointer x0)).upd (some 1) (.int .i64 x1)).upd (some 2) (.int .i64 x2)).upd (some 3) (S x3)) h := by kernel_rfl
    exact e ▸ hS
  · intro e g' h' hq
    cases e with
    | normal =>
      have hq : D2 (fun z0 z1 z2 z3 z9 h => n3 z0 z1 z2 z3 z9 Kn Kr h) g' h' := hq
      obtain ⟨y0, y1, y2, y3, y9, hg', hq⟩ := D2_ok hq
      exact n3_ok y0 y1 y2 y3 y9 Kn Kr g' hg' h' hq
    | _ => exact hq
abbrev n1 (x0 : Option Addr) (x1 : Int) (x2 : Int) (x3 : List UInt8) (Kn : T0) (Kr : T0) (h : H) : Prop :=
  n2 x0 x1 x2 x3 Kn Kr h
theorem n1_ok (x0 : Option Addr) (x1 : Int) (x2 : Int) (x3 : List UInt8) (Kn : T0) (Kr : T0) (g : Env) (hg : E1 g x0 x1 x2 x3) (h : H) (hS : n1 x0 x1 x2 x3 Kn Kr h) : wpC none Try.prog 78 code (Q0 Kn Kr) g h := by
  obtain ⟨hg0, hg1, hg2, hg3, hds⟩ := hg
  refine wpC_seq' (x := n1_c1) (y := n1_c2) (Q' := (Q1 (fun z0 z1 z2 z3 h => n2 z0 z1 z2 z3 Kn Kr h) Kr)) (by kernel_rfl) ?_ ?_
  · refine wpC_of_wpx (by kernel_rfl) (by kernel_rfl) (g' := ((((⟨g.v, []⟩ : Env).upd (some 0) (.pointer x0)).upd (some 1) (.int .i64 x1)).upd (some 2) (.int .i64 x2)).upd (some 3) (S x3)) (by rw [env_ds hds, upd_self hg0, upd_self hg1, upd_self hg2, upd_self hg3]) ?_
    have e : (n1 x0 x1 x2 x3 Kn Kr h) = wpx none Try.prog 78 n1_c1 (Q1 (fun z0 z1 z2 z3 h => n2 z0 z1 z2 z3 Kn Kr h) Kr) (((((⟨g.v, []⟩ : Env).upd (some 0) (.pointer x0)).upd (some 1) (.int .i64 x1)).upd (some 2) (.int .i64 x2)).upd (some 3) (S x3)) h := by kernel_rfl
    exact e ▸ hS
  · intro e g' h' hq
    cases e with
    | normal =>
      have hq : D1 (fun z0 z1 z2 z3 h => n2 z0 z1 z2 z3 Kn Kr h) g' h' := hq
      obtain ⟨y0, y1, y2, y3, hg', hq⟩ := D1_ok hq
      exact n2_ok y0 y1 y2 y3 Kn Kr g' hg' h' hq
    | _ => exact hq
/-- WHAT (*tympan/tympanref10.Tree).Write ASKS -/
abbrev asks (x0 : Option Addr) (x1 : Int) (x2 : Int) (x3 : List UInt8) (K : Value → H → Prop) (h : H) : Prop := n1 x0 x1 x2 x3 (fun y8 h => K (.bool y8) h) (fun y8 h => K (.bool y8) h) h
theorem ok (x0 : Option Addr) (x1 : Int) (x2 : Int) (x3 : List UInt8) (K : Value → H → Prop) (h : H) (hS : asks x0 x1 x2 x3 K h) : HCalls Try.prog 27 ⟨[(.pointer x0), (.int .i64 x1), (.int .i64 x2), (S x3)]⟩ h K := by
  refine calls_of_wpC (c := code) Try.func27 (by kernel_rfl) (Nat.le_of_ble_eq_true (by kernel_rfl)) ?_
  refine (n1_ok x0 x1 x2 x3 (fun y8 h => K (.bool y8) h) (fun y8 h => K (.bool y8) h) (env0 [(.pointer x0), (.int .i64 x1), (.int .i64 x2), (S x3)]) ⟨rfl, rfl, rfl, rfl, rfl⟩ h hS).mono ?_
  intro e g' h' hq
  cases e with
  | normal =>
    have hq : D0 (fun y8 h => K (.bool y8) h) g' h' := hq
    obtain ⟨y8, ⟨hg8, hd⟩, hq⟩ := D0_ok hq
    show leaveX g'.ds h' _
    rw [hd]
    show K (g'.v 8) h'
    rw [hg8]
    exact hq
  | ret =>
    have hq : D0 (fun y8 h => K (.bool y8) h) g' h' := hq
    obtain ⟨y8, ⟨hg8, hd⟩, hq⟩ := D0_ok hq
    show leaveX g'.ds h' _
    rw [hd]
    show K (g'.v 8) h'
    rw [hg8]
    exact hq
  | _ => exact hq
end Sx.r10_Tree_Write

/-! ### tympan/tympanref10.bare -/
namespace Sx.r10_bare
noncomputable def code : Code := bodyOf Try.f43
abbrev T0 := Addr → H → Prop
def E0 (g : Env) (x2 : Addr) : Prop := g.v 2 = (.pointer (some x2)) ∧ g.ds = []
def D0 (K : T0) (g : Env) (h : H) : Prop := nilDs g.ds (vAddr (g.v 2) fun a1 => K a1 h)
theorem D0_ok {K : T0} {g : Env} {h : H} (hq : D0 K g h) : ∃ (x2 : Addr), E0 g x2 ∧ K x2 h := by
  obtain ⟨hd, hq⟩ := nilDs_ok hq
  obtain ⟨y3, e2, q4⟩ := vAddr_ok hq
  exact ⟨y3, ⟨e2, hd⟩, q4⟩
def Q0 (Kn : T0) (Kr : T0) : XPost
  | .normal, g, h => D0 Kn g h
  | .ret, g, h => D0 Kr g h
  | _, _, _ => False
abbrev T1 := Int → Int → (List UInt8) → (Option Addr) → Nat → Nat → (List UInt8) → (Option Addr) → Nat → Nat → H → Prop
def E1 (g : Env) (x0_0 : Int) (x0_1 : Int) (x0_2 : List UInt8) (x0_3b : Option Addr) (x0_3n : Nat) (x0_3c : Nat) (x0_4 : List UInt8) (x0_5b : Option Addr) (x0_5n : Nat) (x0_5c : Nat) : Prop := g.v 0 = (.agg ⟨[(.int .u8 x0_0), (.int .u8 x0_1), (S x0_2), (.slice x0_3b x0_3n x0_3c), (S x0_4), (.slice x0_5b x0_5n x0_5c)]⟩) ∧ g.ds = []
def D1 (K : T1) (g : Env) (h : H) : Prop := nilDs g.ds (vAgg (g.v 0) fun l5 => uncons l5 fun e6 l7 => vInt .u8 e6 fun i8 => uncons l7 fun e9 l10 => vInt .u8 e9 fun i11 => uncons l10 fun e12 l13 => vStr e12 fun s14 => uncons l13 fun e15 l16 => vSlice e15 fun s17b s17n s17c => uncons l16 fun e18 l19 => vStr e18 fun s20 => uncons l19 fun e21 l22 => vSlice e21 fun s23b s23n s23c => unnil l22 (K i8 i11 s14 s17b s17n s17c s20 s23b s23n s23c h))
theorem D1_ok {K : T1} {g : Env} {h : H} (hq : D1 K g h) : ∃ (x0_0 : Int) (x0_1 : Int) (x0_2 : List UInt8) (x0_3b : Option Addr) (x0_3n : Nat) (x0_3c : Nat) (x0_4 : List UInt8) (x0_5b : Option Addr) (x0_5n : Nat) (x0_5c : Nat), E1 g x0_0 x0_1 x0_2 x0_3b x0_3n x0_3c x0_4 x0_5b x0_5n x0_5c ∧ K x0_0 x0_1 x0_2 x0_3b x0_3n x0_3c x0_4 x0_5b x0_5n x0_5c h := by
  obtain ⟨hd, hq⟩ := nilDs_ok hq
  obtain ⟨l25, e24, q26⟩ := vAgg_ok hq
  obtain ⟨u27, l28, rfl, q29⟩ := uncons_ok q26
  obtain ⟨y30, rfl, q31⟩ := vInt_ok q29
  obtain ⟨u32, l33, rfl, q34⟩ := uncons_ok q31
  obtain ⟨y35, rfl, q36⟩ := vInt_ok q34
  obtain ⟨u37, l38, rfl, q39⟩ := uncons_ok q36
  obtain ⟨y40, rfl, q41⟩ := vStr_ok q39
  obtain ⟨u42, l43, rfl, q44⟩ := uncons_ok q41
  obtain ⟨y45b, y45n, y45c, rfl, q46⟩ := vSlice_ok q44
  obtain ⟨u47, l48, rfl, q49⟩ := uncons_ok q46
  obtain ⟨y50, rfl, q51⟩ := vStr_ok q49
  obtain ⟨u52, l53, rfl, q54⟩ := uncons_ok q51
  obtain ⟨y55b, y55n, y55c, rfl, q56⟩ := vSlice_ok q54
  obtain ⟨rfl, q57⟩ := unnil_ok q56
  exact ⟨y30, y35, y40, y45b, y45n, y45c, y50, y55b, y55n, y55c, ⟨e24, hd⟩, q57⟩
abbrev n1 (x0_0 : Int) (x0_1 : Int) (x0_2 : List UInt8) (x0_3b : Option Addr) (x0_3n : Nat) (x0_3c : Nat) (x0_4 : List UInt8) (x0_5b : Option Addr) (x0_5n : Nat) (x0_5c : Nat) (Kn : T0) (Kr : T0) (h : H) : Prop :=
  newx h ⟨[(.int .u8 x0_0), (.int .u8 x0_1), (S x0_2), (.slice x0_3b x0_3n x0_3c), (S x0_4), (.slice x0_5b x0_5n x0_5c)]⟩ 31 fun a58 h59 => newx h59 ⟨[(.int .u8 (0 : Int)), (.int .u8 (0 : Int)), (S ([] : List UInt8)), (.slice none 0 0), (S ([] : List UInt8)), (.slice none 0 0)]⟩ 31 fun a60 h61 => ∃ i62, cell h61 (a58.add 0) = some (.int .u8 i62) ∧ (Spl (i62 = (1 : Int)) (∃ s63b s63n s63c, cell h61 (a58.add 3) = some (.slice s63b s63n s63c) ∧ (SemH Try.prog (Builtin.append_ #[28, 28] 28 ⟨[(.slice none 0 0), (.slice s63b s63n s63c)]⟩) h61 fun v64 h65 => vSlice v64 fun s66b s66n s66c => ∃ i67, cell h65 (a58.add 0) = some (.int .u8 i67) ∧ (∃ i68, cell h65 (a58.add 1) = some (.int .u8 i68) ∧ (∃ s69, cell h65 (a58.add 2) = some (S s69) ∧ (stL a60 [(.int .u8 i67), (.int .u8 i68), (S s69), (.slice s66b s66n s66c), (S ([] : List UInt8)), (.slice none 0 0)] 0 h65 fun h70 => Kr a60 h70))))) (∃ i71, cell h61 (a58.add 0) = some (.int .u8 i71) ∧ (∃ s72, cell h61 (a58.add 4) = some (S s72) ∧ (stL a60 [(.int .u8 i71), (.int .u8 (0 : Int)), (S ([] : List UInt8)), (.slice none 0 0), (S s72), (.slice none 0 0)] 0 h61 fun h73 => Kr a60 h73))))
theorem n1_ok (x0_0 : Int) (x0_1 : Int) (x0_2 : List UInt8) (x0_3b : Option Addr) (x0_3n : Nat) (x0_3c : Nat) (x0_4 : List UInt8) (x0_5b : Option Addr) (x0_5n : Nat) (x0_5c : Nat) (Kn : T0) (Kr : T0) (g : Env) (hg : E1 g x0_0 x0_1 x0_2 x0_3b x0_3n x0_3c x0_4 x0_5b x0_5n x0_5c) (h : H) (hS : n1 x0_0 x0_1 x0_2 x0_3b x0_3n x0_3c x0_4 x0_5b x0_5n x0_5c Kn Kr h) : wpC none Try.prog 24 code (Q0 Kn Kr) g h := by
  obtain ⟨hg0, hds⟩ := hg
  refine wpC_of_wpx (by kernel_rfl) (by kernel_rfl) (g' := (⟨g.v, []⟩ : Env).upd (some 0) (.agg ⟨[(.int .u8 x0_0), (.int .u8 x0_1), (S x0_2), (.slice x0_3b x0_3n x0_3c), (S x0_4), (.slice x0_5b x0_5n x0_5c)]⟩)) (by rw [env_ds hds, upd_self hg0]) ?_
  have e : (n1 x0_0 x0_1 x0_2 x0_3b x0_3n x0_3c x0_4 x0_5b x0_5n x0_5c Kn Kr h) = wpx none Try.prog 24 code (Q0 Kn Kr) ((⟨g.v, []⟩ : Env).upd (some 0) (.agg ⟨[(.int .u8 x0_0), (.int .u8 x0_1), (S x0_2), (.slice x0_3b x0_3n x0_3c), (S x0_4), (.slice x0_5b x0_5n x0_5c)]⟩)) h := by kernel_rfl
  exact e ▸ hS
/-- WHAT tympan/tympanref10.bare ASKS -/
abbrev asks (x0_0 : Int) (x0_1 : Int) (x0_2 : List UInt8) (x0_3b : Option Addr) (x0_3n : Nat) (x0_3c : Nat) (x0_4 : List UInt8) (x0_5b : Option Addr) (x0_5n : Nat) (x0_5c : Nat) (K : Value → H → Prop) (h : H) : Prop := n1 x0_0 x0_1 x0_2 x0_3b x0_3n x0_3c x0_4 x0_5b x0_5n x0_5c (fun y2 h => ∃ i74, cell h ((y2).add 0) = some (.int .u8 i74) ∧ (∃ i75, cell h ((y2).add 1) = some (.int .u8 i75) ∧ (∃ s76, cell h ((y2).add 2) = some (S s76) ∧ (∃ s77b s77n s77c, cell h ((y2).add 3) = some (.slice s77b s77n s77c) ∧ (∃ s78, cell h ((y2).add 4) = some (S s78) ∧ (∃ s79b s79n s79c, cell h ((y2).add 5) = some (.slice s79b s79n s79c) ∧ (K (.agg ⟨[(.int .u8 i74), (.int .u8 i75), (S s76), (.slice s77b s77n s77c), (S s78), (.slice s79b s79n s79c)]⟩) h))))))) (fun y2 h => ∃ i74, cell h ((y2).add 0) = some (.int .u8 i74) ∧ (∃ i75, cell h ((y2).add 1) = some (.int .u8 i75) ∧ (∃ s76, cell h ((y2).add 2) = some (S s76) ∧ (∃ s77b s77n s77c, cell h ((y2).add 3) = some (.slice s77b s77n s77c) ∧ (∃ s78, cell h ((y2).add 4) = some (S s78) ∧ (∃ s79b s79n s79c, cell h ((y2).add 5) = some (.slice s79b s79n s79c) ∧ (K (.agg ⟨[(.int .u8 i74), (.int .u8 i75), (S s76), (.slice s77b s77n s77c), (S s78), (.slice s79b s79n s79c)]⟩) h))))))) h
theorem ok (x0_0 : Int) (x0_1 : Int) (x0_2 : List UInt8) (x0_3b : Option Addr) (x0_3n : Nat) (x0_3c : Nat) (x0_4 : List UInt8) (x0_5b : Option Addr) (x0_5n : Nat) (x0_5c : Nat) (K : Value → H → Prop) (h : H) (hS : asks x0_0 x0_1 x0_2 x0_3b x0_3n x0_3c x0_4 x0_5b x0_5n x0_5c K h) : HCalls Try.prog 43 ⟨[(.agg ⟨[(.int .u8 x0_0), (.int .u8 x0_1), (S x0_2), (.slice x0_3b x0_3n x0_3c), (S x0_4), (.slice x0_5b x0_5n x0_5c)]⟩)]⟩ h K := by
  refine calls_of_wpC (c := code) Try.func43 (by kernel_rfl) (Nat.le_of_ble_eq_true (by kernel_rfl)) ?_
  refine (n1_ok x0_0 x0_1 x0_2 x0_3b x0_3n x0_3c x0_4 x0_5b x0_5n x0_5c (fun y2 h => ∃ i74, cell h ((y2).add 0) = some (.int .u8 i74) ∧ (∃ i75, cell h ((y2).add 1) = some (.int .u8 i75) ∧ (∃ s76, cell h ((y2).add 2) = some (S s76) ∧ (∃ s77b s77n s77c, cell h ((y2).add 3) = some (.slice s77b s77n s77c) ∧ (∃ s78, cell h ((y2).add 4) = some (S s78) ∧ (∃ s79b s79n s79c, cell h ((y2).add 5) = some (.slice s79b s79n s79c) ∧ (K (.agg ⟨[(.int .u8 i74), (.int .u8 i75), (S s76), (.slice s77b s77n s77c), (S s78), (.slice s79b s79n s79c)]⟩) h))))))) (fun y2 h => ∃ i74, cell h ((y2).add 0) = some (.int .u8 i74) ∧ (∃ i75, cell h ((y2).add 1) = some (.int .u8 i75) ∧ (∃ s76, cell h ((y2).add 2) = some (S s76) ∧ (∃ s77b s77n s77c, cell h ((y2).add 3) = some (.slice s77b s77n s77c) ∧ (∃ s78, cell h ((y2).add 4) = some (S s78) ∧ (∃ s79b s79n s79c, cell h ((y2).add 5) = some (.slice s79b s79n s79c) ∧ (K (.agg ⟨[(.int .u8 i74), (.int .u8 i75), (S s76), (.slice s77b s77n s77c), (S s78), (.slice s79b s79n s79c)]⟩) h))))))) (env0 [(.agg ⟨[(.int .u8 x0_0), (.int .u8 x0_1), (S x0_2), (.slice x0_3b x0_3n x0_3c), (S x0_4), (.slice x0_5b x0_5n x0_5c)]⟩)]) ⟨rfl, rfl⟩ h hS).mono ?_
  intro e g' h' hq
  cases e with
  | normal =>
    have hq : D0 (fun y2 h => ∃ i74, cell h ((y2).add 0) = some (.int .u8 i74) ∧ (∃ i75, cell h ((y2).add 1) = some (.int .u8 i75) ∧ (∃ s76, cell h ((y2).add 2) = some (S s76) ∧ (∃ s77b s77n s77c, cell h ((y2).add 3) = some (.slice s77b s77n s77c) ∧ (∃ s78, cell h ((y2).add 4) = some (S s78) ∧ (∃ s79b s79n s79c, cell h ((y2).add 5) = some (.slice s79b s79n s79c) ∧ (K (.agg ⟨[(.int .u8 i74), (.int .u8 i75), (S s76), (.slice s77b s77n s77c), (S s78), (.slice s79b s79n s79c)]⟩) h))))))) g' h' := hq
    obtain ⟨y2, ⟨hg2, hd⟩, hq⟩ := D0_ok hq
    show leaveX g'.ds h' _
    rw [hd]
    show vAddr (g'.v 2) fun a80 => ldx Try.prog 31 a80 h' fun v81 => K v81 h'
    rw [hg2]
    exact hq
  | ret =>
    have hq : D0 (fun y2 h => ∃ i74, cell h ((y2).add 0) = some (.int .u8 i74) ∧ (∃ i75, cell h ((y2).add 1) = some (.int .u8 i75) ∧ (∃ s76, cell h ((y2).add 2) = some (S s76) ∧ (∃ s77b s77n s77c, cell h ((y2).add 3) = some (.slice s77b s77n s77c) ∧ (∃ s78, cell h ((y2).add 4) = some (S s78) ∧ (∃ s79b s79n s79c, cell h ((y2).add 5) = some (.slice s79b s79n s79c) ∧ (K (.agg ⟨[(.int .u8 i74), (.int .u8 i75), (S s76), (.slice s77b s77n s77c), (S s78), (.slice s79b s79n s79c)]⟩) h))))))) g' h' := hq
    obtain ⟨y2, ⟨hg2, hd⟩, hq⟩ := D0_ok hq
    show leaveX g'.ds h' _
    rw [hd]
    show vAddr (g'.v 2) fun a80 => ldx Try.prog 31 a80 h' fun v81 => K v81 h'
    rw [hg2]
    exact hq
  | _ => exact hq
end Sx.r10_bare

/-! ### (*tympan/tympanref10.Tree).there -/
namespace Sx.r10_Tree_there
noncomputable def code : Code := bodyOf Try.f44
abbrev T0 := Bool → H → Prop
def E0 (g : Env) (x4 : Bool) : Prop := g.v 4 = (.bool x4) ∧ g.ds = []
def D0 (K : T0) (g : Env) (h : H) : Prop := nilDs g.ds (vBool (g.v 4) fun b1 => K b1 h)
theorem D0_ok {K : T0} {g : Env} {h : H} (hq : D0 K g h) : ∃ (x4 : Bool), E0 g x4 ∧ K x4 h := by
  obtain ⟨hd, hq⟩ := nilDs_ok hq
  obtain ⟨y3, e2, q4⟩ := vBool_ok hq
  exact ⟨y3, ⟨e2, hd⟩, q4⟩
def Q0 (Kn : T0) (Kr : T0) : XPost
  | .normal, g, h => D0 Kn g h
  | .ret, g, h => D0 Kr g h
  | _, _, _ => False
abbrev T1 := (Option Addr) → Int → H → Prop
def E1 (g : Env) (x0 : Option Addr) (x1 : Int) : Prop := g.v 0 = (.pointer x0) ∧ g.v 1 = (.int .i64 x1) ∧ g.ds = []
def D1 (K : T1) (g : Env) (h : H) : Prop := nilDs g.ds (vPtr (g.v 0) fun p5 => vInt .i64 (g.v 1) fun i6 => K p5 i6 h)
theorem D1_ok {K : T1} {g : Env} {h : H} (hq : D1 K g h) : ∃ (x0 : Option Addr) (x1 : Int), E1 g x0 x1 ∧ K x0 x1 h := by
  obtain ⟨hd, hq⟩ := nilDs_ok hq
  obtain ⟨y8, e7, q9⟩ := vPtr_ok hq
  obtain ⟨y11, e10, q12⟩ := vInt_ok q9
  exact ⟨y8, y11, ⟨e7, e10, hd⟩, q12⟩
abbrev n1 (x0 : Option Addr) (x1 : Int) (Kn : T0) (Kr : T0) (h : H) : Prop :=
  Spl (x1 ≥ (0 : Int)) (vSome x0 fun a13 => ∃ s14b s14n s14c, cell h (a13.add 0) = some (.slice s14b s14n s14c) ∧ (Spl (x1 < (s14n : Int)) (Kr true h) (Kr false h))) (Kr false h)
theorem n1_ok (x0 : Option Addr) (x1 : Int) (Kn : T0) (Kr : T0) (g : Env) (hg : E1 g x0 x1) (h : H) (hS : n1 x0 x1 Kn Kr h) : wpC none Try.prog 16 code (Q0 Kn Kr) g h := by
  obtain ⟨hg0, hg1, hds⟩ := hg
  refine wpC_of_wpx (by kernel_rfl) (by kernel_rfl) (g' := ((⟨g.v, []⟩ : Env).upd (some 0) (.pointer x0)).upd (some 1) (.int .i64 x1)) (by rw [env_ds hds, upd_self hg0, upd_self hg1]) ?_
  have e : (n1 x0 x1 Kn Kr h) = wpx none Try.prog 16 code (Q0 Kn Kr) (((⟨g.v, []⟩ : Env).upd (some 0) (.pointer x0)).upd (some 1) (.int .i64 x1)) h := by kernel_rfl
  exact e ▸ hS
/-- WHAT (*tympan/tympanref10.Tree).there ASKS -/
abbrev asks (x0 : Option Addr) (x1 : Int) (K : Value → H → Prop) (h : H) : Prop := n1 x0 x1 (fun y4 h => K (.bool y4) h) (fun y4 h => K (.bool y4) h) h
theorem ok (x0 : Option Addr) (x1 : Int) (K : Value → H → Prop) (h : H) (hS : asks x0 x1 K h) : HCalls Try.prog 44 ⟨[(.pointer x0), (.int .i64 x1)]⟩ h K := by
  refine calls_of_wpC (c := code) Try.func44 (by kernel_rfl) (Nat.le_of_ble_eq_true (by kernel_rfl)) ?_
  refine (n1_ok x0 x1 (fun y4 h => K (.bool y4) h) (fun y4 h => K (.bool y4) h) (env0 [(.pointer x0), (.int .i64 x1)]) ⟨rfl, rfl, rfl⟩ h hS).mono ?_
  intro e g' h' hq
  cases e with
  | normal =>
    have hq : D0 (fun y4 h => K (.bool y4) h) g' h' := hq
    obtain ⟨y4, ⟨hg4, hd⟩, hq⟩ := D0_ok hq
    show leaveX g'.ds h' _
    rw [hd]
    show K (g'.v 4) h'
    rw [hg4]
    exact hq
  | ret =>
    have hq : D0 (fun y4 h => K (.bool y4) h) g' h' := hq
    obtain ⟨y4, ⟨hg4, hd⟩, hq⟩ := D0_ok hq
    show leaveX g'.ds h' _
    rw [hd]
    show K (g'.v 4) h'
    rw [hg4]
    exact hq
  | _ => exact hq
end Sx.r10_Tree_there

/-! ### (*tympan/tympanref10.Tree).holds -/
namespace Sx.r10_Tree_holds
noncomputable def code : Code := bodyOf Try.f45
abbrev T0 := Bool → H → Prop
def E0 (g : Env) (x4 : Bool) : Prop := g.v 4 = (.bool x4) ∧ g.ds = []
def D0 (K : T0) (g : Env) (h : H) : Prop := nilDs g.ds (vBool (g.v 4) fun b1 => K b1 h)
theorem D0_ok {K : T0} {g : Env} {h : H} (hq : D0 K g h) : ∃ (x4 : Bool), E0 g x4 ∧ K x4 h := by
  obtain ⟨hd, hq⟩ := nilDs_ok hq
  obtain ⟨y3, e2, q4⟩ := vBool_ok hq
  exact ⟨y3, ⟨e2, hd⟩, q4⟩
def Q0 (Kn : T0) (Kr : T0) : XPost
  | .normal, g, h => D0 Kn g h
  | .ret, g, h => D0 Kr g h
  | _, _, _ => False
abbrev T1 := (Option Addr) → Int → H → Prop
def E1 (g : Env) (x0 : Option Addr) (x1 : Int) : Prop := g.v 0 = (.pointer x0) ∧ g.v 1 = (.int .i64 x1) ∧ g.ds = []
def D1 (K : T1) (g : Env) (h : H) : Prop := nilDs g.ds (vPtr (g.v 0) fun p5 => vInt .i64 (g.v 1) fun i6 => K p5 i6 h)
theorem D1_ok {K : T1} {g : Env} {h : H} (hq : D1 K g h) : ∃ (x0 : Option Addr) (x1 : Int), E1 g x0 x1 ∧ K x0 x1 h := by
  obtain ⟨hd, hq⟩ := nilDs_ok hq
  obtain ⟨y8, e7, q9⟩ := vPtr_ok hq
  obtain ⟨y11, e10, q12⟩ := vInt_ok q9
  exact ⟨y8, y11, ⟨e7, e10, hd⟩, q12⟩
abbrev n1 (x0 : Option Addr) (x1 : Int) (Kn : T0) (Kr : T0) (h : H) : Prop :=
  HCalls Try.prog 44 ⟨[(.pointer x0), (.int .i64 x1)]⟩ h fun v13 h14 => vBool v13 fun b15 => cond b15 (Spl (x1 = (0 : Int)) (Kr true h14) (vSome x0 fun a16 => ∃ s17b s17n s17c, cell h14 (a16.add 0) = some (.slice s17b s17n s17c) ∧ ((0 ≤ x1 ∧ x1 < (s17n : Int)) ∧ (vSome s17b fun a18 => ∃ i19, cell h14 (((a18.add (Int.toNat x1 * 8)).add 0).add 0) = some (.int .u8 i19) ∧ (Spl (i19 = (1 : Int)) (Kr true h14) (Kr false h14)))))) (Kr false h14)
theorem n1_ok (x0 : Option Addr) (x1 : Int) (Kn : T0) (Kr : T0) (g : Env) (hg : E1 g x0 x1) (h : H) (hS : n1 x0 x1 Kn Kr h) : wpC none Try.prog 24 code (Q0 Kn Kr) g h := by
  obtain ⟨hg0, hg1, hds⟩ := hg
  refine wpC_of_wpx (by kernel_rfl) (by kernel_rfl) (g' := ((⟨g.v, []⟩ : Env).upd (some 0) (.pointer x0)).upd (some 1) (.int .i64 x1)) (by rw [env_ds hds, upd_self hg0, upd_self hg1]) ?_
  have e : (n1 x0 x1 Kn Kr h) = wpx none Try.prog 24 code (Q0 Kn Kr) (((⟨g.v, []⟩ : Env).upd (some 0) (.pointer x0)).upd (some 1) (.int .i64 x1)) h := by kernel_rfl
  exact e ▸ hS
/-- WHAT (*tympan/tympanref10.Tree).holds ASKS -/
abbrev asks (x0 : Option Addr) (x1 : Int) (K : Value → H → Prop) (h : H) : Prop := n1 x0 x1 (fun y4 h => K (.bool y4) h) (fun y4 h => K (.bool y4) h) h
theorem ok (x0 : Option Addr) (x1 : Int) (K : Value → H → Prop) (h : H) (hS : asks x0 x1 K h) : HCalls Try.prog 45 ⟨[(.pointer x0), (.int .i64 x1)]⟩ h K := by
  refine calls_of_wpC (c := code) Try.func45 (by kernel_rfl) (Nat.le_of_ble_eq_true (by kernel_rfl)) ?_
  refine (n1_ok x0 x1 (fun y4 h => K (.bool y4) h) (fun y4 h => K (.bool y4) h) (env0 [(.pointer x0), (.int .i64 x1)]) ⟨rfl, rfl, rfl⟩ h hS).mono ?_
  intro e g' h' hq
  cases e with
  | normal =>
    have hq : D0 (fun y4 h => K (.bool y4) h) g' h' := hq
    obtain ⟨y4, ⟨hg4, hd⟩, hq⟩ := D0_ok hq
    show leaveX g'.ds h' _
    rw [hd]
    show K (g'.v 4) h'
    rw [hg4]
    exact hq
  | ret =>
    have hq : D0 (fun y4 h => K (.bool y4) h) g' h' := hq
    obtain ⟨y4, ⟨hg4, hd⟩, hq⟩ := D0_ok hq
    show leaveX g'.ds h' _
    rw [hd]
    show K (g'.v 4) h'
    rw [hg4]
    exact hq
  | _ => exact hq
end Sx.r10_Tree_holds

/-! ### (*tympan/tympanref10.Tree).within -/
namespace Sx.r10_Tree_within
noncomputable def code : Code := bodyOf Try.f46
abbrev T0 := Bool → H → Prop
def E0 (g : Env) (x6 : Bool) : Prop := g.v 6 = (.bool x6) ∧ g.ds = []
def D0 (K : T0) (g : Env) (h : H) : Prop := nilDs g.ds (vBool (g.v 6) fun b1 => K b1 h)
theorem D0_ok {K : T0} {g : Env} {h : H} (hq : D0 K g h) : ∃ (x6 : Bool), E0 g x6 ∧ K x6 h := by
  obtain ⟨hd, hq⟩ := nilDs_ok hq
  obtain ⟨y3, e2, q4⟩ := vBool_ok hq
  exact ⟨y3, ⟨e2, hd⟩, q4⟩
def Q0 (Kn : T0) (Kr : T0) : XPost
  | .normal, g, h => D0 Kn g h
  | .ret, g, h => D0 Kr g h
  | _, _, _ => False
abbrev T1 := (Option Addr) → Int → Int → H → Prop
def E1 (g : Env) (x0 : Option Addr) (x1 : Int) (x2 : Int) : Prop := g.v 0 = (.pointer x0) ∧ g.v 1 = (.int .i64 x1) ∧ g.v 2 = (.int .i64 x2) ∧ g.ds = []
def D1 (K : T1) (g : Env) (h : H) : Prop := nilDs g.ds (vPtr (g.v 0) fun p5 => vInt .i64 (g.v 1) fun i6 => vInt .i64 (g.v 2) fun i7 => K p5 i6 i7 h)
theorem D1_ok {K : T1} {g : Env} {h : H} (hq : D1 K g h) : ∃ (x0 : Option Addr) (x1 : Int) (x2 : Int), E1 g x0 x1 x2 ∧ K x0 x1 x2 h := by
  obtain ⟨hd, hq⟩ := nilDs_ok hq
  obtain ⟨y9, e8, q10⟩ := vPtr_ok hq
  obtain ⟨y12, e11, q13⟩ := vInt_ok q10
  obtain ⟨y15, e14, q16⟩ := vInt_ok q13
  exact ⟨y9, y12, y15, ⟨e8, e11, e14, hd⟩, q16⟩
noncomputable def n1_c1 : Code := cFst code
noncomputable def n1_c2 : Code := cSnd code
noncomputable def n2_c1 : Code := cFst n1_c2
noncomputable def n2_c2 : Code := cSnd n1_c2
abbrev T2 := H → Prop
def E2 (g : Env)  : Prop := g.ds = []
def D2 (K : T2) (g : Env) (h : H) : Prop := nilDs g.ds (K h)
theorem D2_ok {K : T2} {g : Env} {h : H} (hq : D2 K g h) : E2 g  ∧ K  h := by
  obtain ⟨hd, hq⟩ := nilDs_ok hq
  skip
  exact ⟨hd, hq⟩
abbrev n3  (Kn : T0) (Kr : T0) (h : H) : Prop :=
  Kr false h
theorem n3_ok  (Kn : T0) (Kr : T0) (g : Env) (hg : E2 g ) (h : H) (hS : n3  Kn Kr h) : wpC none Try.prog 20 n2_c2 (Q0 Kn Kr) g h := by
  have hds : g.ds = [] := hg
  refine wpC_of_wpx (by kernel_rfl) (by kernel_rfl) (g' := ⟨g.v, []⟩) (by rw [env_ds hds]) ?_
  have e : (n3  Kn Kr h) = wpx none Try.prog 20 n2_c2 (Q0 Kn Kr) (⟨g.v, []⟩) h := by kernel_rfl
  exact e ▸ hS
def Q1 (Kn : T2) (Kr : T0) : XPost
  | .normal, g, h => D2 Kn g h
  | .ret, g, h => D0 Kr g h
  | _, _, _ => False
noncomputable def n4_c1 : Code := cFst n2_c1
def Q2 (Kn : T2) (Ke0 : T2) (Kr : T0) : XPost
  | .normal, g, h => D2 Kn g h
  | .ret, g, h => D0 Kr g h
  | .exit id, g, h => cond (Nat.beq id 0) (D2 Ke0 g h) (False)
  | _, _, _ => False
noncomputable def n5_c1 : Code := cFst n4_c1
def Q3 (Kn : T1) (Ke0 : T2) (Kr : T0) : XPost
  | .normal, g, h => D1 Kn g h
  | .ret, g, h => D0 Kr g h
  | .exit id, g, h => cond (Nat.beq id 0) (D2 Ke0 g h) (False)
  | _, _, _ => False
def n5_L (Kn : T2) (Ke0 : T2) (Kr : T0) : Nat → (Option Addr) → Int → Int → H → Prop
  | 0 => fun _ _ _ _ => False
  | N + 1 => fun x0 x1 x2 h => Spl (x1 ≥ (0 : Int)) (Spl (x1 = x2) (Kr true h) (vSome x0 fun a17 => ∃ s18b s18n s18c, cell h (a17.add 0) = some (.slice s18b s18n s18c) ∧ ((0 ≤ x1 ∧ x1 < (s18n : Int)) ∧ (vSome s18b fun a19 => ∃ i20, cell h ((a19.add (Int.toNat x1 * 8)).add 6) = some (.int .i64 i20) ∧ (n5_L Kn Ke0 Kr N x0 i20 x2 h))))) (Ke0 h)
abbrev n5 (x0 : Option Addr) (x1 : Int) (x2 : Int) (Kn : T2) (Ke0 : T2) (Kr : T0) (h : H) : Prop := ∃ N, n5_L Kn Ke0 Kr N x0 x1 x2 h
theorem n5_ok (x0 : Option Addr) (x1 : Int) (x2 : Int) (Kn : T2) (Ke0 : T2) (Kr : T0) (g : Env) (hg : E1 g x0 x1 x2) (h : H) (hS : n5 x0 x1 x2 Kn Ke0 Kr h) : wpC none Try.prog 20 n4_c1 (Q2 Kn Ke0 Kr) g h := by
  obtain ⟨N0, hS⟩ := hS
  refine wpC_loop' (x := n5_c1) (by kernel_rfl) (fun k g h => ∃ (x0 : Option Addr) (x1 : Int) (x2 : Int), E1 g x0 x1 x2 ∧ n5_L Kn Ke0 Kr k x0 x1 x2 h) (fun g h hr => ?_) (fun N g h hr => ?_) N0 ⟨x0, x1, x2, hg, hS⟩
  · obtain ⟨x0, x1, x2, hg, hS⟩ := hr
    exact hS.elim
  · obtain ⟨x0, x1, x2, hg, hS⟩ := hr
    have hw : wpC none Try.prog 20 n5_c1 (Q3 (fun z0 z1 z2 h => n5_L Kn Ke0 Kr N z0 z1 z2 h) Ke0 Kr) g h := by
      obtain ⟨hg0, hg1, hg2, hds⟩ := hg
      refine wpC_of_wpx (by kernel_rfl) (by kernel_rfl) (g' := (((⟨g.v, []⟩ : Env).upd (some 0) (.pointer x0)).upd (some 1) (.int .i64 x1)).upd (some 2) (.int .i64 x2)) (by rw [env_ds hds, upd_self hg0, upd_self hg1, upd_self hg2]) ?_
      have e : (n5_L Kn Ke0 Kr (N + 1) x0 x1 x2 h) = wpx none Try.prog 20 n5_c1 (Q3 (fun z0 z1 z2 h => n5_L Kn Ke0 Kr N z0 z1 z2 h) Ke0 Kr) ((((⟨g.v, []⟩ : Env).upd (some 0) (.pointer x0)).upd (some 1) (.int .i64 x1)).upd (some 2) (.int .i64 x2)) h := by kernel_rfl
      exact e ▸ hS
    refine hw.mono ?_
    intro e g' h' hq
    cases e with
    | normal => exact D1_ok (K := (fun z0 z1 z2 h => n5_L Kn Ke0 Kr N z0 z1 z2 h)) hq
    | _ => exact hq
abbrev n4 (x0 : Option Addr) (x1 : Int) (x2 : Int) (Kn : T2) (Kr : T0) (h : H) : Prop := n5 x0 x1 x2 Kn Kn Kr h
theorem n4_ok (x0 : Option Addr) (x1 : Int) (x2 : Int) (Kn : T2) (Kr : T0) (g : Env) (hg : E1 g x0 x1 x2) (h : H) (hS : n4 x0 x1 x2 Kn Kr h) : wpC none Try.prog 20 n2_c1 (Q1 Kn Kr) g h := by
  refine wpC_block' (id := 0) (x := n4_c1) (by kernel_rfl) (n5_ok x0 x1 x2 Kn Kn Kr g hg h hS) ?_
  intro e g' h' hq
  cases e <;> exact hq
abbrev n2 (x0 : Option Addr) (x1 : Int) (x2 : Int) (Kn : T0) (Kr : T0) (h : H) : Prop := n4 x0 x1 x2 (fun  h => n3 Kn Kr h) Kr h
theorem n2_ok (x0 : Option Addr) (x1 : Int) (x2 : Int) (Kn : T0) (Kr : T0) (g : Env) (hg : E1 g x0 x1 x2) (h : H) (hS : n2 x0 x1 x2 Kn Kr h) : wpC none Try.prog 20 n1_c2 (Q0 Kn Kr) g h := by
  refine wpC_seq' (x := n2_c1) (y := n2_c2) (by kernel_rfl) (n4_ok x0 x1 x2 (fun  h => n3 Kn Kr h) Kr g hg h hS) ?_
  intro e g' h' hq
  cases e with
  | normal =>
    have hq : D2 (fun  h => n3 Kn Kr h) g' h' := hq
    obtain ⟨hg', hq⟩ := D2_ok hq
    exact n3_ok  Kn Kr g' hg' h' hq
  | _ => exact hq
def Q4 (Kn : T1) (Kr : T0) : XPost
  | .normal, g, h => D1 Kn g h
  | .ret, g, h => D0 Kr g h
  | _, _, _ => False
abbrev n1 (x0 : Option Addr) (x1 : Int) (x2 : Int) (Kn : T0) (Kr : T0) (h : H) : Prop :=
  n2 x0 x1 x2 Kn Kr h
theorem n1_ok (x0 : Option Addr) (x1 : Int) (x2 : Int) (Kn : T0) (Kr : T0) (g : Env) (hg : E1 g x0 x1 x2) (h : H) (hS : n1 x0 x1 x2 Kn Kr h) : wpC none Try.prog 20 code (Q0 Kn Kr) g h := by
  obtain ⟨hg0, hg1, hg2, hds⟩ := hg
  refine wpC_seq' (x := n1_c1) (y := n1_c2) (Q' := (Q4 (fun z0 z1 z2 h => n2 z0 z1 z2 Kn Kr h) Kr)) (by kernel_rfl) ?_ ?_
  · refine wpC_of_wpx (by kernel_rfl) (by kernel_rfl) (g' := (((⟨g.v, []⟩ : Env).upd (some 0) (.pointer x0)).upd (some 1) (.int .i64 x1)).upd (some 2) (.int .i64 x2)) (by rw [env_ds hds, upd_self hg0, upd_self hg1, upd_self hg2]) ?_
    have e : (n1 x0 x1 x2 Kn Kr h) = wpx none Try.prog 20 n1_c1 (Q4 (fun z0 z1 z2 h => n2 z0 z1 z2 Kn Kr h) Kr) ((((⟨g.v, []⟩ : Env).upd (some 0) (.pointer x0)).upd (some 1) (.int .i64 x1)).upd (some 2) (.int .i64 x2)) h := by kernel_rfl
    exact e ▸ hS
  · intro e g' h' hq
    cases e with
    | normal =>
      have hq : D1 (fun z0 z1 z2 h => n2 z0 z1 z2 Kn Kr h) g' h' := hq
      obtain ⟨y0, y1, y2, hg', hq⟩ := D1_ok hq
      exact n2_ok y0 y1 y2 Kn Kr g' hg' h' hq
    | _ => exact hq
/-- WHAT (*tympan/tympanref10.Tree).within ASKS -/
abbrev asks (x0 : Option Addr) (x1 : Int) (x2 : Int) (K : Value → H → Prop) (h : H) : Prop := n1 x0 x1 x2 (fun y6 h => K (.bool y6) h) (fun y6 h => K (.bool y6) h) h
theorem ok (x0 : Option Addr) (x1 : Int) (x2 : Int) (K : Value → H → Prop) (h : H) (hS : asks x0 x1 x2 K h) : HCalls Try.prog 46 ⟨[(.pointer x0), (.int .i64 x1), (.int .i64 x2)]⟩ h K := by
  refine calls_of_wpC (c := code) Try.func46 (by kernel_rfl) (Nat.le_of_ble_eq_true (by kernel_rfl)) ?_
  refine (n1_ok x0 x1 x2 (fun y6 h => K (.bool y6) h) (fun y6 h => K (.bool y6) h) (env0 [(.pointer x0), (.int .i64 x1), (.int .i64 x2)]) ⟨rfl, rfl, rfl, rfl⟩ h hS).mono ?_
  intro e g' h' hq
  cases e with
  | normal =>
    have hq : D0 (fun y6 h => K (.bool y6) h) g' h' := hq
    obtain ⟨y6, ⟨hg6, hd⟩, hq⟩ := D0_ok hq
    show leaveX g'.ds h' _
    rw [hd]
    show K (g'.v 6) h'
    rw [hg6]
    exact hq
  | ret =>
    have hq : D0 (fun y6 h => K (.bool y6) h) g' h' := hq
    obtain ⟨y6, ⟨hg6, hd⟩, hq⟩ := D0_ok hq
    show leaveX g'.ds h' _
    rw [hd]
    show K (g'.v 6) h'
    rw [hg6]
    exact hq
  | _ => exact hq
end Sx.r10_Tree_within

/-! ### (*tympan/tympanref10.Tree).place -/
namespace Sx.r10_Tree_place
noncomputable def code : Code := bodyOf Try.f47
abbrev T0 := Int → H → Prop
def E0 (g : Env) (x6 : Int) : Prop := g.v 6 = (.int .i64 x6) ∧ g.ds = []
def D0 (K : T0) (g : Env) (h : H) : Prop := nilDs g.ds (vInt .i64 (g.v 6) fun i1 => K i1 h)
theorem D0_ok {K : T0} {g : Env} {h : H} (hq : D0 K g h) : ∃ (x6 : Int), E0 g x6 ∧ K x6 h := by
  obtain ⟨hd, hq⟩ := nilDs_ok hq
  obtain ⟨y3, e2, q4⟩ := vInt_ok hq
  exact ⟨y3, ⟨e2, hd⟩, q4⟩
def Q0 (Kn : T0) (Kr : T0) : XPost
  | .normal, g, h => D0 Kn g h
  | .ret, g, h => D0 Kr g h
  | _, _, _ => False
abbrev T1 := (Option Addr) → Int → Int → H → Prop
def E1 (g : Env) (x0 : Option Addr) (x1 : Int) (x2 : Int) : Prop := g.v 0 = (.pointer x0) ∧ g.v 1 = (.int .i64 x1) ∧ g.v 2 = (.int .i64 x2) ∧ g.ds = []
def D1 (K : T1) (g : Env) (h : H) : Prop := nilDs g.ds (vPtr (g.v 0) fun p5 => vInt .i64 (g.v 1) fun i6 => vInt .i64 (g.v 2) fun i7 => K p5 i6 i7 h)
theorem D1_ok {K : T1} {g : Env} {h : H} (hq : D1 K g h) : ∃ (x0 : Option Addr) (x1 : Int) (x2 : Int), E1 g x0 x1 x2 ∧ K x0 x1 x2 h := by
  obtain ⟨hd, hq⟩ := nilDs_ok hq
  obtain ⟨y9, e8, q10⟩ := vPtr_ok hq
  obtain ⟨y12, e11, q13⟩ := vInt_ok q10
  obtain ⟨y15, e14, q16⟩ := vInt_ok q13
  exact ⟨y9, y12, y15, ⟨e8, e11, e14, hd⟩, q16⟩
noncomputable def n1_c1 : Code := cFst code
noncomputable def n1_c2 : Code := cSnd code
noncomputable def n2_c1 : Code := cFst n1_c2
noncomputable def n2_c2 : Code := cSnd n1_c2
abbrev T2 := Int → (Option Addr) → Nat → Nat → H → Prop
def E2 (g : Env) (x2 : Int) (x7b : Option Addr) (x7n : Nat) (x7c : Nat) : Prop := g.v 2 = (.int .i64 x2) ∧ g.v 7 = (.slice x7b x7n x7c) ∧ g.ds = []
def D2 (K : T2) (g : Env) (h : H) : Prop := nilDs g.ds (vInt .i64 (g.v 2) fun i17 => vSlice (g.v 7) fun s18b s18n s18c => K i17 s18b s18n s18c h)
theorem D2_ok {K : T2} {g : Env} {h : H} (hq : D2 K g h) : ∃ (x2 : Int) (x7b : Option Addr) (x7n : Nat) (x7c : Nat), E2 g x2 x7b x7n x7c ∧ K x2 x7b x7n x7c h := by
  obtain ⟨hd, hq⟩ := nilDs_ok hq
  obtain ⟨y20, e19, q21⟩ := vInt_ok hq
  obtain ⟨y23b, y23n, y23c, e22, q24⟩ := vSlice_ok q21
  exact ⟨y20, y23b, y23n, y23c, ⟨e19, e22, hd⟩, q24⟩
noncomputable def n3_c1 : Code := cFst n2_c2
noncomputable def n3_c2 : Code := cSnd n2_c2
noncomputable def n4_c1 : Code := cFst n3_c2
noncomputable def n4_c2 : Code := cSnd n3_c2
abbrev T3 := H → Prop
def E3 (g : Env)  : Prop := g.ds = []
def D3 (K : T3) (g : Env) (h : H) : Prop := nilDs g.ds (K h)
theorem D3_ok {K : T3} {g : Env} {h : H} (hq : D3 K g h) : E3 g  ∧ K  h := by
  obtain ⟨hd, hq⟩ := nilDs_ok hq
  skip
  exact ⟨hd, hq⟩
abbrev n5  (Kn : T0) (Kr : T0) (h : H) : Prop :=
  Kr (-1 : Int) h
theorem n5_ok  (Kn : T0) (Kr : T0) (g : Env) (hg : E3 g ) (h : H) (hS : n5  Kn Kr h) : wpC none Try.prog 34 n4_c2 (Q0 Kn Kr) g h := by
  have hds : g.ds = [] := hg
  refine wpC_of_wpx (by kernel_rfl) (by kernel_rfl) (g' := ⟨g.v, []⟩) (by rw [env_ds hds]) ?_
  have e : (n5  Kn Kr h) = wpx none Try.prog 34 n4_c2 (Q0 Kn Kr) (⟨g.v, []⟩) h := by kernel_rfl
  exact e ▸ hS
def Q1 (Kn : T3) (Kr : T0) : XPost
  | .normal, g, h => D3 Kn g h
  | .ret, g, h => D0 Kr g h
  | _, _, _ => False
noncomputable def n6_c1 : Code := cFst n4_c1
noncomputable def n6_c2 : Code := cSnd n4_c1
abbrev T4 := Int → (Option Addr) → Nat → Nat → Int → H → Prop
def E4 (g : Env) (x2 : Int) (x7b : Option Addr) (x7n : Nat) (x7c : Nat) (x8 : Int) : Prop := g.v 2 = (.int .i64 x2) ∧ g.v 7 = (.slice x7b x7n x7c) ∧ g.v 8 = (.int .i64 x8) ∧ g.ds = []
def D4 (K : T4) (g : Env) (h : H) : Prop := nilDs g.ds (vInt .i64 (g.v 2) fun i25 => vSlice (g.v 7) fun s26b s26n s26c => vInt .i64 (g.v 8) fun i27 => K i25 s26b s26n s26c i27 h)
theorem D4_ok {K : T4} {g : Env} {h : H} (hq : D4 K g h) : ∃ (x2 : Int) (x7b : Option Addr) (x7n : Nat) (x7c : Nat) (x8 : Int), E4 g x2 x7b x7n x7c x8 ∧ K x2 x7b x7n x7c x8 h := by
  obtain ⟨hd, hq⟩ := nilDs_ok hq
  obtain ⟨y29, e28, q30⟩ := vInt_ok hq
  obtain ⟨y32b, y32n, y32c, e31, q33⟩ := vSlice_ok q30
  obtain ⟨y35, e34, q36⟩ := vInt_ok q33
  exact ⟨y29, y32b, y32n, y32c, y35, ⟨e28, e31, e34, hd⟩, q36⟩
noncomputable def n7_c1 : Code := cFst n6_c2
def Q2 (Kn : T3) (Ke0 : T3) (Kr : T0) : XPost
  | .normal, g, h => D3 Kn g h
  | .ret, g, h => D0 Kr g h
  | .exit id, g, h => cond (Nat.beq id 0) (D3 Ke0 g h) (False)
  | _, _, _ => False
noncomputable def n8_c1 : Code := cFst n7_c1
def Q3 (Kn : T4) (Ke0 : T3) (Kr : T0) : XPost
  | .normal, g, h => D4 Kn g h
  | .ret, g, h => D0 Kr g h
  | .exit id, g, h => cond (Nat.beq id 0) (D3 Ke0 g h) (False)
  | _, _, _ => False
def n8_L (Kn : T3) (Ke0 : T3) (Kr : T0) : Nat → Int → (Option Addr) → Nat → Nat → Int → H → Prop
  | 0 => fun _ _ _ _ _ _ => False
  | N + 1 => fun x2 x7b x7n x7c x8 h => Spl (x8 < (x7n : Int)) ((0 ≤ x8 ∧ x8 < (x7n : Int)) ∧ (vSome x7b fun a37 => ∃ i38, cell h (a37.add (Int.toNat x8 * 1)) = some (.int .i64 i38) ∧ (Spl (i38 = x2) (Kr x8 h) (Rng .i64 (x8 + (1 : Int)) ∧ (n8_L Kn Ke0 Kr N x2 x7b x7n x7c (x8 + (1 : Int)) h))))) (Ke0 h)
abbrev n8 (x2 : Int) (x7b : Option Addr) (x7n : Nat) (x7c : Nat) (x8 : Int) (Kn : T3) (Ke0 : T3) (Kr : T0) (h : H) : Prop := ∃ N, n8_L Kn Ke0 Kr N x2 x7b x7n x7c x8 h
theorem n8_ok (x2 : Int) (x7b : Option Addr) (x7n : Nat) (x7c : Nat) (x8 : Int) (Kn : T3) (Ke0 : T3) (Kr : T0) (g : Env) (hg : E4 g x2 x7b x7n x7c x8) (h : H) (hS : n8 x2 x7b x7n x7c x8 Kn Ke0 Kr h) : wpC none Try.prog 34 n7_c1 (Q2 Kn Ke0 Kr) g h := by
  obtain ⟨N0, hS⟩ := hS
  refine wpC_loop' (x := n8_c1) (by kernel_rfl) (fun k g h => ∃ (x2 : Int) (x7b : Option Addr) (x7n : Nat) (x7c : Nat) (x8 : Int), E4 g x2 x7b x7n x7c x8 ∧ n8_L Kn Ke0 Kr k x2 x7b x7n x7c x8 h) (fun g h hr => ?_) (fun N g h hr => ?_) N0 ⟨x2, x7b, x7n, x7c, x8, hg, hS⟩
  · obtain ⟨x2, x7b, x7n, x7c, x8, hg, hS⟩ := hr
    exact hS.elim
  · obtain ⟨x2, x7b, x7n, x7c, x8, hg, hS⟩ := hr
    have hw : wpC none Try.prog 34 n8_c1 (Q3 (fun z2 z7b z7n z7c z8 h => n8_L Kn Ke0 Kr N z2 z7b z7n z7c z8 h) Ke0 Kr) g h := by
      obtain ⟨hg2, hg7, hg8, hds⟩ := hg
      refine wpC_of_wpx (by kernel_rfl) (by kernel_rfl) (g' := (((⟨g.v, []⟩ : Env).upd (some 2) (.int .i64 x2)).upd (some 7) (.slice x7b x7n x7c)).upd (some 8) (.int .i64 x8)) (by rw [env_ds hds, upd_self hg2, upd_self hg7, upd_self hg8]) ?_
      have e : (n8_L Kn Ke0 Kr (N + 1) x2 x7b x7n x7c x8 h) = wpx none Try.prog 34 n8_c1 (Q3 (fun z2 z7b z7n z7c z8 h => n8_L Kn Ke0 Kr N z2 z7b z7n z7c z8 h) Ke0 Kr) ((((⟨g.v, []⟩ : Env).upd (some 2) (.int .i64 x2)).upd (some 7) (.slice x7b x7n x7c)).upd (some 8) (.int .i64 x8)) h := by kernel_rfl
      exact e ▸ hS
    refine hw.mono ?_
    intro e g' h' hq
    cases e with
    | normal => exact D4_ok (K := (fun z2 z7b z7n z7c z8 h => n8_L Kn Ke0 Kr N z2 z7b z7n z7c z8 h)) hq
    | _ => exact hq
abbrev n7 (x2 : Int) (x7b : Option Addr) (x7n : Nat) (x7c : Nat) (x8 : Int) (Kn : T3) (Kr : T0) (h : H) : Prop := n8 x2 x7b x7n x7c x8 Kn Kn Kr h
theorem n7_ok (x2 : Int) (x7b : Option Addr) (x7n : Nat) (x7c : Nat) (x8 : Int) (Kn : T3) (Kr : T0) (g : Env) (hg : E4 g x2 x7b x7n x7c x8) (h : H) (hS : n7 x2 x7b x7n x7c x8 Kn Kr h) : wpC none Try.prog 34 n6_c2 (Q1 Kn Kr) g h := by
  refine wpC_block' (id := 0) (x := n7_c1) (by kernel_rfl) (n8_ok x2 x7b x7n x7c x8 Kn Kn Kr g hg h hS) ?_
  intro e g' h' hq
  cases e <;> exact hq
def Q4 (Kn : T4) (Kr : T0) : XPost
  | .normal, g, h => D4 Kn g h
  | .ret, g, h => D0 Kr g h
  | _, _, _ => False
abbrev n6 (x2 : Int) (x7b : Option Addr) (x7n : Nat) (x7c : Nat) (Kn : T3) (Kr : T0) (h : H) : Prop :=
  n7 x2 x7b x7n x7c (0 : Int) Kn Kr h
theorem n6_ok (x2 : Int) (x7b : Option Addr) (x7n : Nat) (x7c : Nat) (Kn : T3) (Kr : T0) (g : Env) (hg : E2 g x2 x7b x7n x7c) (h : H) (hS : n6 x2 x7b x7n x7c Kn Kr h) : wpC none Try.prog 34 n4_c1 (Q1 Kn Kr) g h := by
  obtain ⟨hg2, hg7, hds⟩ := hg
  refine wpC_seq' (x := n6_c1) (y := n6_c2) (Q' := (Q4 (fun z2 z7b z7n z7c z8 h => n7 z2 z7b z7n z7c z8 Kn Kr h) Kr)) (by kernel_rfl) ?_ ?_
  · refine wpC_of_wpx (by kernel_rfl) (by kernel_rfl) (g' := ((⟨g.v, []⟩ : Env).upd (some 2) (.int .i64 x2)).upd (some 7) (.slice x7b x7n x7c)) (by rw [env_ds hds, upd_self hg2, upd_self hg7]) ?_
    have e : (n6 x2 x7b x7n x7c Kn Kr h) = wpx none Try.prog 34 n6_c1 (Q4 (fun z2 z7b z7n z7c z8 h => n7 z2 z7b z7n z7c z8 Kn Kr h) Kr) (((⟨g.v, []⟩ : Env).upd (some 2) (.int .i64 x2)).upd (some 7) (.slice x7b x7n x7c)) h := by kernel_rfl
    exact e ▸ hS
  · intro e g' h' hq
    cases e with
    | normal =>
      have hq : D4 (fun z2 z7b z7n z7c z8 h => n7 z2 z7b z7n z7c z8 Kn Kr h) g' h' := hq
      obtain ⟨y2, y7b, y7n, y7c, y8, hg', hq⟩ := D4_ok hq
      exact n7_ok y2 y7b y7n y7c y8 Kn Kr g' hg' h' hq
    | _ => exact hq
abbrev n4 (x2 : Int) (x7b : Option Addr) (x7n : Nat) (x7c : Nat) (Kn : T0) (Kr : T0) (h : H) : Prop := n6 x2 x7b x7n x7c (fun  h => n5 Kn Kr h) Kr h
theorem n4_ok (x2 : Int) (x7b : Option Addr) (x7n : Nat) (x7c : Nat) (Kn : T0) (Kr : T0) (g : Env) (hg : E2 g x2 x7b x7n x7c) (h : H) (hS : n4 x2 x7b x7n x7c Kn Kr h) : wpC none Try.prog 34 n3_c2 (Q0 Kn Kr) g h := by
  refine wpC_seq' (x := n4_c1) (y := n4_c2) (by kernel_rfl) (n6_ok x2 x7b x7n x7c (fun  h => n5 Kn Kr h) Kr g hg h hS) ?_
  intro e g' h' hq
  cases e with
  | normal =>
    have hq : D3 (fun  h => n5 Kn Kr h) g' h' := hq
    obtain ⟨hg', hq⟩ := D3_ok hq
    exact n5_ok  Kn Kr g' hg' h' hq
  | _ => exact hq
def Q5 (Kn : T2) (Kr : T0) : XPost
  | .normal, g, h => D2 Kn g h
  | .ret, g, h => D0 Kr g h
  | _, _, _ => False
abbrev n3 (x2 : Int) (x7b : Option Addr) (x7n : Nat) (x7c : Nat) (Kn : T0) (Kr : T0) (h : H) : Prop :=
  Spl (x2 = (-1 : Int)) (Kr (x7n : Int) h) (n4 x2 x7b x7n x7c Kn Kr h)
theorem n3_ok (x2 : Int) (x7b : Option Addr) (x7n : Nat) (x7c : Nat) (Kn : T0) (Kr : T0) (g : Env) (hg : E2 g x2 x7b x7n x7c) (h : H) (hS : n3 x2 x7b x7n x7c Kn Kr h) : wpC none Try.prog 34 n2_c2 (Q0 Kn Kr) g h := by
  obtain ⟨hg2, hg7, hds⟩ := hg
  refine wpC_seq' (x := n3_c1) (y := n3_c2) (Q' := (Q5 (fun z2 z7b z7n z7c h => n4 z2 z7b z7n z7c Kn Kr h) Kr)) (by kernel_rfl) ?_ ?_
  · refine wpC_of_wpx (by kernel_rfl) (by kernel_rfl) (g' := ((⟨g.v, []⟩ : Env).upd (some 2) (.int .i64 x2)).upd (some 7) (.slice x7b x7n x7c)) (by rw [env_ds hds, upd_self hg2, upd_self hg7]) ?_
    have e : (n3 x2 x7b x7n x7c Kn Kr h) = wpx none Try.prog 34 n3_c1 (Q5 (fun z2 z7b z7n z7c h => n4 z2 z7b z7n z7c Kn Kr h) Kr) (((⟨g.v, []⟩ : Env).upd (some 2) (.int .i64 x2)).upd (some 7) (.slice x7b x7n x7c)) h := by kernel_rfl
    exact e ▸ hS
  · intro e g' h' hq
    cases e with
    | normal =>
      have hq : D2 (fun z2 z7b z7n z7c h => n4 z2 z7b z7n z7c Kn Kr h) g' h' := hq
      obtain ⟨y2, y7b, y7n, y7c, hg', hq⟩ := D2_ok hq
      exact n4_ok y2 y7b y7n y7c Kn Kr g' hg' h' hq
    | _ => exact hq
abbrev n2 (x0 : Option Addr) (x1 : Int) (x2 : Int) (Kn : T0) (Kr : T0) (h : H) : Prop :=
  vSome x0 fun a39 => ∃ s40b s40n s40c, cell h (a39.add 0) = some (.slice s40b s40n s40c) ∧ ((0 ≤ x1 ∧ x1 < (s40n : Int)) ∧ (vSome s40b fun a41 => ∃ s42b s42n s42c, cell h ((a41.add (Int.toNat x1 * 8)).add 7) = some (.slice s42b s42n s42c) ∧ (n3 x2 s42b s42n s42c Kn Kr h)))
theorem n2_ok (x0 : Option Addr) (x1 : Int) (x2 : Int) (Kn : T0) (Kr : T0) (g : Env) (hg : E1 g x0 x1 x2) (h : H) (hS : n2 x0 x1 x2 Kn Kr h) : wpC none Try.prog 34 n1_c2 (Q0 Kn Kr) g h := by
  obtain ⟨hg0, hg1, hg2, hds⟩ := hg
  refine wpC_seq' (x := n2_c1) (y := n2_c2) (Q' := (Q5 (fun z2 z7b z7n z7c h => n3 z2 z7b z7n z7c Kn Kr h) Kr)) (by kernel_rfl) ?_ ?_
  · refine wpC_of_wpx (by kernel_rfl) (by kernel_rfl) (g' := (((⟨g.v, []⟩ : Env).upd (some 0) (.pointer x0)).upd (some 1) (.int .i64 x1)).upd (some 2) (.int .i64 x2)) (by rw [env_ds hds, upd_self hg0, upd_self hg1, upd_self hg2]) ?_
    have e : (n2 x0 x1 x2 Kn Kr h) = wpx none Try.prog 34 n2_c1 (Q5 (fun z2 z7b z7n z7c h => n3 z2 z7b z7n z7c Kn Kr h) Kr) ((((⟨g.v, []⟩ : Env).upd (some 0) (.pointer x0)).upd (some 1) (.int .i64 x1)).upd (some 2) (.int .i64 x2)) h := by kernel_rfl
    exact e ▸ hS
  · intro e g' h' hq
    cases e with
    | normal =>
      have hq : D2 (fun z2 z7b z7n z7c h => n3 z2 z7b z7n z7c Kn Kr h) g' h' := hq
      obtain ⟨y2, y7b, y7n, y7c, hg', hq⟩ := D2_ok hq
      exact n3_ok y2 y7b y7n y7c Kn Kr g' hg' h' hq
    | _ => exact hq
def Q6 (Kn : T1) (Kr : T0) : XPost
  | .normal, g, h => D1 Kn g h
  | .ret, g, h => D0 Kr g h
  | _, _, _ => False
abbrev n1 (x0 : Option Addr) (x1 : Int) (x2 : Int) (Kn : T0) (Kr : T0) (h : H) : Prop :=
  n2 x0 x1 x2 Kn Kr h
theorem n1_ok (x0 : Option Addr) (x1 : Int) (x2 : Int) (Kn : T0) (Kr : T0) (g : Env) (hg : E1 g x0 x1 x2) (h : H) (hS : n1 x0 x1 x2 Kn Kr h) : wpC none Try.prog 34 code (Q0 Kn Kr) g h := by
  obtain ⟨hg0, hg1, hg2, hds⟩ := hg
  refine wpC_seq' (x := n1_c1) (y := n1_c2) (Q' := (Q6 (fun z0 z1 z2 h => n2 z0 z1 z2 Kn Kr h) Kr)) (by kernel_rfl) ?_ ?_
  · refine wpC_of_wpx (by kernel_rfl) (by kernel_rfl) (g' := (((⟨g.v, []⟩ : Env).upd (some 0) (.pointer x0)).upd (some 1) (.int .i64 x1)).upd (some 2) (.int .i64 x2)) (by rw [env_ds hds, upd_self hg0, upd_self hg1, upd_self hg2]) ?_
    have e : (n1 x0 x1 x2 Kn Kr h) = wpx none Try.prog 34 n1_c1 (Q6 (fun z0 z1 z2 h => n2 z0 z1 z2 Kn Kr h) Kr) ((((⟨g.v, []⟩ : Env).upd (some 0) (.pointer x0)).upd (some 1) (.int .i64 x1)).upd (some 2) (.int .i64 x2)) h := by kernel_rfl
    exact e ▸ hS
  · intro e g' h' hq
    cases e with
    | normal =>
      have hq : D1 (fun z0 z1 z2 h => n2 z0 z1 z2 Kn Kr h) g' h' := hq
      obtain ⟨y0, y1, y2, hg', hq⟩ := D1_ok hq
      exact n2_ok y0 y1 y2 Kn Kr g' hg' h' hq
    | _ => exact hq
/-- WHAT (*tympan/tympanref10.Tree).place ASKS -/
abbrev asks (x0 : Option Addr) (x1 : Int) (x2 : Int) (K : Value → H → Prop) (h : H) : Prop := n1 x0 x1 x2 (fun y6 h => K (.int .i64 y6) h) (fun y6 h => K (.int .i64 y6) h) h
theorem ok (x0 : Option Addr) (x1 : Int) (x2 : Int) (K : Value → H → Prop) (h : H) (hS : asks x0 x1 x2 K h) : HCalls Try.prog 47 ⟨[(.pointer x0), (.int .i64 x1), (.int .i64 x2)]⟩ h K := by
  refine calls_of_wpC (c := code) Try.func47 (by kernel_rfl) (Nat.le_of_ble_eq_true (by kernel_rfl)) ?_
  refine (n1_ok x0 x1 x2 (fun y6 h => K (.int .i64 y6) h) (fun y6 h => K (.int .i64 y6) h) (env0 [(.pointer x0), (.int .i64 x1), (.int .i64 x2)]) ⟨rfl, rfl, rfl, rfl⟩ h hS).mono ?_
  intro e g' h' hq
  cases e with
  | normal =>
    have hq : D0 (fun y6 h => K (.int .i64 y6) h) g' h' := hq
    obtain ⟨y6, ⟨hg6, hd⟩, hq⟩ := D0_ok hq
    show leaveX g'.ds h' _
    rw [hd]
    show K (g'.v 6) h'
    rw [hg6]
    exact hq
  | ret =>
    have hq : D0 (fun y6 h => K (.int .i64 y6) h) g' h' := hq
    obtain ⟨y6, ⟨hg6, hd⟩, hq⟩ := D0_ok hq
    show leaveX g'.ds h' _
    rw [hd]
    show K (g'.v 6) h'
    rw [hg6]
    exact hq
  | _ => exact hq
end Sx.r10_Tree_place

/-! ### (*tympan/tympanref10.Tree).Parent -/
namespace Sx.r10_Tree_Parent
noncomputable def code : Code := bodyOf Try.f50
abbrev T0 := Int → H → Prop
def E0 (g : Env) (x4 : Int) : Prop := g.v 4 = (.int .i64 x4) ∧ g.ds = []
def D0 (K : T0) (g : Env) (h : H) : Prop := nilDs g.ds (vInt .i64 (g.v 4) fun i1 => K i1 h)
theorem D0_ok {K : T0} {g : Env} {h : H} (hq : D0 K g h) : ∃ (x4 : Int), E0 g x4 ∧ K x4 h := by
  obtain ⟨hd, hq⟩ := nilDs_ok hq
  obtain ⟨y3, e2, q4⟩ := vInt_ok hq
  exact ⟨y3, ⟨e2, hd⟩, q4⟩
def Q0 (Kn : T0) (Kr : T0) : XPost
  | .normal, g, h => D0 Kn g h
  | .ret, g, h => D0 Kr g h
  | _, _, _ => False
abbrev T1 := (Option Addr) → Int → H → Prop
def E1 (g : Env) (x0 : Option Addr) (x1 : Int) : Prop := g.v 0 = (.pointer x0) ∧ g.v 1 = (.int .i64 x1) ∧ g.ds = []
def D1 (K : T1) (g : Env) (h : H) : Prop := nilDs g.ds (vPtr (g.v 0) fun p5 => vInt .i64 (g.v 1) fun i6 => K p5 i6 h)
theorem D1_ok {K : T1} {g : Env} {h : H} (hq : D1 K g h) : ∃ (x0 : Option Addr) (x1 : Int), E1 g x0 x1 ∧ K x0 x1 h := by
  obtain ⟨hd, hq⟩ := nilDs_ok hq
  obtain ⟨y8, e7, q9⟩ := vPtr_ok hq
  obtain ⟨y11, e10, q12⟩ := vInt_ok q9
  exact ⟨y8, y11, ⟨e7, e10, hd⟩, q12⟩
abbrev n1 (x0 : Option Addr) (x1 : Int) (Kn : T0) (Kr : T0) (h : H) : Prop :=
  HCalls Try.prog 44 ⟨[(.pointer x0), (.int .i64 x1)]⟩ h fun v13 h14 => vBool v13 fun b15 => cond b15 (vSome x0 fun a16 => ∃ s17b s17n s17c, cell h14 (a16.add 0) = some (.slice s17b s17n s17c) ∧ ((0 ≤ x1 ∧ x1 < (s17n : Int)) ∧ (vSome s17b fun a18 => ∃ i19, cell h14 ((a18.add (Int.toNat x1 * 8)).add 6) = some (.int .i64 i19) ∧ (Kr i19 h14)))) (Kr (-1 : Int) h14)
theorem n1_ok (x0 : Option Addr) (x1 : Int) (Kn : T0) (Kr : T0) (g : Env) (hg : E1 g x0 x1) (h : H) (hS : n1 x0 x1 Kn Kr h) : wpC none Try.prog 19 code (Q0 Kn Kr) g h := by
  obtain ⟨hg0, hg1, hds⟩ := hg
  refine wpC_of_wpx (by kernel_rfl) (by kernel_rfl) (g' := ((⟨g.v, []⟩ : Env).upd (some 0) (.pointer x0)).upd (some 1) (.int .i64 x1)) (by rw [env_ds hds, upd_self hg0, upd_self hg1]) ?_
  have e : (n1 x0 x1 Kn Kr h) = wpx none Try.prog 19 code (Q0 Kn Kr) (((⟨g.v, []⟩ : Env).upd (some 0) (.pointer x0)).upd (some 1) (.int .i64 x1)) h := by kernel_rfl
  exact e ▸ hS
/-- WHAT (*tympan/tympanref10.Tree).Parent ASKS -/
abbrev asks (x0 : Option Addr) (x1 : Int) (K : Value → H → Prop) (h : H) : Prop := n1 x0 x1 (fun y4 h => K (.int .i64 y4) h) (fun y4 h => K (.int .i64 y4) h) h
theorem ok (x0 : Option Addr) (x1 : Int) (K : Value → H → Prop) (h : H) (hS : asks x0 x1 K h) : HCalls Try.prog 50 ⟨[(.pointer x0), (.int .i64 x1)]⟩ h K := by
  refine calls_of_wpC (c := code) Try.func50 (by kernel_rfl) (Nat.le_of_ble_eq_true (by kernel_rfl)) ?_
  refine (n1_ok x0 x1 (fun y4 h => K (.int .i64 y4) h) (fun y4 h => K (.int .i64 y4) h) (env0 [(.pointer x0), (.int .i64 x1)]) ⟨rfl, rfl, rfl⟩ h hS).mono ?_
  intro e g' h' hq
  cases e with
  | normal =>
    have hq : D0 (fun y4 h => K (.int .i64 y4) h) g' h' := hq
    obtain ⟨y4, ⟨hg4, hd⟩, hq⟩ := D0_ok hq
    show leaveX g'.ds h' _
    rw [hd]
    show K (g'.v 4) h'
    rw [hg4]
    exact hq
  | ret =>
    have hq : D0 (fun y4 h => K (.int .i64 y4) h) g' h' := hq
    obtain ⟨y4, ⟨hg4, hd⟩, hq⟩ := D0_ok hq
    show leaveX g'.ds h' _
    rw [hd]
    show K (g'.v 4) h'
    rw [hg4]
    exact hq
  | _ => exact hq
end Sx.r10_Tree_Parent

/-! ### (*tympan/tympanref10.Tree).Kids -/
namespace Sx.r10_Tree_Kids
noncomputable def code : Code := bodyOf Try.f52
abbrev T0 := (Option Addr) → Nat → Nat → H → Prop
def E0 (g : Env) (x4b : Option Addr) (x4n : Nat) (x4c : Nat) : Prop := g.v 4 = (.slice x4b x4n x4c) ∧ g.ds = []
def D0 (K : T0) (g : Env) (h : H) : Prop := nilDs g.ds (vSlice (g.v 4) fun s1b s1n s1c => K s1b s1n s1c h)
theorem D0_ok {K : T0} {g : Env} {h : H} (hq : D0 K g h) : ∃ (x4b : Option Addr) (x4n : Nat) (x4c : Nat), E0 g x4b x4n x4c ∧ K x4b x4n x4c h := by
  obtain ⟨hd, hq⟩ := nilDs_ok hq
  obtain ⟨y3b, y3n, y3c, e2, q4⟩ := vSlice_ok hq
  exact ⟨y3b, y3n, y3c, ⟨e2, hd⟩, q4⟩
def Q0 (Kn : T0) (Kr : T0) : XPost
  | .normal, g, h => D0 Kn g h
  | .ret, g, h => D0 Kr g h
  | _, _, _ => False
abbrev T1 := (Option Addr) → Int → H → Prop
def E1 (g : Env) (x0 : Option Addr) (x1 : Int) : Prop := g.v 0 = (.pointer x0) ∧ g.v 1 = (.int .i64 x1) ∧ g.ds = []
def D1 (K : T1) (g : Env) (h : H) : Prop := nilDs g.ds (vPtr (g.v 0) fun p5 => vInt .i64 (g.v 1) fun i6 => K p5 i6 h)
theorem D1_ok {K : T1} {g : Env} {h : H} (hq : D1 K g h) : ∃ (x0 : Option Addr) (x1 : Int), E1 g x0 x1 ∧ K x0 x1 h := by
  obtain ⟨hd, hq⟩ := nilDs_ok hq
  obtain ⟨y8, e7, q9⟩ := vPtr_ok hq
  obtain ⟨y11, e10, q12⟩ := vInt_ok q9
  exact ⟨y8, y11, ⟨e7, e10, hd⟩, q12⟩
noncomputable def n1_c1 : Code := cFst code
noncomputable def n1_c2 : Code := cSnd code
noncomputable def n2_c1 : Code := cFst n1_c2
noncomputable def n2_c2 : Code := cSnd n1_c2
abbrev T2 := (Option Addr) → Int → Bool → H → Prop
def E2 (g : Env) (x0 : Option Addr) (x1 : Int) (x5 : Bool) : Prop := g.v 0 = (.pointer x0) ∧ g.v 1 = (.int .i64 x1) ∧ g.v 5 = (.bool x5) ∧ g.ds = []
def D2 (K : T2) (g : Env) (h : H) : Prop := nilDs g.ds (vPtr (g.v 0) fun p13 => vInt .i64 (g.v 1) fun i14 => vBool (g.v 5) fun b15 => K p13 i14 b15 h)
theorem D2_ok {K : T2} {g : Env} {h : H} (hq : D2 K g h) : ∃ (x0 : Option Addr) (x1 : Int) (x5 : Bool), E2 g x0 x1 x5 ∧ K x0 x1 x5 h := by
  obtain ⟨hd, hq⟩ := nilDs_ok hq
  obtain ⟨y17, e16, q18⟩ := vPtr_ok hq
  obtain ⟨y20, e19, q21⟩ := vInt_ok q18
  obtain ⟨y23, e22, q24⟩ := vBool_ok q21
  exact ⟨y17, y20, y23, ⟨e16, e19, e22, hd⟩, q24⟩
abbrev n3 (x0 : Option Addr) (x1 : Int) (x5 : Bool) (Kn : T0) (Kr : T0) (h : H) : Prop :=
  cond x5 (vSome x0 fun a25 => ∃ s26b s26n s26c, cell h (a25.add 0) = some (.slice s26b s26n s26c) ∧ ((0 ≤ x1 ∧ x1 < (s26n : Int)) ∧ (vSome s26b fun a27 => ∃ s28b s28n s28c, cell h ((a27.add (Int.toNat x1 * 8)).add 7) = some (.slice s28b s28n s28c) ∧ (SemH Try.prog (Builtin.append_ #[38, 38] 38 ⟨[(.slice none 0 0), (.slice s28b s28n s28c)]⟩) h fun v29 h30 => vSlice v29 fun s31b s31n s31c => Kr s31b s31n s31c h30)))) (Kr none 0 0 h)
theorem n3_ok (x0 : Option Addr) (x1 : Int) (x5 : Bool) (Kn : T0) (Kr : T0) (g : Env) (hg : E2 g x0 x1 x5) (h : H) (hS : n3 x0 x1 x5 Kn Kr h) : wpC none Try.prog 22 n2_c2 (Q0 Kn Kr) g h := by
  obtain ⟨hg0, hg1, hg5, hds⟩ := hg
  refine wpC_of_wpx (by kernel_rfl) (by kernel_rfl) (g' := (((⟨g.v, []⟩ : Env).upd (some 0) (.pointer x0)).upd (some 1) (.int .i64 x1)).upd (some 5) (.bool x5)) (by rw [env_ds hds, upd_self hg0, upd_self hg1, upd_self hg5]) ?_
  have e : (n3 x0 x1 x5 Kn Kr h) = wpx none Try.prog 22 n2_c2 (Q0 Kn Kr) ((((⟨g.v, []⟩ : Env).upd (some 0) (.pointer x0)).upd (some 1) (.int .i64 x1)).upd (some 5) (.bool x5)) h := by kernel_rfl
  exact e ▸ hS
def Q1 (Kn : T2) (Kr : T0) : XPost
  | .normal, g, h => D2 Kn g h
  | .ret, g, h => D0 Kr g h
  | _, _, _ => False
abbrev n2 (x0 : Option Addr) (x1 : Int) (Kn : T0) (Kr : T0) (h : H) : Prop :=
  HCalls Try.prog 44 ⟨[(.pointer x0), (.int .i64 x1)]⟩ h fun v32 h33 => vBool v32 fun b34 => cond b34 (n3 x0 x1 true Kn Kr h33) (n3 x0 x1 false Kn Kr h33)
theorem n2_ok (x0 : Option Addr) (x1 : Int) (Kn : T0) (Kr : T0) (g : Env) (hg : E1 g x0 x1) (h : H) (hS : n2 x0 x1 Kn Kr h) : wpC none Try.prog 22 n1_c2 (Q0 Kn Kr) g h := by
  obtain ⟨hg0, hg1, hds⟩ := hg
  refine wpC_seq' (x := n2_c1) (y := n2_c2) (Q' := (Q1 (fun z0 z1 z5 h => n3 z0 z1 z5 Kn Kr h) Kr)) (by kernel_rfl) ?_ ?_
  · refine wpC_of_wpx (by kernel_rfl) (by kernel_rfl) (g' := ((⟨g.v, []⟩ : Env).upd (some 0) (.pointer x0)).upd (some 1) (.int .i64 x1)) (by rw [env_ds hds, upd_self hg0, upd_self hg1]) ?_
    have e : (n2 x0 x1 Kn Kr h) = wpx none Try.prog 22 n2_c1 (Q1 (fun z0 z1 z5 h => n3 z0 z1 z5 Kn Kr h) Kr) (((⟨g.v, []⟩ : Env).upd (some 0) (.pointer x0)).upd (some 1) (.int .i64 x1)) h := by kernel_rfl
    exact e ▸ hS
  · intro e g' h' hq
    cases e with
    | normal =>
      have hq : D2 (fun z0 z1 z5 h => n3 z0 z1 z5 Kn Kr h) g' h' := hq
      obtain ⟨y0, y1, y5, hg', hq⟩ := D2_ok hq
      exact n3_ok y0 y1 y5 Kn Kr g' hg' h' hq
    | _ => exact hq
def Q2 (Kn : T1) (Kr : T0) : XPost
  | .normal, g, h => D1 Kn g h
  | .ret, g, h => D0 Kr g h
  | _, _, _ => False
abbrev n1 (x0 : Option Addr) (x1 : Int) (Kn : T0) (Kr : T0) (h : H) : Prop :=
  n2 x0 x1 Kn Kr h
theorem n1_ok (x0 : Option Addr) (x1 : Int) (Kn : T0) (Kr : T0) (g : Env) (hg : E1 g x0 x1) (h : H) (hS : n1 x0 x1 Kn Kr h) : wpC none Try.prog 22 code (Q0 Kn Kr) g h := by
  obtain ⟨hg0, hg1, hds⟩ := hg
  refine wpC_seq' (x := n1_c1) (y := n1_c2) (Q' := (Q2 (fun z0 z1 h => n2 z0 z1 Kn Kr h) Kr)) (by kernel_rfl) ?_ ?_
  · refine wpC_of_wpx (by kernel_rfl) (by kernel_rfl) (g' := ((⟨g.v, []⟩ : Env).upd (some 0) (.pointer x0)).upd (some 1) (.int .i64 x1)) (by rw [env_ds hds, upd_self hg0, upd_self hg1]) ?_
    have e : (n1 x0 x1 Kn Kr h) = wpx none Try.prog 22 n1_c1 (Q2 (fun z0 z1 h => n2 z0 z1 Kn Kr h) Kr) (((⟨g.v, []⟩ : Env).upd (some 0) (.pointer x0)).upd (some 1) (.int .i64 x1)) h := by kernel_rfl
    exact e ▸ hS
  · intro e g' h' hq
    cases e with
    | normal =>
      have hq : D1 (fun z0 z1 h => n2 z0 z1 Kn Kr h) g' h' := hq
      obtain ⟨y0, y1, hg', hq⟩ := D1_ok hq
      exact n2_ok y0 y1 Kn Kr g' hg' h' hq
    | _ => exact hq
/-- WHAT (*tympan/tympanref10.Tree).Kids ASKS -/
abbrev asks (x0 : Option Addr) (x1 : Int) (K : Value → H → Prop) (h : H) : Prop := n1 x0 x1 (fun y4b y4n y4c h => K (.slice y4b y4n y4c) h) (fun y4b y4n y4c h => K (.slice y4b y4n y4c) h) h
theorem ok (x0 : Option Addr) (x1 : Int) (K : Value → H → Prop) (h : H) (hS : asks x0 x1 K h) : HCalls Try.prog 52 ⟨[(.pointer x0), (.int .i64 x1)]⟩ h K := by
  refine calls_of_wpC (c := code) Try.func52 (by kernel_rfl) (Nat.le_of_ble_eq_true (by kernel_rfl)) ?_
  refine (n1_ok x0 x1 (fun y4b y4n y4c h => K (.slice y4b y4n y4c) h) (fun y4b y4n y4c h => K (.slice y4b y4n y4c) h) (env0 [(.pointer x0), (.int .i64 x1)]) ⟨rfl, rfl, rfl⟩ h hS).mono ?_
  intro e g' h' hq
  cases e with
  | normal =>
    have hq : D0 (fun y4b y4n y4c h => K (.slice y4b y4n y4c) h) g' h' := hq
    obtain ⟨y4b, y4n, y4c, ⟨hg4, hd⟩, hq⟩ := D0_ok hq
    show leaveX g'.ds h' _
    rw [hd]
    show K (g'.v 4) h'
    rw [hg4]
    exact hq
  | ret =>
    have hq : D0 (fun y4b y4n y4c h => K (.slice y4b y4n y4c) h) g' h' := hq
    obtain ⟨y4b, y4n, y4c, ⟨hg4, hd⟩, hq⟩ := D0_ok hq
    show leaveX g'.ds h' _
    rw [hd]
    show K (g'.v 4) h'
    rw [hg4]
    exact hq
  | _ => exact hq
end Sx.r10_Tree_Kids

/-! ### (*tympan/tympanref10.Tree).Whole -/
namespace Sx.r10_Tree_Whole
noncomputable def code : Code := bodyOf Try.f53
abbrev T0 := (Option Addr) → Nat → Nat → H → Prop
def E0 (g : Env) (x4b : Option Addr) (x4n : Nat) (x4c : Nat) : Prop := g.v 4 = (.slice x4b x4n x4c) ∧ g.ds = []
def D0 (K : T0) (g : Env) (h : H) : Prop := nilDs g.ds (vSlice (g.v 4) fun s1b s1n s1c => K s1b s1n s1c h)
theorem D0_ok {K : T0} {g : Env} {h : H} (hq : D0 K g h) : ∃ (x4b : Option Addr) (x4n : Nat) (x4c : Nat), E0 g x4b x4n x4c ∧ K x4b x4n x4c h := by
  obtain ⟨hd, hq⟩ := nilDs_ok hq
  obtain ⟨y3b, y3n, y3c, e2, q4⟩ := vSlice_ok hq
  exact ⟨y3b, y3n, y3c, ⟨e2, hd⟩, q4⟩
def Q0 (Kn : T0) (Kr : T0) : XPost
  | .normal, g, h => D0 Kn g h
  | .ret, g, h => D0 Kr g h
  | _, _, _ => False
abbrev T1 := (Option Addr) → Int → H → Prop
def E1 (g : Env) (x0 : Option Addr) (x1 : Int) : Prop := g.v 0 = (.pointer x0) ∧ g.v 1 = (.int .i64 x1) ∧ g.ds = []
def D1 (K : T1) (g : Env) (h : H) : Prop := nilDs g.ds (vPtr (g.v 0) fun p5 => vInt .i64 (g.v 1) fun i6 => K p5 i6 h)
theorem D1_ok {K : T1} {g : Env} {h : H} (hq : D1 K g h) : ∃ (x0 : Option Addr) (x1 : Int), E1 g x0 x1 ∧ K x0 x1 h := by
  obtain ⟨hd, hq⟩ := nilDs_ok hq
  obtain ⟨y8, e7, q9⟩ := vPtr_ok hq
  obtain ⟨y11, e10, q12⟩ := vInt_ok q9
  exact ⟨y8, y11, ⟨e7, e10, hd⟩, q12⟩
noncomputable def n1_c1 : Code := cFst code
noncomputable def n1_c2 : Code := cSnd code
noncomputable def n2_c1 : Code := cFst n1_c2
noncomputable def n2_c2 : Code := cSnd n1_c2
abbrev T2 := (Option Addr) → Int → Bool → H → Prop
def E2 (g : Env) (x0 : Option Addr) (x1 : Int) (x5 : Bool) : Prop := g.v 0 = (.pointer x0) ∧ g.v 1 = (.int .i64 x1) ∧ g.v 5 = (.bool x5) ∧ g.ds = []
def D2 (K : T2) (g : Env) (h : H) : Prop := nilDs g.ds (vPtr (g.v 0) fun p13 => vInt .i64 (g.v 1) fun i14 => vBool (g.v 5) fun b15 => K p13 i14 b15 h)
theorem D2_ok {K : T2} {g : Env} {h : H} (hq : D2 K g h) : ∃ (x0 : Option Addr) (x1 : Int) (x5 : Bool), E2 g x0 x1 x5 ∧ K x0 x1 x5 h := by
  obtain ⟨hd, hq⟩ := nilDs_ok hq
  obtain ⟨y17, e16, q18⟩ := vPtr_ok hq
  obtain ⟨y20, e19, q21⟩ := vInt_ok q18
  obtain ⟨y23, e22, q24⟩ := vBool_ok q21
  exact ⟨y17, y20, y23, ⟨e16, e19, e22, hd⟩, q24⟩
noncomputable def n3_c1 : Code := cFst n2_c2
noncomputable def n3_c2 : Code := cSnd n2_c2
noncomputable def n4_c1 : Code := cFst n3_c2
noncomputable def n4_c2 : Code := cSnd n3_c2
abbrev T3 := (Option Addr) → Int → (Option Addr) → Nat → Nat → H → Prop
def E3 (g : Env) (x0 : Option Addr) (x1 : Int) (x6b : Option Addr) (x6n : Nat) (x6c : Nat) : Prop := g.v 0 = (.pointer x0) ∧ g.v 1 = (.int .i64 x1) ∧ g.v 6 = (.slice x6b x6n x6c) ∧ g.ds = []
def D3 (K : T3) (g : Env) (h : H) : Prop := nilDs g.ds (vPtr (g.v 0) fun p25 => vInt .i64 (g.v 1) fun i26 => vSlice (g.v 6) fun s27b s27n s27c => K p25 i26 s27b s27n s27c h)
theorem D3_ok {K : T3} {g : Env} {h : H} (hq : D3 K g h) : ∃ (x0 : Option Addr) (x1 : Int) (x6b : Option Addr) (x6n : Nat) (x6c : Nat), E3 g x0 x1 x6b x6n x6c ∧ K x0 x1 x6b x6n x6c h := by
  obtain ⟨hd, hq⟩ := nilDs_ok hq
  obtain ⟨y29, e28, q30⟩ := vPtr_ok hq
  obtain ⟨y32, e31, q33⟩ := vInt_ok q30
  obtain ⟨y35b, y35n, y35c, e34, q36⟩ := vSlice_ok q33
  exact ⟨y29, y32, y35b, y35n, y35c, ⟨e28, e31, e34, hd⟩, q36⟩
noncomputable def n5_c1 : Code := cFst n4_c2
noncomputable def n5_c2 : Code := cSnd n4_c2
abbrev T4 := (Option Addr) → (Option Addr) → Nat → Nat → (Option Addr) → Nat → Nat → H → Prop
def E4 (g : Env) (x0 : Option Addr) (x6b : Option Addr) (x6n : Nat) (x6c : Nat) (x7b : Option Addr) (x7n : Nat) (x7c : Nat) : Prop := g.v 0 = (.pointer x0) ∧ g.v 6 = (.slice x6b x6n x6c) ∧ g.v 7 = (.slice x7b x7n x7c) ∧ g.ds = []
def D4 (K : T4) (g : Env) (h : H) : Prop := nilDs g.ds (vPtr (g.v 0) fun p37 => vSlice (g.v 6) fun s38b s38n s38c => vSlice (g.v 7) fun s39b s39n s39c => K p37 s38b s38n s38c s39b s39n s39c h)
theorem D4_ok {K : T4} {g : Env} {h : H} (hq : D4 K g h) : ∃ (x0 : Option Addr) (x6b : Option Addr) (x6n : Nat) (x6c : Nat) (x7b : Option Addr) (x7n : Nat) (x7c : Nat), E4 g x0 x6b x6n x6c x7b x7n x7c ∧ K x0 x6b x6n x6c x7b x7n x7c h := by
  obtain ⟨hd, hq⟩ := nilDs_ok hq
  obtain ⟨y41, e40, q42⟩ := vPtr_ok hq
  obtain ⟨y44b, y44n, y44c, e43, q45⟩ := vSlice_ok q42
  obtain ⟨y47b, y47n, y47c, e46, q48⟩ := vSlice_ok q45
  exact ⟨y41, y44b, y44n, y44c, y47b, y47n, y47c, ⟨e40, e43, e46, hd⟩, q48⟩
noncomputable def n6_c1 : Code := cFst n5_c2
noncomputable def n6_c2 : Code := cSnd n5_c2
abbrev T5 := (Option Addr) → Nat → Nat → H → Prop
def E5 (g : Env) (x6b : Option Addr) (x6n : Nat) (x6c : Nat) : Prop := g.v 6 = (.slice x6b x6n x6c) ∧ g.ds = []
def D5 (K : T5) (g : Env) (h : H) : Prop := nilDs g.ds (vSlice (g.v 6) fun s49b s49n s49c => K s49b s49n s49c h)
theorem D5_ok {K : T5} {g : Env} {h : H} (hq : D5 K g h) : ∃ (x6b : Option Addr) (x6n : Nat) (x6c : Nat), E5 g x6b x6n x6c ∧ K x6b x6n x6c h := by
  obtain ⟨hd, hq⟩ := nilDs_ok hq
  obtain ⟨y51b, y51n, y51c, e50, q52⟩ := vSlice_ok hq
  exact ⟨y51b, y51n, y51c, ⟨e50, hd⟩, q52⟩
abbrev n7 (x6b : Option Addr) (x6n : Nat) (x6c : Nat) (Kn : T0) (Kr : T0) (h : H) : Prop :=
  Kr x6b x6n x6c h
theorem n7_ok (x6b : Option Addr) (x6n : Nat) (x6c : Nat) (Kn : T0) (Kr : T0) (g : Env) (hg : E5 g x6b x6n x6c) (h : H) (hS : n7 x6b x6n x6c Kn Kr h) : wpC none Try.prog 53 n6_c2 (Q0 Kn Kr) g h := by
  obtain ⟨hg6, hds⟩ := hg
  refine wpC_of_wpx (by kernel_rfl) (by kernel_rfl) (g' := (⟨g.v, []⟩ : Env).upd (some 6) (.slice x6b x6n x6c)) (by rw [env_ds hds, upd_self hg6]) ?_
  have e : (n7 x6b x6n x6c Kn Kr h) = wpx none Try.prog 53 n6_c2 (Q0 Kn Kr) ((⟨g.v, []⟩ : Env).upd (some 6) (.slice x6b x6n x6c)) h := by kernel_rfl
  exact e ▸ hS
def Q1 (Kn : T5) (Kr : T0) : XPost
  | .normal, g, h => D5 Kn g h
  | .ret, g, h => D0 Kr g h
  | _, _, _ => False
noncomputable def n8_c1 : Code := cFst n6_c1
noncomputable def n8_c2 : Code := cSnd n6_c1
abbrev T6 := (Option Addr) → (Option Addr) → Nat → Nat → (Option Addr) → Nat → Nat → Int → H → Prop
def E6 (g : Env) (x0 : Option Addr) (x6b : Option Addr) (x6n : Nat) (x6c : Nat) (x7b : Option Addr) (x7n : Nat) (x7c : Nat) (x8 : Int) : Prop := g.v 0 = (.pointer x0) ∧ g.v 6 = (.slice x6b x6n x6c) ∧ g.v 7 = (.slice x7b x7n x7c) ∧ g.v 8 = (.int .i64 x8) ∧ g.ds = []
def D6 (K : T6) (g : Env) (h : H) : Prop := nilDs g.ds (vPtr (g.v 0) fun p53 => vSlice (g.v 6) fun s54b s54n s54c => vSlice (g.v 7) fun s55b s55n s55c => vInt .i64 (g.v 8) fun i56 => K p53 s54b s54n s54c s55b s55n s55c i56 h)
theorem D6_ok {K : T6} {g : Env} {h : H} (hq : D6 K g h) : ∃ (x0 : Option Addr) (x6b : Option Addr) (x6n : Nat) (x6c : Nat) (x7b : Option Addr) (x7n : Nat) (x7c : Nat) (x8 : Int), E6 g x0 x6b x6n x6c x7b x7n x7c x8 ∧ K x0 x6b x6n x6c x7b x7n x7c x8 h := by
  obtain ⟨hd, hq⟩ := nilDs_ok hq
  obtain ⟨y58, e57, q59⟩ := vPtr_ok hq
  obtain ⟨y61b, y61n, y61c, e60, q62⟩ := vSlice_ok q59
  obtain ⟨y64b, y64n, y64c, e63, q65⟩ := vSlice_ok q62
  obtain ⟨y67, e66, q68⟩ := vInt_ok q65
  exact ⟨y58, y61b, y61n, y61c, y64b, y64n, y64c, y67, ⟨e57, e60, e63, e66, hd⟩, q68⟩
noncomputable def n9_c1 : Code := cFst n8_c2
def Q2 (Kn : T5) (Ke0 : T5) (Kr : T0) : XPost
  | .normal, g, h => D5 Kn g h
  | .ret, g, h => D0 Kr g h
  | .exit id, g, h => cond (Nat.beq id 0) (D5 Ke0 g h) (False)
  | _, _, _ => False
noncomputable def n10_c1 : Code := cFst n9_c1
def Q3 (Kn : T6) (Ke0 : T5) (Kr : T0) : XPost
  | .normal, g, h => D6 Kn g h
  | .ret, g, h => D0 Kr g h
  | .exit id, g, h => cond (Nat.beq id 0) (D5 Ke0 g h) (False)
  | _, _, _ => False
def n10_L (Kn : T5) (Ke0 : T5) (Kr : T0) : Nat → (Option Addr) → (Option Addr) → Nat → Nat → (Option Addr) → Nat → Nat → Int → H → Prop
  | 0 => fun _ _ _ _ _ _ _ _ _ => False
  | N + 1 => fun x0 x6b x6n x6c x7b x7n x7c x8 h => Spl (x8 < (x7n : Int)) ((vSome x0 fun a69 => ∃ s70b s70n s70c, cell h (a69.add 0) = some (.slice s70b s70n s70c) ∧ ((0 ≤ x8 ∧ x8 < (x7n : Int)) ∧ (vSome x7b fun a71 => ∃ i72, cell h (a71.add (Int.toNat x8 * 1)) = some (.int .i64 i72) ∧ ((0 ≤ i72 ∧ i72 < (s70n : Int)) ∧ (vSome s70b fun a73 => ∃ i74, cell h ((((a73.add (Int.toNat i72 * 8)).add 0)).add 0) = some (.int .u8 i74) ∧ (∃ i75, cell h ((((a73.add (Int.toNat i72 * 8)).add 0)).add 1) = some (.int .u8 i75) ∧ (∃ s76, cell h ((((a73.add (Int.toNat i72 * 8)).add 0)).add 2) = some (S s76) ∧ (∃ s77b s77n s77c, cell h ((((a73.add (Int.toNat i72 * 8)).add 0)).add 3) = some (.slice s77b s77n s77c) ∧ (∃ s78, cell h ((((a73.add (Int.toNat i72 * 8)).add 0)).add 4) = some (S s78) ∧ (∃ s79b s79n s79c, cell h ((((a73.add (Int.toNat i72 * 8)).add 0)).add 5) = some (.slice s79b s79n s79c) ∧ (HCalls Try.prog 43 ⟨[(.agg ⟨[(.int .u8 i74), (.int .u8 i75), (S s76), (.slice s77b s77n s77c), (S s78), (.slice s79b s79n s79c)]⟩)]⟩ h fun v80 h81 => vAgg v80 fun l82 => uncons l82 fun e83 l84 => vInt .u8 e83 fun i85 => uncons l84 fun e86 l87 => vInt .u8 e86 fun i88 => uncons l87 fun e89 l90 => vStr e89 fun s91 => uncons l90 fun e92 l93 => vSlice e92 fun s94b s94n s94c => uncons l93 fun e95 l96 => vStr e95 fun s97 => uncons l96 fun e98 l99 => vSlice e98 fun s100b s100n s100c => unnil l99 (newx h81 ⟨[(.int .u8 (0 : Int)), (.int .u8 (0 : Int)), (S ([] : List UInt8)), (.slice none 0 0), (S ([] : List UInt8)), (.slice none 0 0)]⟩ 31 fun a101 h102 => stL a101 [(.int .u8 i85), (.int .u8 i88), (S s91), (.slice s94b s94n s94c), (S s97), (.slice s100b s100n s100c)] 0 h102 fun h103 => (0 ≤ x8 ∧ x8 < (x7n : Int)) ∧ (vSome x7b fun a104 => ∃ i105, cell h103 (a104.add (Int.toNat x8 * 1)) = some (.int .i64 i105) ∧ (HCalls Try.prog 53 ⟨[(.pointer x0), (.int .i64 i105)]⟩ h103 fun v106 h107 => vSlice v106 fun s108b s108n s108c => stL (a101.add 5) [(.slice s108b s108n s108c)] 0 h107 fun h109 => ∃ i110, cell h109 ((a101).add 0) = some (.int .u8 i110) ∧ (∃ i111, cell h109 ((a101).add 1) = some (.int .u8 i111) ∧ (∃ s112, cell h109 ((a101).add 2) = some (S s112) ∧ (∃ s113b s113n s113c, cell h109 ((a101).add 3) = some (.slice s113b s113n s113c) ∧ (∃ s114, cell h109 ((a101).add 4) = some (S s114) ∧ (∃ s115b s115n s115c, cell h109 ((a101).add 5) = some (.slice s115b s115n s115c) ∧ (newx h109 #[(.int .u8 i110), (.int .u8 i111), (S s112), (.slice s113b s113n s113c), (S s114), (.slice s115b s115n s115c)] 31 fun a116 h117 => SemH Try.prog (Builtin.append_ #[29, 29] 29 ⟨[(.slice x6b x6n x6c), (.slice (some a116) 1 1)]⟩) h117 fun v118 h119 => vSlice v118 fun s120b s120n s120c => Rng .i64 (x8 + (1 : Int)) ∧ (n10_L Kn Ke0 Kr N x0 s120b s120n s120c x7b x7n x7c (x8 + (1 : Int)) h119))))))))))))))))))))) ∧ (vSome x0 fun a121 => ∃ s122b s122n s122c, cell h (a121.add 0) = some (.slice s122b s122n s122c) ∧ ((0 ≤ x8 ∧ x8 < (x7n : Int)) ∧ (vSome x7b fun a123 => ∃ i124, cell h (a123.add (Int.toNat x8 * 1)) = some (.int .i64 i124) ∧ ((0 ≤ i124 ∧ i124 < (s122n : Int)) ∧ (vSome s122b fun a125 => ∃ i126, cell h ((((a125.add (Int.toNat i124 * 8)).add 0)).add 0) = some (.int .u8 i126) ∧ (∃ i127, cell h ((((a125.add (Int.toNat i124 * 8)).add 0)).add 1) = some (.int .u8 i127) ∧ (∃ s128, cell h ((((a125.add (Int.toNat i124 * 8)).add 0)).add 2) = some (S s128) ∧ (∃ s129b s129n s129c, cell h ((((a125.add (Int.toNat i124 * 8)).add 0)).add 3) = some (.slice s129b s129n s129c) ∧ (∃ s130, cell h ((((a125.add (Int.toNat i124 * 8)).add 0)).add 4) = some (S s130) ∧ (∃ s131b s131n s131c, cell h ((((a125.add (Int.toNat i124 * 8)).add 0)).add 5) = some (.slice s131b s131n s131c) ∧ (newx h ⟨[(.int .u8 (0 : Int)), (.int .u8 (0 : Int)), (S ([] : List UInt8)), (.slice none 0 0), (S ([] : List UInt8)), (.slice none 0 0)]⟩ 31 fun a132 h133 => ExtH h h133 ∧ (HCalls Try.prog 43 ⟨[(.agg ⟨[(.int .u8 i126), (.int .u8 i127), (S s128), (.slice s129b s129n s129c), (S s130), (.slice s131b s131n s131c)]⟩)]⟩ h133 fun v134 h135 => vAgg v134 fun l136 => uncons l136 fun e137 l138 => vInt .u8 e137 fun i139 => uncons l138 fun e140 l141 => vInt .u8 e140 fun i142 => uncons l141 fun e143 l144 => vStr e143 fun s145 => uncons l144 fun e146 l147 => vSlice e146 fun s148b s148n s148c => uncons l147 fun e149 l150 => vStr e149 fun s151 => uncons l150 fun e152 l153 => vSlice e152 fun s154b s154n s154c => unnil l153 (stL a132 [(.int .u8 i139), (.int .u8 i142), (S s145), (.slice s148b s148n s148c), (S s151), (.slice s154b s154n s154c)] 0 h135 fun h155 => (0 ≤ x8 ∧ x8 < (x7n : Int)) ∧ (vSome x7b fun a156 => ∃ i157, cell h155 (a156.add (Int.toNat x8 * 1)) = some (.int .i64 i157) ∧ (HCalls Try.prog 53 ⟨[(.pointer x0), (.int .i64 i157)]⟩ h155 fun v158 h159 => vSlice v158 fun s160b s160n s160c => stL (a132.add 5) [(.slice s160b s160n s160c)] 0 h159 fun h161 => ∃ i162, cell h161 ((a132).add 0) = some (.int .u8 i162) ∧ (∃ i163, cell h161 ((a132).add 1) = some (.int .u8 i163) ∧ (∃ s164, cell h161 ((a132).add 2) = some (S s164) ∧ (∃ s165b s165n s165c, cell h161 ((a132).add 3) = some (.slice s165b s165n s165c) ∧ (∃ s166, cell h161 ((a132).add 4) = some (S s166) ∧ (∃ s167b s167n s167c, cell h161 ((a132).add 5) = some (.slice s167b s167n s167c) ∧ (newx h161 #[(.int .u8 i162), (.int .u8 i163), (S s164), (.slice s165b s165n s165c), (S s166), (.slice s167b s167n s167c)] 31 fun a168 h169 => SemH Try.prog (Builtin.append_ #[29, 29] 29 ⟨[(.slice x6b x6n x6c), (.slice (some a168) 1 1)]⟩) h169 fun v170 h171 => vSlice v170 fun s172b s172n s172c => Rng .i64 (x8 + (1 : Int)) ∧ (n10_L Kn Ke0 Kr N x0 s172b s172n s172c x7b x7n x7c (x8 + (1 : Int)) h171))))))))))))))))))))))) (Ke0 x6b x6n x6c h)
abbrev n10 (x0 : Option Addr) (x6b : Option Addr) (x6n : Nat) (x6c : Nat) (x7b : Option Addr) (x7n : Nat) (x7c : Nat) (x8 : Int) (Kn : T5) (Ke0 : T5) (Kr : T0) (h : H) : Prop := ∃ N, n10_L Kn Ke0 Kr N x0 x6b x6n x6c x7b x7n x7c x8 h
theorem n10_ok (x0 : Option Addr) (x6b : Option Addr) (x6n : Nat) (x6c : Nat) (x7b : Option Addr) (x7n : Nat) (x7c : Nat) (x8 : Int) (Kn : T5) (Ke0 : T5) (Kr : T0) (g : Env) (hg : E6 g x0 x6b x6n x6c x7b x7n x7c x8) (h : H) (hS : n10 x0 x6b x6n x6c x7b x7n x7c x8 Kn Ke0 Kr h) : wpC none Try.prog 53 n9_c1 (Q2 Kn Ke0 Kr) g h := by
  obtain ⟨N0, hS⟩ := hS
  refine wpC_loop' (x := n10_c1) (by kernel_rfl) (fun k g h => ∃ (x0 : Option Addr) (x6b : Option Addr) (x6n : Nat) (x6c : Nat) (x7b : Option Addr) (x7n : Nat) (x7c : Nat) (x8 : Int), E6 g x0 x6b x6n x6c x7b x7n x7c x8 ∧ n10_L Kn Ke0 Kr k x0 x6b x6n x6c x7b x7n x7c x8 h) (fun g h hr => ?_) (fun N g h hr => ?_) N0 ⟨x0, x6b, x6n, x6c, x7b, x7n, x7c, x8, hg, hS⟩
  · obtain ⟨x0, x6b, x6n, x6c, x7b, x7n, x7c, x8, hg, hS⟩ := hr
    exact hS.elim
  · obtain ⟨x0, x6b, x6n, x6c, x7b, x7n, x7c, x8, hg, hS⟩ := hr
    have hw : wpC none Try.prog 53 n10_c1 (Q3 (fun z0 z6b z6n z6c z7b z7n z7c z8 h => n10_L Kn Ke0 Kr N z0 z6b z6n z6c z7b z7n z7c z8 h) Ke0 Kr) g h := by
      obtain ⟨hg0, hg6, hg7, hg8, hds⟩ := hg
      refine wpC_of_wpx (by kernel_rfl) (by kernel_rfl) (g' := ((((⟨g.v, []⟩ : Env).upd (some 0) (.pointer x0)).upd (some 6) (.slice x6b x6n x6c)).upd (some 7) (.slice x7b x7n x7c)).upd (some 8) (.int .i64 x8)) (by rw [env_ds hds, upd_self hg0, upd_self hg6, upd_self hg7, upd_self hg8]) ?_
      have e : (n10_L Kn Ke0 Kr (N + 1) x0 x6b x6n x6c x7b x7n x7c x8 h) = wpx none Try.prog 53 n10_c1 (Q3 (fun z0 z6b z6n z6c z7b z7n z7c z8 h => n10_L Kn Ke0 Kr N z0 z6b z6n z6c z7b z7n z7c z8 h) Ke0 Kr) (((((⟨g.v, []⟩ : Env).upd (some 0) (.pointer x0)).upd (some 6) (.slice x6b x6n x6c)).upd (some 7) (.slice x7b x7n x7c)).upd (some 8) (.int .i64 x8)) h := by kernel_rfl
      exact e ▸ hS
    refine hw.mono ?_
    intro e g' h' hq
    cases e with
    | normal => exact D6_ok (K := (fun z0 z6b z6n z6c z7b z7n z7c z8 h => n10_L Kn Ke0 Kr N z0 z6b z6n z6c z7b z7n z7c z8 h)) hq
    | _ => exact hq
abbrev n9 (x0 : Option Addr) (x6b : Option Addr) (x6n : Nat) (x6c : Nat) (x7b : Option Addr) (x7n : Nat) (x7c : Nat) (x8 : Int) (Kn : T5) (Kr : T0) (h : H) : Prop := n10 x0 x6b x6n x6c x7b x7n x7c x8 Kn Kn Kr h
theorem n9_ok (x0 : Option Addr) (x6b : Option Addr) (x6n : Nat) (x6c : Nat) (x7b : Option Addr) (x7n : Nat) (x7c : Nat) (x8 : Int) (Kn : T5) (Kr : T0) (g : Env) (hg : E6 g x0 x6b x6n x6c x7b x7n x7c x8) (h : H) (hS : n9 x0 x6b x6n x6c x7b x7n x7c x8 Kn Kr h) : wpC none Try.prog 53 n8_c2 (Q1 Kn Kr) g h := by
  refine wpC_block' (id := 0) (x := n9_c1) (by kernel_rfl) (n10_ok x0 x6b x6n x6c x7b x7n x7c x8 Kn Kn Kr g hg h hS) ?_
  intro e g' h' hq
  cases e <;> exact hq
def Q4 (Kn : T6) (Kr : T0) : XPost
  | .normal, g, h => D6 Kn g h
  | .ret, g, h => D0 Kr g h
  | _, _, _ => False
abbrev n8 (x0 : Option Addr) (x6b : Option Addr) (x6n : Nat) (x6c : Nat) (x7b : Option Addr) (x7n : Nat) (x7c : Nat) (Kn : T5) (Kr : T0) (h : H) : Prop :=
  n9 x0 x6b x6n x6c x7b x7n x7c (0 : Int) Kn Kr h
theorem n8_ok (x0 : Option Addr) (x6b : Option Addr) (x6n : Nat) (x6c : Nat) (x7b : Option Addr) (x7n : Nat) (x7c : Nat) (Kn : T5) (Kr : T0) (g : Env) (hg : E4 g x0 x6b x6n x6c x7b x7n x7c) (h : H) (hS : n8 x0 x6b x6n x6c x7b x7n x7c Kn Kr h) : wpC none Try.prog 53 n6_c1 (Q1 Kn Kr) g h := by
  obtain ⟨hg0, hg6, hg7, hds⟩ := hg
  refine wpC_seq' (x := n8_c1) (y := n8_c2) (Q' := (Q4 (fun z0 z6b z6n z6c z7b z7n z7c z8 h => n9 z0 z6b z6n z6c z7b z7n z7c z8 Kn Kr h) Kr)) (by kernel_rfl) ?_ ?_
  · refine wpC_of_wpx (by kernel_rfl) (by kernel_rfl) (g' := (((⟨g.v, []⟩ : Env).upd (some 0) (.pointer x0)).upd (some 6) (.slice x6b x6n x6c)).upd (some 7) (.slice x7b x7n x7c)) (by rw [env_ds hds, upd_self hg0, upd_self hg6, upd_self hg7]) ?_
    have e : (n8 x0 x6b x6n x6c x7b x7n x7c Kn Kr h) = wpx none Try.prog 53 n8_c1 (Q4 (fun z0 z6b z6n z6c z7b z7n z7c z8 h => n9 z0 z6b z6n z6c z7b z7n z7c z8 Kn Kr h) Kr) ((((⟨g.v, []⟩ : Env).upd (some 0) (.pointer x0)).upd (some 6) (.slice x6b x6n x6c)).upd (some 7) (.slice x7b x7n x7c)) h := by kernel_rfl
    exact e ▸ hS
  · intro e g' h' hq
    cases e with
    | normal =>
      have hq : D6 (fun z0 z6b z6n z6c z7b z7n z7c z8 h => n9 z0 z6b z6n z6c z7b z7n z7c z8 Kn Kr h) g' h' := hq
      obtain ⟨y0, y6b, y6n, y6c, y7b, y7n, y7c, y8, hg', hq⟩ := D6_ok hq
      exact n9_ok y0 y6b y6n y6c y7b y7n y7c y8 Kn Kr g' hg' h' hq
    | _ => exact hq
abbrev n6 (x0 : Option Addr) (x6b : Option Addr) (x6n : Nat) (x6c : Nat) (x7b : Option Addr) (x7n : Nat) (x7c : Nat) (Kn : T0) (Kr : T0) (h : H) : Prop := n8 x0 x6b x6n x6c x7b x7n x7c (fun z6b z6n z6c h => n7 z6b z6n z6c Kn Kr h) Kr h
theorem n6_ok (x0 : Option Addr) (x6b : Option Addr) (x6n : Nat) (x6c : Nat) (x7b : Option Addr) (x7n : Nat) (x7c : Nat) (Kn : T0) (Kr : T0) (g : Env) (hg : E4 g x0 x6b x6n x6c x7b x7n x7c) (h : H) (hS : n6 x0 x6b x6n x6c x7b x7n x7c Kn Kr h) : wpC none Try.prog 53 n5_c2 (Q0 Kn Kr) g h := by
  refine wpC_seq' (x := n6_c1) (y := n6_c2) (by kernel_rfl) (n8_ok x0 x6b x6n x6c x7b x7n x7c (fun z6b z6n z6c h => n7 z6b z6n z6c Kn Kr h) Kr g hg h hS) ?_
  intro e g' h' hq
  cases e with
  | normal =>
    have hq : D5 (fun z6b z6n z6c h => n7 z6b z6n z6c Kn Kr h) g' h' := hq
    obtain ⟨y6b, y6n, y6c, hg', hq⟩ := D5_ok hq
    exact n7_ok y6b y6n y6c Kn Kr g' hg' h' hq
  | _ => exact hq
def Q5 (Kn : T4) (Kr : T0) : XPost
  | .normal, g, h => D4 Kn g h
  | .ret, g, h => D0 Kr g h
  | _, _, _ => False
abbrev n5 (x0 : Option Addr) (x1 : Int) (x6b : Option Addr) (x6n : Nat) (x6c : Nat) (Kn : T0) (Kr : T0) (h : H) : Prop :=
  vSome x0 fun a173 => ∃ s174b s174n s174c, cell h (a173.add 0) = some (.slice s174b s174n s174c) ∧ ((0 ≤ x1 ∧ x1 < (s174n : Int)) ∧ (vSome s174b fun a175 => ∃ s176b s176n s176c, cell h ((a175.add (Int.toNat x1 * 8)).add 7) = some (.slice s176b s176n s176c) ∧ (n6 x0 x6b x6n x6c s176b s176n s176c Kn Kr h)))
theorem n5_ok (x0 : Option Addr) (x1 : Int) (x6b : Option Addr) (x6n : Nat) (x6c : Nat) (Kn : T0) (Kr : T0) (g : Env) (hg : E3 g x0 x1 x6b x6n x6c) (h : H) (hS : n5 x0 x1 x6b x6n x6c Kn Kr h) : wpC none Try.prog 53 n4_c2 (Q0 Kn Kr) g h := by
  obtain ⟨hg0, hg1, hg6, hds⟩ := hg
  refine wpC_seq' (x := n5_c1) (y := n5_c2) (Q' := (Q5 (fun z0 z6b z6n z6c z7b z7n z7c h => n6 z0 z6b z6n z6c z7b z7n z7c Kn Kr h) Kr)) (by kernel_rfl) ?_ ?_
  · refine wpC_of_wpx (by kernel_rfl) (by kernel_rfl) (g' := (((⟨g.v, []⟩ : Env).upd (some 0) (.pointer x0)).upd (some 1) (.int .i64 x1)).upd (some 6) (.slice x6b x6n x6c)) (by rw [env_ds hds, upd_self hg0, upd_self hg1, upd_self hg6]) ?_
    have e : (n5 x0 x1 x6b x6n x6c Kn Kr h) = wpx none Try.prog 53 n5_c1 (Q5 (fun z0 z6b z6n z6c z7b z7n z7c h => n6 z0 z6b z6n z6c z7b z7n z7c Kn Kr h) Kr) ((((⟨g.v, []⟩ : Env).upd (some 0) (.pointer x0)).upd (some 1) (.int .i64 x1)).upd (some 6) (.slice x6b x6n x6c)) h := by kernel_rfl
    exact e ▸ hS
  · intro e g' h' hq
    cases e with
    | normal =>
      have hq : D4 (fun z0 z6b z6n z6c z7b z7n z7c h => n6 z0 z6b z6n z6c z7b z7n z7c Kn Kr h) g' h' := hq
      obtain ⟨y0, y6b, y6n, y6c, y7b, y7n, y7c, hg', hq⟩ := D4_ok hq
      exact n6_ok y0 y6b y6n y6c y7b y7n y7c Kn Kr g' hg' h' hq
    | _ => exact hq
def Q6 (Kn : T3) (Kr : T0) : XPost
  | .normal, g, h => D3 Kn g h
  | .ret, g, h => D0 Kr g h
  | _, _, _ => False
abbrev n4 (x0 : Option Addr) (x1 : Int) (Kn : T0) (Kr : T0) (h : H) : Prop :=
  n5 x0 x1 none 0 0 Kn Kr h
theorem n4_ok (x0 : Option Addr) (x1 : Int) (Kn : T0) (Kr : T0) (g : Env) (hg : E1 g x0 x1) (h : H) (hS : n4 x0 x1 Kn Kr h) : wpC none Try.prog 53 n3_c2 (Q0 Kn Kr) g h := by
  obtain ⟨hg0, hg1, hds⟩ := hg
  refine wpC_seq' (x := n4_c1) (y := n4_c2) (Q' := (Q6 (fun z0 z1 z6b z6n z6c h => n5 z0 z1 z6b z6n z6c Kn Kr h) Kr)) (by kernel_rfl) ?_ ?_
  · refine wpC_of_wpx (by kernel_rfl) (by kernel_rfl) (g' := ((⟨g.v, []⟩ : Env).upd (some 0) (.pointer x0)).upd (some 1) (.int .i64 x1)) (by rw [env_ds hds, upd_self hg0, upd_self hg1]) ?_
    have e : (n4 x0 x1 Kn Kr h) = wpx none Try.prog 53 n4_c1 (Q6 (fun z0 z1 z6b z6n z6c h => n5 z0 z1 z6b z6n z6c Kn Kr h) Kr) (((⟨g.v, []⟩ : Env).upd (some 0) (.pointer x0)).upd (some 1) (.int .i64 x1)) h := by kernel_rfl
    exact e ▸ hS
  · intro e g' h' hq
    cases e with
    | normal =>
      have hq : D3 (fun z0 z1 z6b z6n z6c h => n5 z0 z1 z6b z6n z6c Kn Kr h) g' h' := hq
      obtain ⟨y0, y1, y6b, y6n, y6c, hg', hq⟩ := D3_ok hq
      exact n5_ok y0 y1 y6b y6n y6c Kn Kr g' hg' h' hq
    | _ => exact hq
def Q7 (Kn : T1) (Kr : T0) : XPost
  | .normal, g, h => D1 Kn g h
  | .ret, g, h => D0 Kr g h
  | _, _, _ => False
abbrev n3 (x0 : Option Addr) (x1 : Int) (x5 : Bool) (Kn : T0) (Kr : T0) (h : H) : Prop :=
  cond x5 (n4 x0 x1 Kn Kr h) (Kr none 0 0 h)
theorem n3_ok (x0 : Option Addr) (x1 : Int) (x5 : Bool) (Kn : T0) (Kr : T0) (g : Env) (hg : E2 g x0 x1 x5) (h : H) (hS : n3 x0 x1 x5 Kn Kr h) : wpC none Try.prog 53 n2_c2 (Q0 Kn Kr) g h := by
  obtain ⟨hg0, hg1, hg5, hds⟩ := hg
  refine wpC_seq' (x := n3_c1) (y := n3_c2) (Q' := (Q7 (fun z0 z1 h => n4 z0 z1 Kn Kr h) Kr)) (by kernel_rfl) ?_ ?_
  · refine wpC_of_wpx (by kernel_rfl) (by kernel_rfl) (g' := (((⟨g.v, []⟩ : Env).upd (some 0) (.pointer x0)).upd (some 1) (.int .i64 x1)).upd (some 5) (.bool x5)) (by rw [env_ds hds, upd_self hg0, upd_self hg1, upd_self hg5]) ?_
    have e : (n3 x0 x1 x5 Kn Kr h) = wpx none Try.prog 53 n3_c1 (Q7 (fun z0 z1 h => n4 z0 z1 Kn Kr h) Kr) ((((⟨g.v, []⟩ : Env).upd (some 0) (.pointer x0)).upd (some 1) (.int .i64 x1)).upd (some 5) (.bool x5)) h := by kernel_rfl
    exact e ▸ hS
  · intro e g' h' hq
    cases e with
    | normal =>
      have hq : D1 (fun z0 z1 h => n4 z0 z1 Kn Kr h) g' h' := hq
      obtain ⟨y0, y1, hg', hq⟩ := D1_ok hq
      exact n4_ok y0 y1 Kn Kr g' hg' h' hq
    | _ => exact hq
def Q8 (Kn : T2) (Kr : T0) : XPost
  | .normal, g, h => D2 Kn g h
  | .ret, g, h => D0 Kr g h
  | _, _, _ => False
abbrev n2 (x0 : Option Addr) (x1 : Int) (Kn : T0) (Kr : T0) (h : H) : Prop :=
  HCalls Try.prog 44 ⟨[(.pointer x0), (.int .i64 x1)]⟩ h fun v177 h178 => vBool v177 fun b179 => cond b179 (n3 x0 x1 true Kn Kr h178) (n3 x0 x1 false Kn Kr h178)
theorem n2_ok (x0 : Option Addr) (x1 : Int) (Kn : T0) (Kr : T0) (g : Env) (hg : E1 g x0 x1) (h : H) (hS : n2 x0 x1 Kn Kr h) : wpC none Try.prog 53 n1_c2 (Q0 Kn Kr) g h := by
  obtain ⟨hg0, hg1, hds⟩ := hg
  refine wpC_seq' (x := n2_c1) (y := n2_c2) (Q' := (Q8 (fun z0 z1 z5 h => n3 z0 z1 z5 Kn Kr h) Kr)) (by kernel_rfl) ?_ ?_
  · refine wpC_of_wpx (by kernel_rfl) (by kernel_rfl) (g' := ((⟨g.v, []⟩ : Env).upd (some 0) (.pointer x0)).upd (some 1) (.int .i64 x1)) (by rw [env_ds hds, upd_self hg0, upd_self hg1]) ?_
    have e : (n2 x0 x1 Kn Kr h) = wpx none Try.prog 53 n2_c1 (Q8 (fun z0 z1 z5 h => n3 z0 z1 z5 Kn Kr h) Kr) (((⟨g.v, []⟩ : Env).upd (some 0) (.pointer x0)).upd (some 1) (.int .i64 x1)) h := by kernel_rfl
    exact e ▸ hS
  · intro e g' h' hq
    cases e with
    | normal =>
      have hq : D2 (fun z0 z1 z5 h => n3 z0 z1 z5 Kn Kr h) g' h' := hq
      obtain ⟨y0, y1, y5, hg', hq⟩ := D2_ok hq
      exact n3_ok y0 y1 y5 Kn Kr g' hg' h' hq
    | _ => exact hq
abbrev n1 (x0 : Option Addr) (x1 : Int) (Kn : T0) (Kr : T0) (h : H) : Prop :=
  n2 x0 x1 Kn Kr h
theorem n1_ok (x0 : Option Addr) (x1 : Int) (Kn : T0) (Kr : T0) (g : Env) (hg : E1 g x0 x1) (h : H) (hS : n1 x0 x1 Kn Kr h) : wpC none Try.prog 53 code (Q0 Kn Kr) g h := by
  obtain ⟨hg0, hg1, hds⟩ := hg
  refine wpC_seq' (x := n1_c1) (y := n1_c2) (Q' := (Q7 (fun z0 z1 h => n2 z0 z1 Kn Kr h) Kr)) (by kernel_rfl) ?_ ?_
  · refine wpC_of_wpx (by kernel_rfl) (by kernel_rfl) (g' := ((⟨g.v, []⟩ : Env).upd (some 0) (.pointer x0)).upd (some 1) (.int .i64 x1)) (by rw [env_ds hds, upd_self hg0, upd_self hg1]) ?_
    have e : (n1 x0 x1 Kn Kr h) = wpx none Try.prog 53 n1_c1 (Q7 (fun z0 z1 h => n2 z0 z1 Kn Kr h) Kr) (((⟨g.v, []⟩ : Env).upd (some 0) (.pointer x0)).upd (some 1) (.int .i64 x1)) h := by kernel_rfl
    exact e ▸ hS
  · intro e g' h' hq
    cases e with
    | normal =>
      have hq : D1 (fun z0 z1 h => n2 z0 z1 Kn Kr h) g' h' := hq
      obtain ⟨y0, y1, hg', hq⟩ := D1_ok hq
      exact n2_ok y0 y1 Kn Kr g' hg' h' hq
    | _ => exact hq
/-- WHAT (*tympan/tympanref10.Tree).Whole ASKS -/
abbrev asks (x0 : Option Addr) (x1 : Int) (K : Value → H → Prop) (h : H) : Prop := n1 x0 x1 (fun y4b y4n y4c h => K (.slice y4b y4n y4c) h) (fun y4b y4n y4c h => K (.slice y4b y4n y4c) h) h
theorem ok (x0 : Option Addr) (x1 : Int) (K : Value → H → Prop) (h : H) (hS : asks x0 x1 K h) : HCalls Try.prog 53 ⟨[(.pointer x0), (.int .i64 x1)]⟩ h K := by
  refine calls_of_wpC (c := code) Try.func53 (by kernel_rfl) (Nat.le_of_ble_eq_true (by kernel_rfl)) ?_
  refine (n1_ok x0 x1 (fun y4b y4n y4c h => K (.slice y4b y4n y4c) h) (fun y4b y4n y4c h => K (.slice y4b y4n y4c) h) (env0 [(.pointer x0), (.int .i64 x1)]) ⟨rfl, rfl, rfl⟩ h hS).mono ?_
  intro e g' h' hq
  cases e with
  | normal =>
    have hq : D0 (fun y4b y4n y4c h => K (.slice y4b y4n y4c) h) g' h' := hq
    obtain ⟨y4b, y4n, y4c, ⟨hg4, hd⟩, hq⟩ := D0_ok hq
    show leaveX g'.ds h' _
    rw [hd]
    show K (g'.v 4) h'
    rw [hg4]
    exact hq
  | ret =>
    have hq : D0 (fun y4b y4n y4c h => K (.slice y4b y4n y4c) h) g' h' := hq
    obtain ⟨y4b, y4n, y4c, ⟨hg4, hd⟩, hq⟩ := D0_ok hq
    show leaveX g'.ds h' _
    rw [hd]
    show K (g'.v 4) h'
    rw [hg4]
    exact hq
  | _ => exact hq
end Sx.r10_Tree_Whole
end Go.Proofs
