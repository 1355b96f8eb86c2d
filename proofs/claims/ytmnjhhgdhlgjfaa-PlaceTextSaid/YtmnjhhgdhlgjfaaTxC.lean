/- The shallow forms of functions, printed by sh.py out of the translation; each with its proof. No condition. -/
import Derived.Test.YtmnjhhgdhlgjfaaShJ
import Derived.Test.YtmnjhhgdhlgjfaaProg
namespace Go.Proofs
open Go Go.Sh
set_option linter.unusedVariables false
set_option maxRecDepth 100000

/-! ### tympan/place.New -/
namespace Sx.place_New
noncomputable def code : Code := bodyOf Try.f7
abbrev T0 := (Option Addr) → H → Prop
def E0 (g : Env) (x0 : Option Addr) : Prop := g.v 0 = (.pointer x0) ∧ g.ds = []
def D0 (K : T0) (g : Env) (h : H) : Prop := nilDs g.ds (vPtr (g.v 0) fun p1 => K p1 h)
theorem D0_ok {K : T0} {g : Env} {h : H} (hq : D0 K g h) : ∃ (x0 : Option Addr), E0 g x0 ∧ K x0 h := by
  obtain ⟨hd, hq⟩ := nilDs_ok hq
  obtain ⟨y3, e2, q4⟩ := vPtr_ok hq
  exact ⟨y3, ⟨e2, hd⟩, q4⟩
def Q0 (Kn : T0) (Kr : T0) : XPost
  | .normal, g, h => D0 Kn g h
  | .ret, g, h => D0 Kr g h
  | _, _, _ => False
abbrev T1 := H → Prop
def E1 (g : Env)  : Prop := g.ds = []
def D1 (K : T1) (g : Env) (h : H) : Prop := nilDs g.ds (K h)
theorem D1_ok {K : T1} {g : Env} {h : H} (hq : D1 K g h) : E1 g  ∧ K  h := by
  obtain ⟨hd, hq⟩ := nilDs_ok hq
  skip
  exact ⟨hd, hq⟩
abbrev n1  (Kn : T0) (Kr : T0) (h : H) : Prop :=
  HCalls Try.prog 17 ⟨[]⟩ h fun v5 h6 => vPtr v5 fun p7 => newx h6 #[(.int .i64 (0 : Int)), (.int .u8 (0 : Int)), (S ([104, 116, 109, 108] : List UInt8)), (.int .u8 (0 : Int))] 44 fun a8 h9 => newx h9 ⟨[(.pointer p7), (.slice (some a8) 1 1), (.slice none 0 0), (.bool false), (.int .i64 (1 : Int))]⟩ 39 fun a10 h11 => Kr (some a10) h11
theorem n1_ok  (Kn : T0) (Kr : T0) (g : Env) (hg : E1 g ) (h : H) (hS : n1  Kn Kr h) : wpC none Try.prog 6 code (Q0 Kn Kr) g h := by
  have hds : g.ds = [] := hg
  refine wpC_of_wpx (by kernel_rfl) (by kernel_rfl) (g' := ⟨g.v, []⟩) (by rw [env_ds hds]) ?_
  have e : (n1  Kn Kr h) = wpx none Try.prog 6 code (Q0 Kn Kr) (⟨g.v, []⟩) h := by kernel_rfl
  exact e ▸ hS
/-- WHAT tympan/place.New ASKS -/
abbrev asks  (K : Value → H → Prop) (h : H) : Prop := n1  (fun y0 h => K (.pointer y0) h) (fun y0 h => K (.pointer y0) h) h
theorem ok  (K : Value → H → Prop) (h : H) (hS : asks  K h) : HCalls Try.prog 7 ⟨[]⟩ h K := by
  refine calls_of_wpC (c := code) Try.func7 (by kernel_rfl) (Nat.le_of_ble_eq_true (by kernel_rfl)) ?_
  refine (n1_ok  (fun y0 h => K (.pointer y0) h) (fun y0 h => K (.pointer y0) h) (env0 []) rfl h hS).mono ?_
  intro e g' h' hq
  cases e with
  | normal =>
    have hq : D0 (fun y0 h => K (.pointer y0) h) g' h' := hq
    obtain ⟨y0, ⟨hg0, hd⟩, hq⟩ := D0_ok hq
    show leaveX g'.ds h' _
    rw [hd]
    show K (g'.v 0) h'
    rw [hg0]
    exact hq
  | ret =>
    have hq : D0 (fun y0 h => K (.pointer y0) h) g' h' := hq
    obtain ⟨y0, ⟨hg0, hd⟩, hq⟩ := D0_ok hq
    show leaveX g'.ds h' _
    rw [hd]
    show K (g'.v 0) h'
    rw [hg0]
    exact hq
  | _ => exact hq
end Sx.place_New

/-! ### (*tympan/place.World).Insert -/
namespace Sx.place_World_Insert
noncomputable def code : Code := bodyOf Try.f8
abbrev T0 := Int → H → Prop
def E0 (g : Env) (x6 : Int) : Prop := g.v 6 = (.int .i64 x6) ∧ g.ds = []
def D0 (K : T0) (g : Env) (h : H) : Prop := nilDs g.ds (vInt .i64 (g.v 6) fun i1 => K i1 h)
theorem D0_ok {K : T0} {g : Env} {h : H} (hq : D0 K g h) : ∃ (x6 : Int), E0 g x6 ∧ K x6 h := by
  obtain ⟨hd, hq⟩ := nilDs_ok hq
  obtain ⟨y3, e2, q4⟩ := vInt_ok hq
  exact ⟨y3, ⟨e2, hd⟩, q4⟩
def Q0 (Kn : T0) (Kr : T0) : XPost
  | .normal, g, h => D0 Kn g h
  | .ret, g, h => D0 Kr g h
  | _, _, _ => False
abbrev T1 := (Option Addr) → Int → Int → (List UInt8) → (Option Addr) → Nat → Nat → Bool → (List UInt8) → H → Prop
def E1 (g : Env) (x0 : Option Addr) (x1 : Int) (x2_0 : Int) (x2_1 : List UInt8) (x2_2b : Option Addr) (x2_2n : Nat) (x2_2c : Nat) (x2_3 : Bool) (x2_4 : List UInt8) : Prop := g.v 0 = (.pointer x0) ∧ g.v 1 = (.int .u8 x1) ∧ g.v 2 = (.agg ⟨[(.int .u8 x2_0), (S x2_1), (.slice x2_2b x2_2n x2_2c), (.bool x2_3), (S x2_4)]⟩) ∧ g.ds = []
def D1 (K : T1) (g : Env) (h : H) : Prop := nilDs g.ds (vPtr (g.v 0) fun p5 => vInt .u8 (g.v 1) fun i6 => vAgg (g.v 2) fun l7 => uncons l7 fun e8 l9 => vInt .u8 e8 fun i10 => uncons l9 fun e11 l12 => vStr e11 fun s13 => uncons l12 fun e14 l15 => vSlice e14 fun s16b s16n s16c => uncons l15 fun e17 l18 => vBool e17 fun b19 => uncons l18 fun e20 l21 => vStr e20 fun s22 => unnil l21 (K p5 i6 i10 s13 s16b s16n s16c b19 s22 h))
theorem D1_ok {K : T1} {g : Env} {h : H} (hq : D1 K g h) : ∃ (x0 : Option Addr) (x1 : Int) (x2_0 : Int) (x2_1 : List UInt8) (x2_2b : Option Addr) (x2_2n : Nat) (x2_2c : Nat) (x2_3 : Bool) (x2_4 : List UInt8), E1 g x0 x1 x2_0 x2_1 x2_2b x2_2n x2_2c x2_3 x2_4 ∧ K x0 x1 x2_0 x2_1 x2_2b x2_2n x2_2c x2_3 x2_4 h := by
  obtain ⟨hd, hq⟩ := nilDs_ok hq
  obtain ⟨y24, e23, q25⟩ := vPtr_ok hq
  obtain ⟨y27, e26, q28⟩ := vInt_ok q25
  obtain ⟨l30, e29, q31⟩ := vAgg_ok q28
  obtain ⟨u32, l33, rfl, q34⟩ := uncons_ok q31
  obtain ⟨y35, rfl, q36⟩ := vInt_ok q34
  obtain ⟨u37, l38, rfl, q39⟩ := uncons_ok q36
  obtain ⟨y40, rfl, q41⟩ := vStr_ok q39
  obtain ⟨u42, l43, rfl, q44⟩ := uncons_ok q41
  obtain ⟨y45b, y45n, y45c, rfl, q46⟩ := vSlice_ok q44
  obtain ⟨u47, l48, rfl, q49⟩ := uncons_ok q46
  obtain ⟨y50, rfl, q51⟩ := vBool_ok q49
  obtain ⟨u52, l53, rfl, q54⟩ := uncons_ok q51
  obtain ⟨y55, rfl, q56⟩ := vStr_ok q54
  obtain ⟨rfl, q57⟩ := unnil_ok q56
  exact ⟨y24, y27, y35, y40, y45b, y45n, y45c, y50, y55, ⟨e23, e26, e29, hd⟩, q57⟩
noncomputable def n1_c1 : Code := cFst code
noncomputable def n1_c2 : Code := cSnd code
abbrev T2 := (Option Addr) → Int → Addr → H → Prop
def E2 (g : Env) (x0 : Option Addr) (x1 : Int) (x5 : Addr) : Prop := g.v 0 = (.pointer x0) ∧ g.v 1 = (.int .u8 x1) ∧ g.v 5 = (.pointer (some x5)) ∧ g.ds = []
def D2 (K : T2) (g : Env) (h : H) : Prop := nilDs g.ds (vPtr (g.v 0) fun p58 => vInt .u8 (g.v 1) fun i59 => vAddr (g.v 5) fun a60 => K p58 i59 a60 h)
theorem D2_ok {K : T2} {g : Env} {h : H} (hq : D2 K g h) : ∃ (x0 : Option Addr) (x1 : Int) (x5 : Addr), E2 g x0 x1 x5 ∧ K x0 x1 x5 h := by
  obtain ⟨hd, hq⟩ := nilDs_ok hq
  obtain ⟨y62, e61, q63⟩ := vPtr_ok hq
  obtain ⟨y65, e64, q66⟩ := vInt_ok q63
  obtain ⟨y68, e67, q69⟩ := vAddr_ok q66
  exact ⟨y62, y65, y68, ⟨e61, e64, e67, hd⟩, q69⟩
noncomputable def n2_c1 : Code := cFst n1_c2
noncomputable def n2_c2 : Code := cSnd n1_c2
abbrev T3 := (Option Addr) → Int → Addr → Int → Int → H → Prop
def E3 (g : Env) (x0 : Option Addr) (x1 : Int) (x5 : Addr) (x7 : Int) (x8 : Int) : Prop := g.v 0 = (.pointer x0) ∧ g.v 1 = (.int .u8 x1) ∧ g.v 5 = (.pointer (some x5)) ∧ g.v 7 = (.int .i64 x7) ∧ g.v 8 = (.int .i64 x8) ∧ g.ds = []
def D3 (K : T3) (g : Env) (h : H) : Prop := nilDs g.ds (vPtr (g.v 0) fun p70 => vInt .u8 (g.v 1) fun i71 => vAddr (g.v 5) fun a72 => vInt .i64 (g.v 7) fun i73 => vInt .i64 (g.v 8) fun i74 => K p70 i71 a72 i73 i74 h)
theorem D3_ok {K : T3} {g : Env} {h : H} (hq : D3 K g h) : ∃ (x0 : Option Addr) (x1 : Int) (x5 : Addr) (x7 : Int) (x8 : Int), E3 g x0 x1 x5 x7 x8 ∧ K x0 x1 x5 x7 x8 h := by
  obtain ⟨hd, hq⟩ := nilDs_ok hq
  obtain ⟨y76, e75, q77⟩ := vPtr_ok hq
  obtain ⟨y79, e78, q80⟩ := vInt_ok q77
  obtain ⟨y82, e81, q83⟩ := vAddr_ok q80
  obtain ⟨y85, e84, q86⟩ := vInt_ok q83
  obtain ⟨y88, e87, q89⟩ := vInt_ok q86
  exact ⟨y76, y79, y82, y85, y88, ⟨e75, e78, e81, e84, e87, hd⟩, q89⟩
noncomputable def n3_c1 : Code := cFst n2_c2
noncomputable def n3_c2 : Code := cSnd n2_c2
abbrev T4 := (Option Addr) → Int → Addr → Int → Int → Int → H → Prop
def E4 (g : Env) (x0 : Option Addr) (x1 : Int) (x5 : Addr) (x7 : Int) (x8 : Int) (x9 : Int) : Prop := g.v 0 = (.pointer x0) ∧ g.v 1 = (.int .u8 x1) ∧ g.v 5 = (.pointer (some x5)) ∧ g.v 7 = (.int .i64 x7) ∧ g.v 8 = (.int .i64 x8) ∧ g.v 9 = (.int .i64 x9) ∧ g.ds = []
def D4 (K : T4) (g : Env) (h : H) : Prop := nilDs g.ds (vPtr (g.v 0) fun p90 => vInt .u8 (g.v 1) fun i91 => vAddr (g.v 5) fun a92 => vInt .i64 (g.v 7) fun i93 => vInt .i64 (g.v 8) fun i94 => vInt .i64 (g.v 9) fun i95 => K p90 i91 a92 i93 i94 i95 h)
theorem D4_ok {K : T4} {g : Env} {h : H} (hq : D4 K g h) : ∃ (x0 : Option Addr) (x1 : Int) (x5 : Addr) (x7 : Int) (x8 : Int) (x9 : Int), E4 g x0 x1 x5 x7 x8 x9 ∧ K x0 x1 x5 x7 x8 x9 h := by
  obtain ⟨hd, hq⟩ := nilDs_ok hq
  obtain ⟨y97, e96, q98⟩ := vPtr_ok hq
  obtain ⟨y100, e99, q101⟩ := vInt_ok q98
  obtain ⟨y103, e102, q104⟩ := vAddr_ok q101
  obtain ⟨y106, e105, q107⟩ := vInt_ok q104
  obtain ⟨y109, e108, q110⟩ := vInt_ok q107
  obtain ⟨y112, e111, q113⟩ := vInt_ok q110
  exact ⟨y97, y100, y103, y106, y109, y112, ⟨e96, e99, e102, e105, e108, e111, hd⟩, q113⟩
noncomputable def n4_c1 : Code := cFst n3_c2
noncomputable def n4_c2 : Code := cSnd n3_c2
abbrev T5 := (Option Addr) → Int → Addr → Int → H → Prop
def E5 (g : Env) (x0 : Option Addr) (x1 : Int) (x5 : Addr) (x9 : Int) : Prop := g.v 0 = (.pointer x0) ∧ g.v 1 = (.int .u8 x1) ∧ g.v 5 = (.pointer (some x5)) ∧ g.v 9 = (.int .i64 x9) ∧ g.ds = []
def D5 (K : T5) (g : Env) (h : H) : Prop := nilDs g.ds (vPtr (g.v 0) fun p114 => vInt .u8 (g.v 1) fun i115 => vAddr (g.v 5) fun a116 => vInt .i64 (g.v 9) fun i117 => K p114 i115 a116 i117 h)
theorem D5_ok {K : T5} {g : Env} {h : H} (hq : D5 K g h) : ∃ (x0 : Option Addr) (x1 : Int) (x5 : Addr) (x9 : Int), E5 g x0 x1 x5 x9 ∧ K x0 x1 x5 x9 h := by
  obtain ⟨hd, hq⟩ := nilDs_ok hq
  obtain ⟨y119, e118, q120⟩ := vPtr_ok hq
  obtain ⟨y122, e121, q123⟩ := vInt_ok q120
  obtain ⟨y125, e124, q126⟩ := vAddr_ok q123
  obtain ⟨y128, e127, q129⟩ := vInt_ok q126
  exact ⟨y119, y122, y125, y128, ⟨e118, e121, e124, e127, hd⟩, q129⟩
abbrev n5 (x0 : Option Addr) (x1 : Int) (x5 : Addr) (x9 : Int) (Kn : T0) (Kr : T0) (h : H) : Prop :=
  vSome x0 fun a130 => ∃ s131b s131n s131c, cell h (a130.add 1) = some (.slice s131b s131n s131c) ∧ (∃ s132, cell h (x5.add 1) = some (S s132) ∧ (∃ i133, cell h ((x5).add 0) = some (.int .u8 i133) ∧ (∃ s134, cell h ((x5).add 1) = some (S s134) ∧ (∃ s135b s135n s135c, cell h ((x5).add 2) = some (.slice s135b s135n s135c) ∧ (∃ b136, cell h ((x5).add 3) = some (.bool b136) ∧ (∃ s137, cell h ((x5).add 4) = some (S s137) ∧ (HCalls Try.prog 20 ⟨[(.int .u8 x1), (.agg ⟨[(.int .u8 i133), (S s134), (.slice s135b s135n s135c), (.bool b136), (S s137)]⟩)]⟩ h fun v138 h139 => vInt .u8 v138 fun i140 => ExtH h h139 ∧ (newx h139 #[(.int .i64 x9), (.int .u8 x1), (S s132), (.int .u8 i140)] 44 fun a141 h142 => ExtH h139 h142 ∧ (SemH Try.prog (Builtin.append_ #[36, 36] 36 ⟨[(.slice s131b s131n s131c), (.slice (some a141) 1 1)]⟩) h142 fun v143 h144 => vSlice v143 fun s145b s145n s145c => vSome x0 fun a146 => stL (a146.add 1) [(.slice s145b s145n s145c)] 0 h144 fun h147 => vSome x0 fun a148 => ∃ i149, cell h147 (a148.add 4) = some (.int .i64 i149) ∧ (vSome x0 fun a150 => ∃ s151b s151n s151c, cell h147 (a150.add 1) = some (.slice s151b s151n s151c) ∧ (vSome x0 fun a152 => stL (a152.add 4) [(.int .i64 (if (s151n : Int) > i149 then (s151n : Int) else i149))] 0 h147 fun h153 => Kr x9 h153)))))))))))
theorem n5_ok (x0 : Option Addr) (x1 : Int) (x5 : Addr) (x9 : Int) (Kn : T0) (Kr : T0) (g : Env) (hg : E5 g x0 x1 x5 x9) (h : H) (hS : n5 x0 x1 x5 x9 Kn Kr h) : wpC none Try.prog 67 n4_c2 (Q0 Kn Kr) g h := by
  obtain ⟨hg0, hg1, hg5, hg9, hds⟩ := hg
  refine wpC_of_wpx (by kernel_rfl) (by kernel_rfl) (g' := ((((⟨g.v, []⟩ : Env).upd (some 0) (.pointer x0)).upd (some 1) (.int .u8 x1)).upd (some 5) (.pointer (some x5))).upd (some 9) (.int .i64 x9)) (by rw [env_ds hds, upd_self hg0, upd_self hg1, upd_self hg5, upd_self hg9]) ?_
  have e : (n5 x0 x1 x5 x9 Kn Kr h) = wpx none Try.prog 67 n4_c2 (Q0 Kn Kr) (((((⟨g.v, []⟩ : Env).upd (some 0) (.pointer x0)).upd (some 1) (.int .u8 x1)).upd (some 5) (.pointer (some x5))).upd (some 9) (.int .i64 x9)) h := by kernel_rfl
  exact e ▸ hS
def Q1 (Kn : T5) (Kr : T0) : XPost
  | .normal, g, h => D5 Kn g h
  | .ret, g, h => D0 Kr g h
  | _, _, _ => False
abbrev n4 (x0 : Option Addr) (x1 : Int) (x5 : Addr) (x7 : Int) (x8 : Int) (x9 : Int) (Kn : T0) (Kr : T0) (h : H) : Prop :=
  vSome x0 fun a154 => ∃ p155, cell h (a154.add 0) = some (.pointer p155) ∧ (HCalls Try.prog 19 ⟨[(.pointer p155), (.int .i64 x7), (.int .i64 x8), (.int .i64 x9)]⟩ h fun v156 h157 => vBool v156 fun b158 => cond b158 (n5 x0 x1 x5 x9 Kn Kr h157) (n5 x0 x1 x5 x9 Kn Kr h157))
theorem n4_ok (x0 : Option Addr) (x1 : Int) (x5 : Addr) (x7 : Int) (x8 : Int) (x9 : Int) (Kn : T0) (Kr : T0) (g : Env) (hg : E4 g x0 x1 x5 x7 x8 x9) (h : H) (hS : n4 x0 x1 x5 x7 x8 x9 Kn Kr h) : wpC none Try.prog 67 n3_c2 (Q0 Kn Kr) g h := by
  obtain ⟨hg0, hg1, hg5, hg7, hg8, hg9, hds⟩ := hg
  refine wpC_seq' (x := n4_c1) (y := n4_c2) (Q' := (Q1 (fun z0 z1 z5 z9 h => n5 z0 z1 z5 z9 Kn Kr h) Kr)) (by kernel_rfl) ?_ ?_
  · refine wpC_of_wpx (by kernel_rfl) (by kernel_rfl) (g' := ((((((⟨g.v, []⟩ : Env).upd (some 0) (.pointer x0)).upd (some 1) (.int .u8 x1)).upd (some 5) (.pointer (some x5))).upd (some 7) (.int .i64 x7)).upd (some 8) (.int .i64 x8)).upd (some 9) (.int .i64 x9)) (by rw [env_ds hds, upd_self hg0, upd_self hg1, upd_self hg5, upd_self hg7, upd_self hg8, upd_self hg9]) ?_
    have e : (n4 x0 x1 x5 x7 x8 x9 Kn Kr h) = wpx none Try.prog 67 n4_c1 (Q1 (fun z0 z1 z5 z9 h => n5 z0 z1 z5 z9 Kn Kr h) Kr) (((((((⟨g.v, []⟩ : Env).upd (some 0) (.pointer x0)).upd (some 1) (.int .u8 x1)).upd (some 5) (.pointer (some x5))).upd (some 7) (.int .i64 x7)).upd (some 8) (.int .i64 x8)).upd (some 9) (.int .i64 x9)) h := by kernel_rfl
    exact e ▸ hS
  · intro e g' h' hq
    cases e with
    | normal =>
      have hq : D5 (fun z0 z1 z5 z9 h => n5 z0 z1 z5 z9 Kn Kr h) g' h' := hq
      obtain ⟨y0, y1, y5, y9, hg', hq⟩ := D5_ok hq
      exact n5_ok y0 y1 y5 y9 Kn Kr g' hg' h' hq
    | _ => exact hq
def Q2 (Kn : T4) (Kr : T0) : XPost
  | .normal, g, h => D4 Kn g h
  | .ret, g, h => D0 Kr g h
  | _, _, _ => False
abbrev n3 (x0 : Option Addr) (x1 : Int) (x5 : Addr) (x7 : Int) (x8 : Int) (Kn : T0) (Kr : T0) (h : H) : Prop :=
  vSome x0 fun a159 => ∃ p160, cell h (a159.add 0) = some (.pointer p160) ∧ (∃ s161, cell h (x5.add 1) = some (S s161) ∧ (∃ s162b s162n s162c, cell h (x5.add 2) = some (.slice s162b s162n s162c) ∧ (HCalls Try.prog 18 ⟨[(.pointer p160), (.agg ⟨[(.int .u8 (1 : Int)), (.int .u8 x1), (S s161), (.slice s162b s162n s162c), (S ([] : List UInt8)), (.slice none 0 0)]⟩)]⟩ h fun v163 h164 => vInt .i64 v163 fun i165 => n4 x0 x1 x5 x7 x8 i165 Kn Kr h164)))
theorem n3_ok (x0 : Option Addr) (x1 : Int) (x5 : Addr) (x7 : Int) (x8 : Int) (Kn : T0) (Kr : T0) (g : Env) (hg : E3 g x0 x1 x5 x7 x8) (h : H) (hS : n3 x0 x1 x5 x7 x8 Kn Kr h) : wpC none Try.prog 67 n2_c2 (Q0 Kn Kr) g h := by
  obtain ⟨hg0, hg1, hg5, hg7, hg8, hds⟩ := hg
  refine wpC_seq' (x := n3_c1) (y := n3_c2) (Q' := (Q2 (fun z0 z1 z5 z7 z8 z9 h => n4 z0 z1 z5 z7 z8 z9 Kn Kr h) Kr)) (by kernel_rfl) ?_ ?_
  · refine wpC_of_wpx (by kernel_rfl) (by kernel_rfl) (g' := (((((⟨g.v, []⟩ : Env).upd (some 0) (.pointer x0)).upd (some 1) (.int .u8 x1)).upd (some 5) (.pointer (some x5))).upd (some 7) (.int .i64 x7)).upd (some 8) (.int .i64 x8)) (by rw [env_ds hds, upd_self hg0, upd_self hg1, upd_self hg5, upd_self hg7, upd_self hg8]) ?_
    have e : (n3 x0 x1 x5 x7 x8 Kn Kr h) = wpx none Try.prog 67 n3_c1 (Q2 (fun z0 z1 z5 z7 z8 z9 h => n4 z0 z1 z5 z7 z8 z9 Kn Kr h) Kr) ((((((⟨g.v, []⟩ : Env).upd (some 0) (.pointer x0)).upd (some 1) (.int .u8 x1)).upd (some 5) (.pointer (some x5))).upd (some 7) (.int .i64 x7)).upd (some 8) (.int .i64 x8)) h := by kernel_rfl
    exact e ▸ hS
  · intro e g' h' hq
    cases e with
    | normal =>
      have hq : D4 (fun z0 z1 z5 z7 z8 z9 h => n4 z0 z1 z5 z7 z8 z9 Kn Kr h) g' h' := hq
      obtain ⟨y0, y1, y5, y7, y8, y9, hg', hq⟩ := D4_ok hq
      exact n4_ok y0 y1 y5 y7 y8 y9 Kn Kr g' hg' h' hq
    | _ => exact hq
def Q3 (Kn : T3) (Kr : T0) : XPost
  | .normal, g, h => D3 Kn g h
  | .ret, g, h => D0 Kr g h
  | _, _, _ => False
abbrev n2 (x0 : Option Addr) (x1 : Int) (x5 : Addr) (Kn : T0) (Kr : T0) (h : H) : Prop :=
  HCalls Try.prog 13 ⟨[(.pointer x0)]⟩ h fun v166 h167 => vAgg v166 fun l168 => uncons l168 fun e169 l170 => vInt .i64 e169 fun i171 => uncons l170 fun e172 l173 => vInt .u8 e172 fun i174 => uncons l173 fun e175 l176 => vStr e175 fun s177 => uncons l176 fun e178 l179 => vInt .u8 e178 fun i180 => unnil l179 (HCalls Try.prog 14 ⟨[(.pointer x0), (.agg ⟨[(.int .i64 i171), (.int .u8 i174), (S s177), (.int .u8 i180)]⟩)]⟩ h167 fun v181 h182 => vTup v181 fun l183 => uncons l183 fun e184 l185 => vInt .i64 e184 fun i186 => uncons l185 fun e187 l188 => vInt .i64 e187 fun i189 => unnil l188 (n3 x0 x1 x5 i186 i189 Kn Kr h182))
theorem n2_ok (x0 : Option Addr) (x1 : Int) (x5 : Addr) (Kn : T0) (Kr : T0) (g : Env) (hg : E2 g x0 x1 x5) (h : H) (hS : n2 x0 x1 x5 Kn Kr h) : wpC none Try.prog 67 n1_c2 (Q0 Kn Kr) g h := by
  obtain ⟨hg0, hg1, hg5, hds⟩ := hg
  refine wpC_seq' (x := n2_c1) (y := n2_c2) (Q' := (Q3 (fun z0 z1 z5 z7 z8 h => n3 z0 z1 z5 z7 z8 Kn Kr h) Kr)) (by kernel_rfl) ?_ ?_
  · refine wpC_of_wpx (by kernel_rfl) (by kernel_rfl) (g' := (((⟨g.v, []⟩ : Env).upd (some 0) (.pointer x0)).upd (some 1) (.int .u8 x1)).upd (some 5) (.pointer (some x5))) (by rw [env_ds hds, upd_self hg0, upd_self hg1, upd_self hg5]) ?_
    have e : (n2 x0 x1 x5 Kn Kr h) = wpx none Try.prog 67 n2_c1 (Q3 (fun z0 z1 z5 z7 z8 h => n3 z0 z1 z5 z7 z8 Kn Kr h) Kr) ((((⟨g.v, []⟩ : Env).upd (some 0) (.pointer x0)).upd (some 1) (.int .u8 x1)).upd (some 5) (.pointer (some x5))) h := by kernel_rfl
    exact e ▸ hS
  · intro e g' h' hq
    cases e with
    | normal =>
      have hq : D3 (fun z0 z1 z5 z7 z8 h => n3 z0 z1 z5 z7 z8 Kn Kr h) g' h' := hq
      obtain ⟨y0, y1, y5, y7, y8, hg', hq⟩ := D3_ok hq
      exact n3_ok y0 y1 y5 y7 y8 Kn Kr g' hg' h' hq
    | _ => exact hq
def Q4 (Kn : T2) (Kr : T0) : XPost
  | .normal, g, h => D2 Kn g h
  | .ret, g, h => D0 Kr g h
  | _, _, _ => False
abbrev n1 (x0 : Option Addr) (x1 : Int) (x2_0 : Int) (x2_1 : List UInt8) (x2_2b : Option Addr) (x2_2n : Nat) (x2_2c : Nat) (x2_3 : Bool) (x2_4 : List UInt8) (Kn : T0) (Kr : T0) (h : H) : Prop :=
  newx h ⟨[(.int .u8 x2_0), (S x2_1), (.slice x2_2b x2_2n x2_2c), (.bool x2_3), (S x2_4)]⟩ 29 fun a190 h191 => n2 x0 x1 a190 Kn Kr h191
theorem n1_ok (x0 : Option Addr) (x1 : Int) (x2_0 : Int) (x2_1 : List UInt8) (x2_2b : Option Addr) (x2_2n : Nat) (x2_2c : Nat) (x2_3 : Bool) (x2_4 : List UInt8) (Kn : T0) (Kr : T0) (g : Env) (hg : E1 g x0 x1 x2_0 x2_1 x2_2b x2_2n x2_2c x2_3 x2_4) (h : H) (hS : n1 x0 x1 x2_0 x2_1 x2_2b x2_2n x2_2c x2_3 x2_4 Kn Kr h) : wpC none Try.prog 67 code (Q0 Kn Kr) g h := by
  obtain ⟨hg0, hg1, hg2, hds⟩ := hg
  refine wpC_seq' (x := n1_c1) (y := n1_c2) (Q' := (Q4 (fun z0 z1 z5 h => n2 z0 z1 z5 Kn Kr h) Kr)) (by kernel_rfl) ?_ ?_
  · refine wpC_of_wpx (by kernel_rfl) (by kernel_rfl) (g' := (((⟨g.v, []⟩ : Env).upd (some 0) (.pointer x0)).upd (some 1) (.int .u8 x1)).upd (some 2) (.agg ⟨[(.int .u8 x2_0), (S x2_1), (.slice x2_2b x2_2n x2_2c), (.bool x2_3), (S x2_4)]⟩)) (by rw [env_ds hds, upd_self hg0, upd_self hg1, upd_self hg2]) ?_
    have e : (n1 x0 x1 x2_0 x2_1 x2_2b x2_2n x2_2c x2_3 x2_4 Kn Kr h) = wpx none Try.prog 67 n1_c1 (Q4 (fun z0 z1 z5 h => n2 z0 z1 z5 Kn Kr h) Kr) ((((⟨g.v, []⟩ : Env).upd (some 0) (.pointer x0)).upd (some 1) (.int .u8 x1)).upd (some 2) (.agg ⟨[(.int .u8 x2_0), (S x2_1), (.slice x2_2b x2_2n x2_2c), (.bool x2_3), (S x2_4)]⟩)) h := by kernel_rfl
    exact e ▸ hS
  · intro e g' h' hq
    cases e with
    | normal =>
      have hq : D2 (fun z0 z1 z5 h => n2 z0 z1 z5 Kn Kr h) g' h' := hq
      obtain ⟨y0, y1, y5, hg', hq⟩ := D2_ok hq
      exact n2_ok y0 y1 y5 Kn Kr g' hg' h' hq
    | _ => exact hq
/-- WHAT (*tympan/place.World).Insert ASKS -/
abbrev asks (x0 : Option Addr) (x1 : Int) (x2_0 : Int) (x2_1 : List UInt8) (x2_2b : Option Addr) (x2_2n : Nat) (x2_2c : Nat) (x2_3 : Bool) (x2_4 : List UInt8) (K : Value → H → Prop) (h : H) : Prop := n1 x0 x1 x2_0 x2_1 x2_2b x2_2n x2_2c x2_3 x2_4 (fun y6 h => K (.int .i64 y6) h) (fun y6 h => K (.int .i64 y6) h) h
theorem ok (x0 : Option Addr) (x1 : Int) (x2_0 : Int) (x2_1 : List UInt8) (x2_2b : Option Addr) (x2_2n : Nat) (x2_2c : Nat) (x2_3 : Bool) (x2_4 : List UInt8) (K : Value → H → Prop) (h : H) (hS : asks x0 x1 x2_0 x2_1 x2_2b x2_2n x2_2c x2_3 x2_4 K h) : HCalls Try.prog 8 ⟨[(.pointer x0), (.int .u8 x1), (.agg ⟨[(.int .u8 x2_0), (S x2_1), (.slice x2_2b x2_2n x2_2c), (.bool x2_3), (S x2_4)]⟩)]⟩ h K := by
  refine calls_of_wpC (c := code) Try.func8 (by kernel_rfl) (Nat.le_of_ble_eq_true (by kernel_rfl)) ?_
  refine (n1_ok x0 x1 x2_0 x2_1 x2_2b x2_2n x2_2c x2_3 x2_4 (fun y6 h => K (.int .i64 y6) h) (fun y6 h => K (.int .i64 y6) h) (env0 [(.pointer x0), (.int .u8 x1), (.agg ⟨[(.int .u8 x2_0), (S x2_1), (.slice x2_2b x2_2n x2_2c), (.bool x2_3), (S x2_4)]⟩)]) ⟨rfl, rfl, rfl, rfl⟩ h hS).mono ?_
  intro e g' h' hq
  cases e with
  | normal =>
    have hq : D0 (fun y6 h => K (.int .i64 y6) h) g' h' := hq
    obtain ⟨y6, ⟨hg6, hd⟩, hq⟩ := D0_ok hq
    show leaveX g'.ds h' _
    rw [hd]
    show K (g'.v 6) h'
    rw [hg6]
    exact hq
  | ret =>
    have hq : D0 (fun y6 h => K (.int .i64 y6) h) g' h' := hq
    obtain ⟨y6, ⟨hg6, hd⟩, hq⟩ := D0_ok hq
    show leaveX g'.ds h' _
    rw [hd]
    show K (g'.v 6) h'
    rw [hg6]
    exact hq
  | _ => exact hq
end Sx.place_World_Insert

/-! ### (*tympan/place.World).Write -/
namespace Sx.place_World_Write
noncomputable def code : Code := bodyOf Try.f9
abbrev T0 := H → Prop
def E0 (g : Env)  : Prop := g.ds = []
def D0 (K : T0) (g : Env) (h : H) : Prop := nilDs g.ds (K h)
theorem D0_ok {K : T0} {g : Env} {h : H} (hq : D0 K g h) : E0 g  ∧ K  h := by
  obtain ⟨hd, hq⟩ := nilDs_ok hq
  skip
  exact ⟨hd, hq⟩
def Q0 (Kn : T0) (Kr : T0) : XPost
  | .normal, g, h => D0 Kn g h
  | .ret, g, h => D0 Kr g h
  | _, _, _ => False
abbrev T1 := (Option Addr) → (List UInt8) → H → Prop
def E1 (g : Env) (x0 : Option Addr) (x1 : List UInt8) : Prop := g.v 0 = (.pointer x0) ∧ g.v 1 = (S x1) ∧ g.ds = []
def D1 (K : T1) (g : Env) (h : H) : Prop := nilDs g.ds (vPtr (g.v 0) fun p1 => vStr (g.v 1) fun s2 => K p1 s2 h)
theorem D1_ok {K : T1} {g : Env} {h : H} (hq : D1 K g h) : ∃ (x0 : Option Addr) (x1 : List UInt8), E1 g x0 x1 ∧ K x0 x1 h := by
  obtain ⟨hd, hq⟩ := nilDs_ok hq
  obtain ⟨y4, e3, q5⟩ := vPtr_ok hq
  obtain ⟨y7, e6, q8⟩ := vStr_ok q5
  exact ⟨y4, y7, ⟨e3, e6, hd⟩, q8⟩
abbrev n1 (x0 : Option Addr) (x1 : List UInt8) (Kn : T0) (Kr : T0) (h : H) : Prop :=
  HCalls Try.prog 13 ⟨[(.pointer x0)]⟩ h fun v9 h10 => vAgg v9 fun l11 => uncons l11 fun e12 l13 => vInt .i64 e12 fun i14 => uncons l13 fun e15 l16 => vInt .u8 e15 fun i17 => uncons l16 fun e18 l19 => vStr e18 fun s20 => uncons l19 fun e21 l22 => vInt .u8 e21 fun i23 => unnil l22 (HCalls Try.prog 14 ⟨[(.pointer x0), (.agg ⟨[(.int .i64 i14), (.int .u8 i17), (S s20), (.int .u8 i23)]⟩)]⟩ h10 fun v24 h25 => vTup v24 fun l26 => uncons l26 fun e27 l28 => vInt .i64 e27 fun i29 => uncons l28 fun e30 l31 => vInt .i64 e30 fun i32 => unnil l31 (vSome x0 fun a33 => ∃ p34, cell h25 (a33.add 0) = some (.pointer p34) ∧ (HCalls Try.prog 21 ⟨[(.pointer p34), (.int .i64 i29), (.int .i64 i32), (S x1)]⟩ h25 fun v35 h36 => vBool v35 fun b37 => cond b37 (Kn h36) (Kn h36))))
theorem n1_ok (x0 : Option Addr) (x1 : List UInt8) (Kn : T0) (Kr : T0) (g : Env) (hg : E1 g x0 x1) (h : H) (hS : n1 x0 x1 Kn Kr h) : wpC none Try.prog 21 code (Q0 Kn Kr) g h := by
  obtain ⟨hg0, hg1, hds⟩ := hg
  refine wpC_of_wpx (by kernel_rfl) (by kernel_rfl) (g' := ((⟨g.v, []⟩ : Env).upd (some 0) (.pointer x0)).upd (some 1) (S x1)) (by rw [env_ds hds, upd_self hg0, upd_self hg1]) ?_
  have e : (n1 x0 x1 Kn Kr h) = wpx none Try.prog 21 code (Q0 Kn Kr) (((⟨g.v, []⟩ : Env).upd (some 0) (.pointer x0)).upd (some 1) (S x1)) h := by kernel_rfl
  exact e ▸ hS
/-- WHAT (*tympan/place.World).Write ASKS -/
abbrev asks (x0 : Option Addr) (x1 : List UInt8) (K : Value → H → Prop) (h : H) : Prop := n1 x0 x1 (fun h => K (.tuple ⟨[]⟩) h) (fun h => K (.tuple ⟨[]⟩) h) h
theorem ok (x0 : Option Addr) (x1 : List UInt8) (K : Value → H → Prop) (h : H) (hS : asks x0 x1 K h) : HCalls Try.prog 9 ⟨[(.pointer x0), (S x1)]⟩ h K := by
  refine calls_of_wpC (c := code) Try.func9 (by kernel_rfl) (Nat.le_of_ble_eq_true (by kernel_rfl)) ?_
  refine (n1_ok x0 x1 (fun h => K (.tuple ⟨[]⟩) h) (fun h => K (.tuple ⟨[]⟩) h) (env0 [(.pointer x0), (S x1)]) ⟨rfl, rfl, rfl⟩ h hS).mono ?_
  intro e g' h' hq
  cases e with
  | normal =>
    have hq : D0 (fun h => K (.tuple ⟨[]⟩) h) g' h' := hq
    obtain ⟨hd, hq⟩ := D0_ok hq
    show leaveX g'.ds h' _
    rw [hd]
    show K (.tuple ⟨[]⟩) h'
    exact hq
  | ret =>
    have hq : D0 (fun h => K (.tuple ⟨[]⟩) h) g' h' := hq
    obtain ⟨hd, hq⟩ := D0_ok hq
    show leaveX g'.ds h' _
    rw [hd]
    show K (.tuple ⟨[]⟩) h'
    exact hq
  | _ => exact hq
end Sx.place_World_Write

/-! ### (*tympan/place.World).Close -/
namespace Sx.place_World_Close
noncomputable def code : Code := bodyOf Try.f10
abbrev T0 := H → Prop
def E0 (g : Env)  : Prop := g.ds = []
def D0 (K : T0) (g : Env) (h : H) : Prop := nilDs g.ds (K h)
theorem D0_ok {K : T0} {g : Env} {h : H} (hq : D0 K g h) : E0 g  ∧ K  h := by
  obtain ⟨hd, hq⟩ := nilDs_ok hq
  skip
  exact ⟨hd, hq⟩
def Q0 (Kn : T0) (Kr : T0) : XPost
  | .normal, g, h => D0 Kn g h
  | .ret, g, h => D0 Kr g h
  | _, _, _ => False
abbrev T1 := (Option Addr) → Int → H → Prop
def E1 (g : Env) (x0 : Option Addr) (x1 : Int) : Prop := g.v 0 = (.pointer x0) ∧ g.v 1 = (.int .i64 x1) ∧ g.ds = []
def D1 (K : T1) (g : Env) (h : H) : Prop := nilDs g.ds (vPtr (g.v 0) fun p1 => vInt .i64 (g.v 1) fun i2 => K p1 i2 h)
theorem D1_ok {K : T1} {g : Env} {h : H} (hq : D1 K g h) : ∃ (x0 : Option Addr) (x1 : Int), E1 g x0 x1 ∧ K x0 x1 h := by
  obtain ⟨hd, hq⟩ := nilDs_ok hq
  obtain ⟨y4, e3, q5⟩ := vPtr_ok hq
  obtain ⟨y7, e6, q8⟩ := vInt_ok q5
  exact ⟨y4, y7, ⟨e3, e6, hd⟩, q8⟩
noncomputable def n1_c1 : Code := cFst code
noncomputable def n1_c2 : Code := cSnd code
abbrev T2 := (Option Addr) → Int → Bool → H → Prop
def E2 (g : Env) (x0 : Option Addr) (x1 : Int) (x14 : Bool) : Prop := g.v 0 = (.pointer x0) ∧ g.v 1 = (.int .i64 x1) ∧ g.v 14 = (.bool x14) ∧ g.ds = []
def D2 (K : T2) (g : Env) (h : H) : Prop := nilDs g.ds (vPtr (g.v 0) fun p9 => vInt .i64 (g.v 1) fun i10 => vBool (g.v 14) fun b11 => K p9 i10 b11 h)
theorem D2_ok {K : T2} {g : Env} {h : H} (hq : D2 K g h) : ∃ (x0 : Option Addr) (x1 : Int) (x14 : Bool), E2 g x0 x1 x14 ∧ K x0 x1 x14 h := by
  obtain ⟨hd, hq⟩ := nilDs_ok hq
  obtain ⟨y13, e12, q14⟩ := vPtr_ok hq
  obtain ⟨y16, e15, q17⟩ := vInt_ok q14
  obtain ⟨y19, e18, q20⟩ := vBool_ok q17
  exact ⟨y13, y16, y19, ⟨e12, e15, e18, hd⟩, q20⟩
abbrev n2 (x0 : Option Addr) (x1 : Int) (x14 : Bool) (Kn : T0) (Kr : T0) (h : H) : Prop :=
  cond x14 (vSome x0 fun a21 => ∃ s22b s22n s22c, cell h (a21.add 1) = some (.slice s22b s22n s22c) ∧ ((0 ≤ (0 : Int) ∧ (0 : Int) ≤ x1 ∧ x1 ≤ (s22c : Int)) ∧ (vSome x0 fun a23 => stL (a23.add 1) [(.slice (if s22c = Int.toNat (0 : Int) then s22b else Option.map (fun q => q.add (Int.toNat (0 : Int) * 4)) s22b) (Int.toNat x1 - Int.toNat (0 : Int)) (s22c - Int.toNat (0 : Int)))] 0 h fun h24 => Kn h24))) (Kn h)
theorem n2_ok (x0 : Option Addr) (x1 : Int) (x14 : Bool) (Kn : T0) (Kr : T0) (g : Env) (hg : E2 g x0 x1 x14) (h : H) (hS : n2 x0 x1 x14 Kn Kr h) : wpC none Try.prog 24 n1_c2 (Q0 Kn Kr) g h := by
  obtain ⟨hg0, hg1, hg14, hds⟩ := hg
  refine wpC_of_wpx (by kernel_rfl) (by kernel_rfl) (g' := (((⟨g.v, []⟩ : Env).upd (some 0) (.pointer x0)).upd (some 1) (.int .i64 x1)).upd (some 14) (.bool x14)) (by rw [env_ds hds, upd_self hg0, upd_self hg1, upd_self hg14]) ?_
  have e : (n2 x0 x1 x14 Kn Kr h) = wpx none Try.prog 24 n1_c2 (Q0 Kn Kr) ((((⟨g.v, []⟩ : Env).upd (some 0) (.pointer x0)).upd (some 1) (.int .i64 x1)).upd (some 14) (.bool x14)) h := by kernel_rfl
  exact e ▸ hS
def Q1 (Kn : T2) (Kr : T0) : XPost
  | .normal, g, h => D2 Kn g h
  | .ret, g, h => D0 Kr g h
  | _, _, _ => False
abbrev n1 (x0 : Option Addr) (x1 : Int) (Kn : T0) (Kr : T0) (h : H) : Prop :=
  Spl (x1 ≥ (1 : Int)) (vSome x0 fun a25 => ∃ s26b s26n s26c, cell h (a25.add 1) = some (.slice s26b s26n s26c) ∧ (Spl (x1 < (s26n : Int)) (n2 x0 x1 true Kn Kr h) (n2 x0 x1 false Kn Kr h))) (n2 x0 x1 false Kn Kr h)
theorem n1_ok (x0 : Option Addr) (x1 : Int) (Kn : T0) (Kr : T0) (g : Env) (hg : E1 g x0 x1) (h : H) (hS : n1 x0 x1 Kn Kr h) : wpC none Try.prog 24 code (Q0 Kn Kr) g h := by
  obtain ⟨hg0, hg1, hds⟩ := hg
  refine wpC_seq' (x := n1_c1) (y := n1_c2) (Q' := (Q1 (fun z0 z1 z14 h => n2 z0 z1 z14 Kn Kr h) Kr)) (by kernel_rfl) ?_ ?_
  · refine wpC_of_wpx (by kernel_rfl) (by kernel_rfl) (g' := ((⟨g.v, []⟩ : Env).upd (some 0) (.pointer x0)).upd (some 1) (.int .i64 x1)) (by rw [env_ds hds, upd_self hg0, upd_self hg1]) ?_
    have e : (n1 x0 x1 Kn Kr h) = wpx none Try.prog 24 n1_c1 (Q1 (fun z0 z1 z14 h => n2 z0 z1 z14 Kn Kr h) Kr) (((⟨g.v, []⟩ : Env).upd (some 0) (.pointer x0)).upd (some 1) (.int .i64 x1)) h := by kernel_rfl
    exact e ▸ hS
  · intro e g' h' hq
    cases e with
    | normal =>
      have hq : D2 (fun z0 z1 z14 h => n2 z0 z1 z14 Kn Kr h) g' h' := hq
      obtain ⟨y0, y1, y14, hg', hq⟩ := D2_ok hq
      exact n2_ok y0 y1 y14 Kn Kr g' hg' h' hq
    | _ => exact hq
/-- WHAT (*tympan/place.World).Close ASKS -/
abbrev asks (x0 : Option Addr) (x1 : Int) (K : Value → H → Prop) (h : H) : Prop := n1 x0 x1 (fun h => K (.tuple ⟨[]⟩) h) (fun h => K (.tuple ⟨[]⟩) h) h
theorem ok (x0 : Option Addr) (x1 : Int) (K : Value → H → Prop) (h : H) (hS : asks x0 x1 K h) : HCalls Try.prog 10 ⟨[(.pointer x0), (.int .i64 x1)]⟩ h K := by
  refine calls_of_wpC (c := code) Try.func10 (by kernel_rfl) (Nat.le_of_ble_eq_true (by kernel_rfl)) ?_
  refine (n1_ok x0 x1 (fun h => K (.tuple ⟨[]⟩) h) (fun h => K (.tuple ⟨[]⟩) h) (env0 [(.pointer x0), (.int .i64 x1)]) ⟨rfl, rfl, rfl⟩ h hS).mono ?_
  intro e g' h' hq
  cases e with
  | normal =>
    have hq : D0 (fun h => K (.tuple ⟨[]⟩) h) g' h' := hq
    obtain ⟨hd, hq⟩ := D0_ok hq
    show leaveX g'.ds h' _
    rw [hd]
    show K (.tuple ⟨[]⟩) h'
    exact hq
  | ret =>
    have hq : D0 (fun h => K (.tuple ⟨[]⟩) h) g' h' := hq
    obtain ⟨hd, hq⟩ := D0_ok hq
    show leaveX g'.ds h' _
    rw [hd]
    show K (.tuple ⟨[]⟩) h'
    exact hq
  | _ => exact hq
end Sx.place_World_Close

/-! ### (*tympan/place.World).Current -/
namespace Sx.place_World_Current
noncomputable def code : Code := bodyOf Try.f13
abbrev T0 := Addr → H → Prop
def E0 (g : Env) (x2 : Addr) : Prop := g.v 2 = (.pointer (some x2)) ∧ g.ds = []
def D0 (K : T0) (g : Env) (h : H) : Prop := nilDs g.ds (vAddr (g.v 2) fun a1 => K a1 h)
theorem D0_ok {K : T0} {g : Env} {h : H} (hq : D0 K g h) : ∃ (x2 : Addr), E0 g x2 ∧ K x2 h := by
  obtain ⟨hd, hq⟩ := nilDs_ok hq
  obtain ⟨y3, e2, q4⟩ := vAddr_ok hq
  exact ⟨y3, ⟨e2, hd⟩, q4⟩
def Q0 (Kn : T0) (Kr : T0) : XPost
  | .normal, g, h => D0 Kn g h
  | .ret, g, h => D0 Kr g h
  | _, _, _ => False
abbrev T1 := (Option Addr) → H → Prop
def E1 (g : Env) (x0 : Option Addr) : Prop := g.v 0 = (.pointer x0) ∧ g.ds = []
def D1 (K : T1) (g : Env) (h : H) : Prop := nilDs g.ds (vPtr (g.v 0) fun p5 => K p5 h)
theorem D1_ok {K : T1} {g : Env} {h : H} (hq : D1 K g h) : ∃ (x0 : Option Addr), E1 g x0 ∧ K x0 h := by
  obtain ⟨hd, hq⟩ := nilDs_ok hq
  obtain ⟨y7, e6, q8⟩ := vPtr_ok hq
  exact ⟨y7, ⟨e6, hd⟩, q8⟩
abbrev n1 (x0 : Option Addr) (Kn : T0) (Kr : T0) (h : H) : Prop :=
  newx h ⟨[(.int .i64 (0 : Int)), (.int .u8 (0 : Int)), (S ([] : List UInt8)), (.int .u8 (0 : Int))]⟩ 44 fun a9 h10 => vSome x0 fun a11 => ∃ s12b s12n s12c, cell h10 (a11.add 1) = some (.slice s12b s12n s12c) ∧ (vSome x0 fun a13 => ∃ s14b s14n s14c, cell h10 (a13.add 1) = some (.slice s14b s14n s14c) ∧ (Rng .i64 ((s14n : Int) - (1 : Int)) ∧ ((0 ≤ ((s14n : Int) - (1 : Int)) ∧ ((s14n : Int) - (1 : Int)) < (s12n : Int)) ∧ (vSome s12b fun a15 => ∃ i16, cell h10 (((a15.add (Int.toNat ((s14n : Int) - (1 : Int)) * 4))).add 0) = some (.int .i64 i16) ∧ (∃ i17, cell h10 (((a15.add (Int.toNat ((s14n : Int) - (1 : Int)) * 4))).add 1) = some (.int .u8 i17) ∧ (∃ s18, cell h10 (((a15.add (Int.toNat ((s14n : Int) - (1 : Int)) * 4))).add 2) = some (S s18) ∧ (∃ i19, cell h10 (((a15.add (Int.toNat ((s14n : Int) - (1 : Int)) * 4))).add 3) = some (.int .u8 i19) ∧ (stL a9 [(.int .i64 i16), (.int .u8 i17), (S s18), (.int .u8 i19)] 0 h10 fun h20 => Kr a9 h20))))))))
theorem n1_ok (x0 : Option Addr) (Kn : T0) (Kr : T0) (g : Env) (hg : E1 g x0) (h : H) (hS : n1 x0 Kn Kr h) : wpC none Try.prog 15 code (Q0 Kn Kr) g h := by
  obtain ⟨hg0, hds⟩ := hg
  refine wpC_of_wpx (by kernel_rfl) (by kernel_rfl) (g' := (⟨g.v, []⟩ : Env).upd (some 0) (.pointer x0)) (by rw [env_ds hds, upd_self hg0]) ?_
  have e : (n1 x0 Kn Kr h) = wpx none Try.prog 15 code (Q0 Kn Kr) ((⟨g.v, []⟩ : Env).upd (some 0) (.pointer x0)) h := by kernel_rfl
  exact e ▸ hS
/-- WHAT (*tympan/place.World).Current ASKS -/
abbrev asks (x0 : Option Addr) (K : Value → H → Prop) (h : H) : Prop := n1 x0 (fun y2 h => ∃ i21, cell h ((y2).add 0) = some (.int .i64 i21) ∧ (∃ i22, cell h ((y2).add 1) = some (.int .u8 i22) ∧ (∃ s23, cell h ((y2).add 2) = some (S s23) ∧ (∃ i24, cell h ((y2).add 3) = some (.int .u8 i24) ∧ (K (.agg ⟨[(.int .i64 i21), (.int .u8 i22), (S s23), (.int .u8 i24)]⟩) h))))) (fun y2 h => ∃ i21, cell h ((y2).add 0) = some (.int .i64 i21) ∧ (∃ i22, cell h ((y2).add 1) = some (.int .u8 i22) ∧ (∃ s23, cell h ((y2).add 2) = some (S s23) ∧ (∃ i24, cell h ((y2).add 3) = some (.int .u8 i24) ∧ (K (.agg ⟨[(.int .i64 i21), (.int .u8 i22), (S s23), (.int .u8 i24)]⟩) h))))) h
theorem ok (x0 : Option Addr) (K : Value → H → Prop) (h : H) (hS : asks x0 K h) : HCalls Try.prog 13 ⟨[(.pointer x0)]⟩ h K := by
  refine calls_of_wpC (c := code) Try.func13 (by kernel_rfl) (Nat.le_of_ble_eq_true (by kernel_rfl)) ?_
  refine (n1_ok x0 (fun y2 h => ∃ i21, cell h ((y2).add 0) = some (.int .i64 i21) ∧ (∃ i22, cell h ((y2).add 1) = some (.int .u8 i22) ∧ (∃ s23, cell h ((y2).add 2) = some (S s23) ∧ (∃ i24, cell h ((y2).add 3) = some (.int .u8 i24) ∧ (K (.agg ⟨[(.int .i64 i21), (.int .u8 i22), (S s23), (.int .u8 i24)]⟩) h))))) (fun y2 h => ∃ i21, cell h ((y2).add 0) = some (.int .i64 i21) ∧ (∃ i22, cell h ((y2).add 1) = some (.int .u8 i22) ∧ (∃ s23, cell h ((y2).add 2) = some (S s23) ∧ (∃ i24, cell h ((y2).add 3) = some (.int .u8 i24) ∧ (K (.agg ⟨[(.int .i64 i21), (.int .u8 i22), (S s23), (.int .u8 i24)]⟩) h))))) (env0 [(.pointer x0)]) ⟨rfl, rfl⟩ h hS).mono ?_
  intro e g' h' hq
  cases e with
  | normal =>
    have hq : D0 (fun y2 h => ∃ i21, cell h ((y2).add 0) = some (.int .i64 i21) ∧ (∃ i22, cell h ((y2).add 1) = some (.int .u8 i22) ∧ (∃ s23, cell h ((y2).add 2) = some (S s23) ∧ (∃ i24, cell h ((y2).add 3) = some (.int .u8 i24) ∧ (K (.agg ⟨[(.int .i64 i21), (.int .u8 i22), (S s23), (.int .u8 i24)]⟩) h))))) g' h' := hq
    obtain ⟨y2, ⟨hg2, hd⟩, hq⟩ := D0_ok hq
    show leaveX g'.ds h' _
    rw [hd]
    show vAddr (g'.v 2) fun a25 => ldx Try.prog 44 a25 h' fun v26 => K v26 h'
    rw [hg2]
    exact hq
  | ret =>
    have hq : D0 (fun y2 h => ∃ i21, cell h ((y2).add 0) = some (.int .i64 i21) ∧ (∃ i22, cell h ((y2).add 1) = some (.int .u8 i22) ∧ (∃ s23, cell h ((y2).add 2) = some (S s23) ∧ (∃ i24, cell h ((y2).add 3) = some (.int .u8 i24) ∧ (K (.agg ⟨[(.int .i64 i21), (.int .u8 i22), (S s23), (.int .u8 i24)]⟩) h))))) g' h' := hq
    obtain ⟨y2, ⟨hg2, hd⟩, hq⟩ := D0_ok hq
    show leaveX g'.ds h' _
    rw [hd]
    show vAddr (g'.v 2) fun a25 => ldx Try.prog 44 a25 h' fun v26 => K v26 h'
    rw [hg2]
    exact hq
  | _ => exact hq
end Sx.place_World_Current

/-! ### (*tympan/place.World).Where -/
namespace Sx.place_World_Where
noncomputable def code : Code := bodyOf Try.f14
abbrev T0 := Int → Int → H → Prop
def E0 (g : Env) (x4 : Int) (x5 : Int) : Prop := g.v 4 = (.int .i64 x4) ∧ g.v 5 = (.int .i64 x5) ∧ g.ds = []
def D0 (K : T0) (g : Env) (h : H) : Prop := nilDs g.ds (vInt .i64 (g.v 4) fun i1 => vInt .i64 (g.v 5) fun i2 => K i1 i2 h)
theorem D0_ok {K : T0} {g : Env} {h : H} (hq : D0 K g h) : ∃ (x4 : Int) (x5 : Int), E0 g x4 x5 ∧ K x4 x5 h := by
  obtain ⟨hd, hq⟩ := nilDs_ok hq
  obtain ⟨y4, e3, q5⟩ := vInt_ok hq
  obtain ⟨y7, e6, q8⟩ := vInt_ok q5
  exact ⟨y4, y7, ⟨e3, e6, hd⟩, q8⟩
def Q0 (Kn : T0) (Kr : T0) : XPost
  | .normal, g, h => D0 Kn g h
  | .ret, g, h => D0 Kr g h
  | _, _, _ => False
abbrev T1 := (Option Addr) → Int → Int → (List UInt8) → Int → H → Prop
def E1 (g : Env) (x0 : Option Addr) (x1_0 : Int) (x1_1 : Int) (x1_2 : List UInt8) (x1_3 : Int) : Prop := g.v 0 = (.pointer x0) ∧ g.v 1 = (.agg ⟨[(.int .i64 x1_0), (.int .u8 x1_1), (S x1_2), (.int .u8 x1_3)]⟩) ∧ g.ds = []
def D1 (K : T1) (g : Env) (h : H) : Prop := nilDs g.ds (vPtr (g.v 0) fun p9 => vAgg (g.v 1) fun l10 => uncons l10 fun e11 l12 => vInt .i64 e11 fun i13 => uncons l12 fun e14 l15 => vInt .u8 e14 fun i16 => uncons l15 fun e17 l18 => vStr e17 fun s19 => uncons l18 fun e20 l21 => vInt .u8 e20 fun i22 => unnil l21 (K p9 i13 i16 s19 i22 h))
theorem D1_ok {K : T1} {g : Env} {h : H} (hq : D1 K g h) : ∃ (x0 : Option Addr) (x1_0 : Int) (x1_1 : Int) (x1_2 : List UInt8) (x1_3 : Int), E1 g x0 x1_0 x1_1 x1_2 x1_3 ∧ K x0 x1_0 x1_1 x1_2 x1_3 h := by
  obtain ⟨hd, hq⟩ := nilDs_ok hq
  obtain ⟨y24, e23, q25⟩ := vPtr_ok hq
  obtain ⟨l27, e26, q28⟩ := vAgg_ok q25
  obtain ⟨u29, l30, rfl, q31⟩ := uncons_ok q28
  obtain ⟨y32, rfl, q33⟩ := vInt_ok q31
  obtain ⟨u34, l35, rfl, q36⟩ := uncons_ok q33
  obtain ⟨y37, rfl, q38⟩ := vInt_ok q36
  obtain ⟨u39, l40, rfl, q41⟩ := uncons_ok q38
  obtain ⟨y42, rfl, q43⟩ := vStr_ok q41
  obtain ⟨u44, l45, rfl, q46⟩ := uncons_ok q43
  obtain ⟨y47, rfl, q48⟩ := vInt_ok q46
  obtain ⟨rfl, q49⟩ := unnil_ok q48
  exact ⟨y24, y32, y37, y42, y47, ⟨e23, e26, hd⟩, q49⟩
noncomputable def n1_c1 : Code := cFst code
noncomputable def n1_c2 : Code := cSnd code
abbrev T2 := (Option Addr) → Addr → H → Prop
def E2 (g : Env) (x0 : Option Addr) (x3 : Addr) : Prop := g.v 0 = (.pointer x0) ∧ g.v 3 = (.pointer (some x3)) ∧ g.ds = []
def D2 (K : T2) (g : Env) (h : H) : Prop := nilDs g.ds (vPtr (g.v 0) fun p50 => vAddr (g.v 3) fun a51 => K p50 a51 h)
theorem D2_ok {K : T2} {g : Env} {h : H} (hq : D2 K g h) : ∃ (x0 : Option Addr) (x3 : Addr), E2 g x0 x3 ∧ K x0 x3 h := by
  obtain ⟨hd, hq⟩ := nilDs_ok hq
  obtain ⟨y53, e52, q54⟩ := vPtr_ok hq
  obtain ⟨y56, e55, q57⟩ := vAddr_ok q54
  exact ⟨y53, y56, ⟨e52, e55, hd⟩, q57⟩
noncomputable def n2_c1 : Code := cFst n1_c2
noncomputable def n2_c2 : Code := cSnd n1_c2
abbrev T3 := (Option Addr) → H → Prop
def E3 (g : Env) (x0 : Option Addr) : Prop := g.v 0 = (.pointer x0) ∧ g.ds = []
def D3 (K : T3) (g : Env) (h : H) : Prop := nilDs g.ds (vPtr (g.v 0) fun p58 => K p58 h)
theorem D3_ok {K : T3} {g : Env} {h : H} (hq : D3 K g h) : ∃ (x0 : Option Addr), E3 g x0 ∧ K x0 h := by
  obtain ⟨hd, hq⟩ := nilDs_ok hq
  obtain ⟨y60, e59, q61⟩ := vPtr_ok hq
  exact ⟨y60, ⟨e59, hd⟩, q61⟩
abbrev n3 (x0 : Option Addr) (Kn : T0) (Kr : T0) (h : H) : Prop :=
  vSome x0 fun a62 => ∃ s63b s63n s63c, cell h (a62.add 1) = some (.slice s63b s63n s63c) ∧ (newx h #[(S ([116, 97, 98, 108, 101] : List UInt8))] 9 fun a64 h65 => HCalls Try.prog 25 ⟨[(.slice s63b s63n s63c), (.slice (some a64) 1 1)]⟩ h65 fun v66 h67 => vInt .i64 v66 fun i68 => Spl (i68 < (0 : Int)) (Kr (0 : Int) (-1 : Int) h67) (vSome x0 fun a69 => ∃ s70b s70n s70c, cell h67 (a69.add 1) = some (.slice s70b s70n s70c) ∧ ((0 ≤ i68 ∧ i68 < (s70n : Int)) ∧ (vSome s70b fun a71 => ∃ i72, cell h67 ((a71.add (Int.toNat i68 * 4)).add 0) = some (.int .i64 i72) ∧ (vSome x0 fun a73 => ∃ p74, cell h67 (a73.add 0) = some (.pointer p74) ∧ (HCalls Try.prog 15 ⟨[(.pointer p74), (.int .i64 i72)]⟩ h67 fun v75 h76 => vInt .i64 v75 fun i77 => Spl (i77 ≥ (0 : Int)) (Kr i77 i72 h76) (vSome x0 fun a78 => ∃ s79b s79n s79c, cell h76 (a78.add 1) = some (.slice s79b s79n s79c) ∧ (Rng .i64 ((if (1 : Int) > i68 then (1 : Int) else i68) - (1 : Int)) ∧ ((0 ≤ ((if (1 : Int) > i68 then (1 : Int) else i68) - (1 : Int)) ∧ ((if (1 : Int) > i68 then (1 : Int) else i68) - (1 : Int)) < (s79n : Int)) ∧ (vSome s79b fun a80 => ∃ i81, cell h76 ((a80.add (Int.toNat ((if (1 : Int) > i68 then (1 : Int) else i68) - (1 : Int)) * 4)).add 0) = some (.int .i64 i81) ∧ (Kr i81 (-1 : Int) h76)))))))))))
theorem n3_ok (x0 : Option Addr) (Kn : T0) (Kr : T0) (g : Env) (hg : E3 g x0) (h : H) (hS : n3 x0 Kn Kr h) : wpC none Try.prog 57 n2_c2 (Q0 Kn Kr) g h := by
  obtain ⟨hg0, hds⟩ := hg
  refine wpC_of_wpx (by kernel_rfl) (by kernel_rfl) (g' := (⟨g.v, []⟩ : Env).upd (some 0) (.pointer x0)) (by rw [env_ds hds, upd_self hg0]) ?_
  have e : (n3 x0 Kn Kr h) = wpx none Try.prog 57 n2_c2 (Q0 Kn Kr) ((⟨g.v, []⟩ : Env).upd (some 0) (.pointer x0)) h := by kernel_rfl
  exact e ▸ hS
def Q1 (Kn : T3) (Kr : T0) : XPost
  | .normal, g, h => D3 Kn g h
  | .ret, g, h => D0 Kr g h
  | _, _, _ => False
abbrev n2 (x0 : Option Addr) (x3 : Addr) (Kn : T0) (Kr : T0) (h : H) : Prop :=
  vSome x0 fun a82 => ∃ b83, cell h (a82.add 3) = some (.bool b83) ∧ (cond b83 (∃ i84, cell h ((x3).add 0) = some (.int .i64 i84) ∧ (∃ i85, cell h ((x3).add 1) = some (.int .u8 i85) ∧ (∃ s86, cell h ((x3).add 2) = some (S s86) ∧ (∃ i87, cell h ((x3).add 3) = some (.int .u8 i87) ∧ (HCalls Try.prog 24 ⟨[(.agg ⟨[(.int .i64 i84), (.int .u8 i85), (S s86), (.int .u8 i87)]⟩)]⟩ h fun v88 h89 => vBool v88 fun b90 => cond b90 (n3 x0 Kn Kr h89) (∃ i91, cell h89 (x3.add 0) = some (.int .i64 i91) ∧ (Kr i91 (-1 : Int) h89))))))) (∃ i92, cell h (x3.add 0) = some (.int .i64 i92) ∧ (Kr i92 (-1 : Int) h)))
theorem n2_ok (x0 : Option Addr) (x3 : Addr) (Kn : T0) (Kr : T0) (g : Env) (hg : E2 g x0 x3) (h : H) (hS : n2 x0 x3 Kn Kr h) : wpC none Try.prog 57 n1_c2 (Q0 Kn Kr) g h := by
  obtain ⟨hg0, hg3, hds⟩ := hg
  refine wpC_seq' (x := n2_c1) (y := n2_c2) (Q' := (Q1 (fun z0 h => n3 z0 Kn Kr h) Kr)) (by kernel_rfl) ?_ ?_
  · refine wpC_of_wpx (by kernel_rfl) (by kernel_rfl) (g' := ((⟨g.v, []⟩ : Env).upd (some 0) (.pointer x0)).upd (some 3) (.pointer (some x3))) (by rw [env_ds hds, upd_self hg0, upd_self hg3]) ?_
    have e : (n2 x0 x3 Kn Kr h) = wpx none Try.prog 57 n2_c1 (Q1 (fun z0 h => n3 z0 Kn Kr h) Kr) (((⟨g.v, []⟩ : Env).upd (some 0) (.pointer x0)).upd (some 3) (.pointer (some x3))) h := by kernel_rfl
    exact e ▸ hS
  · intro e g' h' hq
    cases e with
    | normal =>
      have hq : D3 (fun z0 h => n3 z0 Kn Kr h) g' h' := hq
      obtain ⟨y0, hg', hq⟩ := D3_ok hq
      exact n3_ok y0 Kn Kr g' hg' h' hq
    | _ => exact hq
def Q2 (Kn : T2) (Kr : T0) : XPost
  | .normal, g, h => D2 Kn g h
  | .ret, g, h => D0 Kr g h
  | _, _, _ => False
abbrev n1 (x0 : Option Addr) (x1_0 : Int) (x1_1 : Int) (x1_2 : List UInt8) (x1_3 : Int) (Kn : T0) (Kr : T0) (h : H) : Prop :=
  newx h ⟨[(.int .i64 x1_0), (.int .u8 x1_1), (S x1_2), (.int .u8 x1_3)]⟩ 44 fun a93 h94 => n2 x0 a93 Kn Kr h94
theorem n1_ok (x0 : Option Addr) (x1_0 : Int) (x1_1 : Int) (x1_2 : List UInt8) (x1_3 : Int) (Kn : T0) (Kr : T0) (g : Env) (hg : E1 g x0 x1_0 x1_1 x1_2 x1_3) (h : H) (hS : n1 x0 x1_0 x1_1 x1_2 x1_3 Kn Kr h) : wpC none Try.prog 57 code (Q0 Kn Kr) g h := by
  obtain ⟨hg0, hg1, hds⟩ := hg
  refine wpC_seq' (x := n1_c1) (y := n1_c2) (Q' := (Q2 (fun z0 z3 h => n2 z0 z3 Kn Kr h) Kr)) (by kernel_rfl) ?_ ?_
  · refine wpC_of_wpx (by kernel_rfl) (by kernel_rfl) (g' := ((⟨g.v, []⟩ : Env).upd (some 0) (.pointer x0)).upd (some 1) (.agg ⟨[(.int .i64 x1_0), (.int .u8 x1_1), (S x1_2), (.int .u8 x1_3)]⟩)) (by rw [env_ds hds, upd_self hg0, upd_self hg1]) ?_
    have e : (n1 x0 x1_0 x1_1 x1_2 x1_3 Kn Kr h) = wpx none Try.prog 57 n1_c1 (Q2 (fun z0 z3 h => n2 z0 z3 Kn Kr h) Kr) (((⟨g.v, []⟩ : Env).upd (some 0) (.pointer x0)).upd (some 1) (.agg ⟨[(.int .i64 x1_0), (.int .u8 x1_1), (S x1_2), (.int .u8 x1_3)]⟩)) h := by kernel_rfl
    exact e ▸ hS
  · intro e g' h' hq
    cases e with
    | normal =>
      have hq : D2 (fun z0 z3 h => n2 z0 z3 Kn Kr h) g' h' := hq
      obtain ⟨y0, y3, hg', hq⟩ := D2_ok hq
      exact n2_ok y0 y3 Kn Kr g' hg' h' hq
    | _ => exact hq
/-- WHAT (*tympan/place.World).Where ASKS -/
abbrev asks (x0 : Option Addr) (x1_0 : Int) (x1_1 : Int) (x1_2 : List UInt8) (x1_3 : Int) (K : Value → H → Prop) (h : H) : Prop := n1 x0 x1_0 x1_1 x1_2 x1_3 (fun y4 y5 h => K (.tuple ⟨[(.int .i64 y4), (.int .i64 y5)]⟩) h) (fun y4 y5 h => K (.tuple ⟨[(.int .i64 y4), (.int .i64 y5)]⟩) h) h
theorem ok (x0 : Option Addr) (x1_0 : Int) (x1_1 : Int) (x1_2 : List UInt8) (x1_3 : Int) (K : Value → H → Prop) (h : H) (hS : asks x0 x1_0 x1_1 x1_2 x1_3 K h) : HCalls Try.prog 14 ⟨[(.pointer x0), (.agg ⟨[(.int .i64 x1_0), (.int .u8 x1_1), (S x1_2), (.int .u8 x1_3)]⟩)]⟩ h K := by
  refine calls_of_wpC (c := code) Try.func14 (by kernel_rfl) (Nat.le_of_ble_eq_true (by kernel_rfl)) ?_
  refine (n1_ok x0 x1_0 x1_1 x1_2 x1_3 (fun y4 y5 h => K (.tuple ⟨[(.int .i64 y4), (.int .i64 y5)]⟩) h) (fun y4 y5 h => K (.tuple ⟨[(.int .i64 y4), (.int .i64 y5)]⟩) h) (env0 [(.pointer x0), (.agg ⟨[(.int .i64 x1_0), (.int .u8 x1_1), (S x1_2), (.int .u8 x1_3)]⟩)]) ⟨rfl, rfl, rfl⟩ h hS).mono ?_
  intro e g' h' hq
  cases e with
  | normal =>
    have hq : D0 (fun y4 y5 h => K (.tuple ⟨[(.int .i64 y4), (.int .i64 y5)]⟩) h) g' h' := hq
    obtain ⟨y4, y5, ⟨hg4, hg5, hd⟩, hq⟩ := D0_ok hq
    show leaveX g'.ds h' _
    rw [hd]
    show K (.tuple ⟨[(g'.v 4), (g'.v 5)]⟩) h'
    rw [hg4, hg5]
    exact hq
  | ret =>
    have hq : D0 (fun y4 y5 h => K (.tuple ⟨[(.int .i64 y4), (.int .i64 y5)]⟩) h) g' h' := hq
    obtain ⟨y4, y5, ⟨hg4, hg5, hd⟩, hq⟩ := D0_ok hq
    show leaveX g'.ds h' _
    rw [hd]
    show K (.tuple ⟨[(g'.v 4), (g'.v 5)]⟩) h'
    rw [hg4, hg5]
    exact hq
  | _ => exact hq
end Sx.place_World_Where

/-! ### tympan/place.point -/
namespace Sx.place_point
noncomputable def code : Code := bodyOf Try.f20
abbrev T0 := Int → H → Prop
def E0 (g : Env) (x4 : Int) : Prop := g.v 4 = (.int .u8 x4) ∧ g.ds = []
def D0 (K : T0) (g : Env) (h : H) : Prop := nilDs g.ds (vInt .u8 (g.v 4) fun i1 => K i1 h)
theorem D0_ok {K : T0} {g : Env} {h : H} (hq : D0 K g h) : ∃ (x4 : Int), E0 g x4 ∧ K x4 h := by
  obtain ⟨hd, hq⟩ := nilDs_ok hq
  obtain ⟨y3, e2, q4⟩ := vInt_ok hq
  exact ⟨y3, ⟨e2, hd⟩, q4⟩
def Q0 (Kn : T0) (Kr : T0) : XPost
  | .normal, g, h => D0 Kn g h
  | .ret, g, h => D0 Kr g h
  | _, _, _ => False
abbrev T1 := Int → Int → (List UInt8) → (Option Addr) → Nat → Nat → Bool → (List UInt8) → H → Prop
def E1 (g : Env) (x0 : Int) (x1_0 : Int) (x1_1 : List UInt8) (x1_2b : Option Addr) (x1_2n : Nat) (x1_2c : Nat) (x1_3 : Bool) (x1_4 : List UInt8) : Prop := g.v 0 = (.int .u8 x0) ∧ g.v 1 = (.agg ⟨[(.int .u8 x1_0), (S x1_1), (.slice x1_2b x1_2n x1_2c), (.bool x1_3), (S x1_4)]⟩) ∧ g.ds = []
def D1 (K : T1) (g : Env) (h : H) : Prop := nilDs g.ds (vInt .u8 (g.v 0) fun i5 => vAgg (g.v 1) fun l6 => uncons l6 fun e7 l8 => vInt .u8 e7 fun i9 => uncons l8 fun e10 l11 => vStr e10 fun s12 => uncons l11 fun e13 l14 => vSlice e13 fun s15b s15n s15c => uncons l14 fun e16 l17 => vBool e16 fun b18 => uncons l17 fun e19 l20 => vStr e19 fun s21 => unnil l20 (K i5 i9 s12 s15b s15n s15c b18 s21 h))
theorem D1_ok {K : T1} {g : Env} {h : H} (hq : D1 K g h) : ∃ (x0 : Int) (x1_0 : Int) (x1_1 : List UInt8) (x1_2b : Option Addr) (x1_2n : Nat) (x1_2c : Nat) (x1_3 : Bool) (x1_4 : List UInt8), E1 g x0 x1_0 x1_1 x1_2b x1_2n x1_2c x1_3 x1_4 ∧ K x0 x1_0 x1_1 x1_2b x1_2n x1_2c x1_3 x1_4 h := by
  obtain ⟨hd, hq⟩ := nilDs_ok hq
  obtain ⟨y23, e22, q24⟩ := vInt_ok hq
  obtain ⟨l26, e25, q27⟩ := vAgg_ok q24
  obtain ⟨u28, l29, rfl, q30⟩ := uncons_ok q27
  obtain ⟨y31, rfl, q32⟩ := vInt_ok q30
  obtain ⟨u33, l34, rfl, q35⟩ := uncons_ok q32
  obtain ⟨y36, rfl, q37⟩ := vStr_ok q35
  obtain ⟨u38, l39, rfl, q40⟩ := uncons_ok q37
  obtain ⟨y41b, y41n, y41c, rfl, q42⟩ := vSlice_ok q40
  obtain ⟨u43, l44, rfl, q45⟩ := uncons_ok q42
  obtain ⟨y46, rfl, q47⟩ := vBool_ok q45
  obtain ⟨u48, l49, rfl, q50⟩ := uncons_ok q47
  obtain ⟨y51, rfl, q52⟩ := vStr_ok q50
  obtain ⟨rfl, q53⟩ := unnil_ok q52
  exact ⟨y23, y31, y36, y41b, y41n, y41c, y46, y51, ⟨e22, e25, hd⟩, q53⟩
noncomputable def n1_c1 : Code := cFst code
noncomputable def n1_c2 : Code := cSnd code
abbrev T2 := Int → Addr → H → Prop
def E2 (g : Env) (x0 : Int) (x3 : Addr) : Prop := g.v 0 = (.int .u8 x0) ∧ g.v 3 = (.pointer (some x3)) ∧ g.ds = []
def D2 (K : T2) (g : Env) (h : H) : Prop := nilDs g.ds (vInt .u8 (g.v 0) fun i54 => vAddr (g.v 3) fun a55 => K i54 a55 h)
theorem D2_ok {K : T2} {g : Env} {h : H} (hq : D2 K g h) : ∃ (x0 : Int) (x3 : Addr), E2 g x0 x3 ∧ K x0 x3 h := by
  obtain ⟨hd, hq⟩ := nilDs_ok hq
  obtain ⟨y57, e56, q58⟩ := vInt_ok hq
  obtain ⟨y60, e59, q61⟩ := vAddr_ok q58
  exact ⟨y57, y60, ⟨e56, e59, hd⟩, q61⟩
noncomputable def n2_c1 : Code := cFst n1_c2
noncomputable def n2_c2 : Code := cSnd n1_c2
abbrev T3 := Addr → H → Prop
def E3 (g : Env) (x3 : Addr) : Prop := g.v 3 = (.pointer (some x3)) ∧ g.ds = []
def D3 (K : T3) (g : Env) (h : H) : Prop := nilDs g.ds (vAddr (g.v 3) fun a62 => K a62 h)
theorem D3_ok {K : T3} {g : Env} {h : H} (hq : D3 K g h) : ∃ (x3 : Addr), E3 g x3 ∧ K x3 h := by
  obtain ⟨hd, hq⟩ := nilDs_ok hq
  obtain ⟨y64, e63, q65⟩ := vAddr_ok hq
  exact ⟨y64, ⟨e63, hd⟩, q65⟩
noncomputable def n3_c1 : Code := cFst n2_c2
noncomputable def n3_c2 : Code := cSnd n2_c2
abbrev T4 := H → Prop
def E4 (g : Env)  : Prop := g.ds = []
def D4 (K : T4) (g : Env) (h : H) : Prop := nilDs g.ds (K h)
theorem D4_ok {K : T4} {g : Env} {h : H} (hq : D4 K g h) : E4 g  ∧ K  h := by
  obtain ⟨hd, hq⟩ := nilDs_ok hq
  skip
  exact ⟨hd, hq⟩
abbrev n4  (Kn : T0) (Kr : T0) (h : H) : Prop :=
  Kr (0 : Int) h
theorem n4_ok  (Kn : T0) (Kr : T0) (g : Env) (hg : E4 g ) (h : H) (hS : n4  Kn Kr h) : wpC none Try.prog 53 n3_c2 (Q0 Kn Kr) g h := by
  have hds : g.ds = [] := hg
  refine wpC_of_wpx (by kernel_rfl) (by kernel_rfl) (g' := ⟨g.v, []⟩) (by rw [env_ds hds]) ?_
  have e : (n4  Kn Kr h) = wpx none Try.prog 53 n3_c2 (Q0 Kn Kr) (⟨g.v, []⟩) h := by kernel_rfl
  exact e ▸ hS
def Q1 (Kn : T4) (Kr : T0) : XPost
  | .normal, g, h => D4 Kn g h
  | .ret, g, h => D0 Kr g h
  | _, _, _ => False
noncomputable def n5_c1 : Code := cFst n3_c1
noncomputable def n5_c2 : Code := cSnd n3_c1
abbrev T5 := (Option Addr) → Nat → Nat → Int → Int → H → Prop
def E5 (g : Env) (x32b : Option Addr) (x32n : Nat) (x32c : Nat) (x33 : Int) (x34 : Int) : Prop := g.v 32 = (.slice x32b x32n x32c) ∧ g.v 33 = (.int .i64 x33) ∧ g.v 34 = (.int .i64 x34) ∧ g.ds = []
def D5 (K : T5) (g : Env) (h : H) : Prop := nilDs g.ds (vSlice (g.v 32) fun s66b s66n s66c => vInt .i64 (g.v 33) fun i67 => vInt .i64 (g.v 34) fun i68 => K s66b s66n s66c i67 i68 h)
theorem D5_ok {K : T5} {g : Env} {h : H} (hq : D5 K g h) : ∃ (x32b : Option Addr) (x32n : Nat) (x32c : Nat) (x33 : Int) (x34 : Int), E5 g x32b x32n x32c x33 x34 ∧ K x32b x32n x32c x33 x34 h := by
  obtain ⟨hd, hq⟩ := nilDs_ok hq
  obtain ⟨y70b, y70n, y70c, e69, q71⟩ := vSlice_ok hq
  obtain ⟨y73, e72, q74⟩ := vInt_ok q71
  obtain ⟨y76, e75, q77⟩ := vInt_ok q74
  exact ⟨y70b, y70n, y70c, y73, y76, ⟨e69, e72, e75, hd⟩, q77⟩
noncomputable def n6_c1 : Code := cFst n5_c2
def Q2 (Kn : T4) (Ke1 : T4) (Kr : T0) : XPost
  | .normal, g, h => D4 Kn g h
  | .ret, g, h => D0 Kr g h
  | .exit id, g, h => cond (Nat.beq id 1) (D4 Ke1 g h) (False)
  | _, _, _ => False
noncomputable def n7_c1 : Code := cFst n6_c1
def Q3 (Kn : T5) (Ke1 : T4) (Kr : T0) : XPost
  | .normal, g, h => D5 Kn g h
  | .ret, g, h => D0 Kr g h
  | .exit id, g, h => cond (Nat.beq id 1) (D4 Ke1 g h) (False)
  | _, _, _ => False
def n7_L (Kn : T4) (Ke1 : T4) (Kr : T0) : Nat → (Option Addr) → Nat → Nat → Int → Int → H → Prop
  | 0 => fun _ _ _ _ _ _ => False
  | N + 1 => fun x32b x32n x32c x33 x34 h => Spl (x34 < x33) ((0 ≤ x34 ∧ x34 < (x32n : Int)) ∧ (vSome x32b fun a78 => ∃ s79, cell h (((a78.add (Int.toNat x34 * 2))).add 0) = some (S s79) ∧ (∃ s80, cell h (((a78.add (Int.toNat x34 * 2))).add 1) = some (S s80) ∧ (newx h ⟨[(S ([] : List UInt8)), (S ([] : List UInt8))]⟩ 68 fun a81 h82 => stL a81 [(S s79), (S s80)] 0 h82 fun h83 => ∃ s84, cell h83 (a81.add 1) = some (S s84) ∧ (HCalls Try.prog 32 ⟨[(S s84)]⟩ h83 fun v85 h86 => vStr v85 fun s87 => ∃ s88, cell h86 (a81.add 0) = some (S s88) ∧ (Spl (s88 = ([101, 110, 99, 111, 100, 105, 110, 103] : List UInt8)) (Spl (s87 = ([116, 101, 120, 116, 47, 104, 116, 109, 108] : List UInt8)) (Kr (2 : Int) h86) (Spl (s87 = ([97, 112, 112, 108, 105, 99, 97, 116, 105, 111, 110, 47, 120, 104, 116, 109, 108, 43, 120, 109, 108] : List UInt8)) (Kr (2 : Int) h86) (Rng .i64 (x34 + (1 : Int)) ∧ (n7_L Kn Ke1 Kr N x32b x32n x32c x33 (x34 + (1 : Int)) h86)))) (Rng .i64 (x34 + (1 : Int)) ∧ (n7_L Kn Ke1 Kr N x32b x32n x32c x33 (x34 + (1 : Int)) h86)))))))) (Ke1 h)
abbrev n7 (x32b : Option Addr) (x32n : Nat) (x32c : Nat) (x33 : Int) (x34 : Int) (Kn : T4) (Ke1 : T4) (Kr : T0) (h : H) : Prop := ∃ N, n7_L Kn Ke1 Kr N x32b x32n x32c x33 x34 h
theorem n7_ok (x32b : Option Addr) (x32n : Nat) (x32c : Nat) (x33 : Int) (x34 : Int) (Kn : T4) (Ke1 : T4) (Kr : T0) (g : Env) (hg : E5 g x32b x32n x32c x33 x34) (h : H) (hS : n7 x32b x32n x32c x33 x34 Kn Ke1 Kr h) : wpC none Try.prog 53 n6_c1 (Q2 Kn Ke1 Kr) g h := by
  obtain ⟨N0, hS⟩ := hS
  refine wpC_loop' (x := n7_c1) (by kernel_rfl) (fun k g h => ∃ (x32b : Option Addr) (x32n : Nat) (x32c : Nat) (x33 : Int) (x34 : Int), E5 g x32b x32n x32c x33 x34 ∧ n7_L Kn Ke1 Kr k x32b x32n x32c x33 x34 h) (fun g h hr => ?_) (fun N g h hr => ?_) N0 ⟨x32b, x32n, x32c, x33, x34, hg, hS⟩
  · obtain ⟨x32b, x32n, x32c, x33, x34, hg, hS⟩ := hr
    exact hS.elim
  · obtain ⟨x32b, x32n, x32c, x33, x34, hg, hS⟩ := hr
    have hw : wpC none Try.prog 53 n7_c1 (Q3 (fun z32b z32n z32c z33 z34 h => n7_L Kn Ke1 Kr N z32b z32n z32c z33 z34 h) Ke1 Kr) g h := by
      obtain ⟨hg32, hg33, hg34, hds⟩ := hg
      refine wpC_of_wpx (by kernel_rfl) (by kernel_rfl) (g' := (((⟨g.v, []⟩ : Env).upd (some 32) (.slice x32b x32n x32c)).upd (some 33) (.int .i64 x33)).upd (some 34) (.int .i64 x34)) (by rw [env_ds hds, upd_self hg32, upd_self hg33, upd_self hg34]) ?_
      have e : (n7_L Kn Ke1 Kr (N + 1) x32b x32n x32c x33 x34 h) = wpx none Try.prog 53 n7_c1 (Q3 (fun z32b z32n z32c z33 z34 h => n7_L Kn Ke1 Kr N z32b z32n z32c z33 z34 h) Ke1 Kr) ((((⟨g.v, []⟩ : Env).upd (some 32) (.slice x32b x32n x32c)).upd (some 33) (.int .i64 x33)).upd (some 34) (.int .i64 x34)) h := by kernel_rfl
      exact e ▸ hS
    refine hw.mono ?_
    intro e g' h' hq
    cases e with
    | normal => exact D5_ok (K := (fun z32b z32n z32c z33 z34 h => n7_L Kn Ke1 Kr N z32b z32n z32c z33 z34 h)) hq
    | _ => exact hq
abbrev n6 (x32b : Option Addr) (x32n : Nat) (x32c : Nat) (x33 : Int) (x34 : Int) (Kn : T4) (Kr : T0) (h : H) : Prop := n7 x32b x32n x32c x33 x34 Kn Kn Kr h
theorem n6_ok (x32b : Option Addr) (x32n : Nat) (x32c : Nat) (x33 : Int) (x34 : Int) (Kn : T4) (Kr : T0) (g : Env) (hg : E5 g x32b x32n x32c x33 x34) (h : H) (hS : n6 x32b x32n x32c x33 x34 Kn Kr h) : wpC none Try.prog 53 n5_c2 (Q1 Kn Kr) g h := by
  refine wpC_block' (id := 1) (x := n6_c1) (by kernel_rfl) (n7_ok x32b x32n x32c x33 x34 Kn Kn Kr g hg h hS) ?_
  intro e g' h' hq
  cases e <;> exact hq
def Q4 (Kn : T5) (Kr : T0) : XPost
  | .normal, g, h => D5 Kn g h
  | .ret, g, h => D0 Kr g h
  | _, _, _ => False
abbrev n5 (x3 : Addr) (Kn : T4) (Kr : T0) (h : H) : Prop :=
  ∃ s89b s89n s89c, cell h (x3.add 2) = some (.slice s89b s89n s89c) ∧ (n6 s89b s89n s89c (s89n : Int) (0 : Int) Kn Kr h)
theorem n5_ok (x3 : Addr) (Kn : T4) (Kr : T0) (g : Env) (hg : E3 g x3) (h : H) (hS : n5 x3 Kn Kr h) : wpC none Try.prog 53 n3_c1 (Q1 Kn Kr) g h := by
  obtain ⟨hg3, hds⟩ := hg
  refine wpC_seq' (x := n5_c1) (y := n5_c2) (Q' := (Q4 (fun z32b z32n z32c z33 z34 h => n6 z32b z32n z32c z33 z34 Kn Kr h) Kr)) (by kernel_rfl) ?_ ?_
  · refine wpC_of_wpx (by kernel_rfl) (by kernel_rfl) (g' := (⟨g.v, []⟩ : Env).upd (some 3) (.pointer (some x3))) (by rw [env_ds hds, upd_self hg3]) ?_
    have e : (n5 x3 Kn Kr h) = wpx none Try.prog 53 n5_c1 (Q4 (fun z32b z32n z32c z33 z34 h => n6 z32b z32n z32c z33 z34 Kn Kr h) Kr) ((⟨g.v, []⟩ : Env).upd (some 3) (.pointer (some x3))) h := by kernel_rfl
    exact e ▸ hS
  · intro e g' h' hq
    cases e with
    | normal =>
      have hq : D5 (fun z32b z32n z32c z33 z34 h => n6 z32b z32n z32c z33 z34 Kn Kr h) g' h' := hq
      obtain ⟨y32b, y32n, y32c, y33, y34, hg', hq⟩ := D5_ok hq
      exact n6_ok y32b y32n y32c y33 y34 Kn Kr g' hg' h' hq
    | _ => exact hq
abbrev n3 (x3 : Addr) (Kn : T0) (Kr : T0) (h : H) : Prop := n5 x3 (fun  h => n4 Kn Kr h) Kr h
theorem n3_ok (x3 : Addr) (Kn : T0) (Kr : T0) (g : Env) (hg : E3 g x3) (h : H) (hS : n3 x3 Kn Kr h) : wpC none Try.prog 53 n2_c2 (Q0 Kn Kr) g h := by
  refine wpC_seq' (x := n3_c1) (y := n3_c2) (by kernel_rfl) (n5_ok x3 (fun  h => n4 Kn Kr h) Kr g hg h hS) ?_
  intro e g' h' hq
  cases e with
  | normal =>
    have hq : D4 (fun  h => n4 Kn Kr h) g' h' := hq
    obtain ⟨hg', hq⟩ := D4_ok hq
    exact n4_ok  Kn Kr g' hg' h' hq
  | _ => exact hq
def Q5 (Kn : T3) (Kr : T0) : XPost
  | .normal, g, h => D3 Kn g h
  | .ret, g, h => D0 Kr g h
  | _, _, _ => False
noncomputable def n8_c1 : Code := cFst n2_c1
def Q6 (Kn : T3) (Ke0 : T3) (Kr : T0) : XPost
  | .normal, g, h => D3 Kn g h
  | .ret, g, h => D0 Kr g h
  | .exit id, g, h => cond (Nat.beq id 0) (D3 Ke0 g h) (False)
  | _, _, _ => False
noncomputable def n9_c1 : Code := cFst n8_c1
noncomputable def n9_c2 : Code := cSnd n8_c1
abbrev T6 := Int → Addr → Bool → H → Prop
def E6 (g : Env) (x0 : Int) (x3 : Addr) (x8 : Bool) : Prop := g.v 0 = (.int .u8 x0) ∧ g.v 3 = (.pointer (some x3)) ∧ g.v 8 = (.bool x8) ∧ g.ds = []
def D6 (K : T6) (g : Env) (h : H) : Prop := nilDs g.ds (vInt .u8 (g.v 0) fun i90 => vAddr (g.v 3) fun a91 => vBool (g.v 8) fun b92 => K i90 a91 b92 h)
theorem D6_ok {K : T6} {g : Env} {h : H} (hq : D6 K g h) : ∃ (x0 : Int) (x3 : Addr) (x8 : Bool), E6 g x0 x3 x8 ∧ K x0 x3 x8 h := by
  obtain ⟨hd, hq⟩ := nilDs_ok hq
  obtain ⟨y94, e93, q95⟩ := vInt_ok hq
  obtain ⟨y97, e96, q98⟩ := vAddr_ok q95
  obtain ⟨y100, e99, q101⟩ := vBool_ok q98
  exact ⟨y94, y97, y100, ⟨e93, e96, e99, hd⟩, q101⟩
noncomputable def n10_c1 : Code := cFst n9_c2
noncomputable def n10_c2 : Code := cSnd n9_c2
abbrev n11  (Kn : T3) (Ke0 : T3) (Kr : T0) (h : H) : Prop :=
  Kr (2 : Int) h
theorem n11_ok  (Kn : T3) (Ke0 : T3) (Kr : T0) (g : Env) (hg : E4 g ) (h : H) (hS : n11  Kn Ke0 Kr h) : wpC none Try.prog 53 n10_c1 (Q6 Kn Ke0 Kr) g h := by
  have hds : g.ds = [] := hg
  refine wpC_of_wpx (by kernel_rfl) (by kernel_rfl) (g' := ⟨g.v, []⟩) (by rw [env_ds hds]) ?_
  have e : (n11  Kn Ke0 Kr h) = wpx none Try.prog 53 n10_c1 (Q6 Kn Ke0 Kr) (⟨g.v, []⟩) h := by kernel_rfl
  exact e ▸ hS
noncomputable def n12_c1 : Code := cFst n10_c2
noncomputable def n12_c2 : Code := cSnd n10_c2
abbrev T7 := Addr → Bool → H → Prop
def E7 (g : Env) (x3 : Addr) (x17 : Bool) : Prop := g.v 3 = (.pointer (some x3)) ∧ g.v 17 = (.bool x17) ∧ g.ds = []
def D7 (K : T7) (g : Env) (h : H) : Prop := nilDs g.ds (vAddr (g.v 3) fun a102 => vBool (g.v 17) fun b103 => K a102 b103 h)
theorem D7_ok {K : T7} {g : Env} {h : H} (hq : D7 K g h) : ∃ (x3 : Addr) (x17 : Bool), E7 g x3 x17 ∧ K x3 x17 h := by
  obtain ⟨hd, hq⟩ := nilDs_ok hq
  obtain ⟨y105, e104, q106⟩ := vAddr_ok hq
  obtain ⟨y108, e107, q109⟩ := vBool_ok q106
  exact ⟨y105, y108, ⟨e104, e107, hd⟩, q109⟩
abbrev n13 (x3 : Addr) (x17 : Bool) (Kn : T3) (Ke0 : T3) (Kr : T0) (h : H) : Prop :=
  cond x17 (Kr (0 : Int) h) (∃ s110, cell h (x3.add 1) = some (S s110) ∧ (Spl (s110 = ([97, 110, 110, 111, 116, 97, 116, 105, 111, 110, 45, 120, 109, 108] : List UInt8)) (Kn x3 h) (Kr (1 : Int) h)))
theorem n13_ok (x3 : Addr) (x17 : Bool) (Kn : T3) (Ke0 : T3) (Kr : T0) (g : Env) (hg : E7 g x3 x17) (h : H) (hS : n13 x3 x17 Kn Ke0 Kr h) : wpC none Try.prog 53 n12_c2 (Q6 Kn Ke0 Kr) g h := by
  obtain ⟨hg3, hg17, hds⟩ := hg
  refine wpC_of_wpx (by kernel_rfl) (by kernel_rfl) (g' := ((⟨g.v, []⟩ : Env).upd (some 3) (.pointer (some x3))).upd (some 17) (.bool x17)) (by rw [env_ds hds, upd_self hg3, upd_self hg17]) ?_
  have e : (n13 x3 x17 Kn Ke0 Kr h) = wpx none Try.prog 53 n12_c2 (Q6 Kn Ke0 Kr) (((⟨g.v, []⟩ : Env).upd (some 3) (.pointer (some x3))).upd (some 17) (.bool x17)) h := by kernel_rfl
  exact e ▸ hS
def Q7 (Kn : T7) (Ke0 : T3) (Kr : T0) : XPost
  | .normal, g, h => D7 Kn g h
  | .ret, g, h => D0 Kr g h
  | .exit id, g, h => cond (Nat.beq id 0) (D3 Ke0 g h) (False)
  | _, _, _ => False
abbrev n12 (x0 : Int) (x3 : Addr) (Kn : T3) (Ke0 : T3) (Kr : T0) (h : H) : Prop :=
  Spl (x0 = (2 : Int)) (∃ s111, cell h (x3.add 1) = some (S s111) ∧ (HCalls Try.prog 31 ⟨[(.int .u8 x0), (S s111)]⟩ h fun v112 h113 => vBool v112 fun b114 => cond b114 (n13 x3 false Kn Ke0 Kr h113) (n13 x3 true Kn Ke0 Kr h113))) (n13 x3 true Kn Ke0 Kr h)
theorem n12_ok (x0 : Int) (x3 : Addr) (Kn : T3) (Ke0 : T3) (Kr : T0) (g : Env) (hg : E2 g x0 x3) (h : H) (hS : n12 x0 x3 Kn Ke0 Kr h) : wpC none Try.prog 53 n10_c2 (Q6 Kn Ke0 Kr) g h := by
  obtain ⟨hg0, hg3, hds⟩ := hg
  refine wpC_seq' (x := n12_c1) (y := n12_c2) (Q' := (Q7 (fun z3 z17 h => n13 z3 z17 Kn Ke0 Kr h) Ke0 Kr)) (by kernel_rfl) ?_ ?_
  · refine wpC_of_wpx (by kernel_rfl) (by kernel_rfl) (g' := ((⟨g.v, []⟩ : Env).upd (some 0) (.int .u8 x0)).upd (some 3) (.pointer (some x3))) (by rw [env_ds hds, upd_self hg0, upd_self hg3]) ?_
    have e : (n12 x0 x3 Kn Ke0 Kr h) = wpx none Try.prog 53 n12_c1 (Q7 (fun z3 z17 h => n13 z3 z17 Kn Ke0 Kr h) Ke0 Kr) (((⟨g.v, []⟩ : Env).upd (some 0) (.int .u8 x0)).upd (some 3) (.pointer (some x3))) h := by kernel_rfl
    exact e ▸ hS
  · intro e g' h' hq
    cases e with
    | normal =>
      have hq : D7 (fun z3 z17 h => n13 z3 z17 Kn Ke0 Kr h) g' h' := hq
      obtain ⟨y3, y17, hg', hq⟩ := D7_ok hq
      exact n13_ok y3 y17 Kn Ke0 Kr g' hg' h' hq
    | _ => exact hq
abbrev n10 (x0 : Int) (x3 : Addr) (x8 : Bool) (Kn : T3) (Ke0 : T3) (Kr : T0) (h : H) : Prop := cond x8 (n11  Kn Ke0 Kr h) (n12 x0 x3 Kn Ke0 Kr h)
theorem n10_ok (x0 : Int) (x3 : Addr) (x8 : Bool) (Kn : T3) (Ke0 : T3) (Kr : T0) (g : Env) (hg : E6 g x0 x3 x8) (h : H) (hS : n10 x0 x3 x8 Kn Ke0 Kr h) : wpC none Try.prog 53 n9_c2 (Q6 Kn Ke0 Kr) g h := by
  obtain ⟨hg0, hg3, hg8, hds⟩ := hg
  have hx : evalE 53 g (.tmp 8) = .bool x8 := by
    show cond (Nat.blt 8 53) (g.v 8) undef = _
    rw [hg8]; rfl
  unfold n10 at hS
  refine wpC_cond' (o := .tmp 8) (x := n10_c1) (y := n10_c2) (by kernel_rfl) hx (fun hb => ?_) (fun hb => ?_)
  · subst hb
    exact n11_ok  Kn Ke0 Kr g hds h hS
  · subst hb
    exact n12_ok x0 x3 Kn Ke0 Kr g ⟨hg0, hg3, hds⟩ h hS
def Q8 (Kn : T6) (Ke0 : T3) (Kr : T0) : XPost
  | .normal, g, h => D6 Kn g h
  | .ret, g, h => D0 Kr g h
  | .exit id, g, h => cond (Nat.beq id 0) (D3 Ke0 g h) (False)
  | _, _, _ => False
abbrev n9 (x0 : Int) (x3 : Addr) (Kn : T3) (Ke0 : T3) (Kr : T0) (h : H) : Prop :=
  Spl (x0 = (1 : Int)) (∃ s115, cell h (x3.add 1) = some (S s115) ∧ (HCalls Try.prog 31 ⟨[(.int .u8 x0), (S s115)]⟩ h fun v116 h117 => vBool v116 fun b118 => cond b118 (n10 x0 x3 true Kn Ke0 Kr h117) (n10 x0 x3 false Kn Ke0 Kr h117))) (n10 x0 x3 false Kn Ke0 Kr h)
theorem n9_ok (x0 : Int) (x3 : Addr) (Kn : T3) (Ke0 : T3) (Kr : T0) (g : Env) (hg : E2 g x0 x3) (h : H) (hS : n9 x0 x3 Kn Ke0 Kr h) : wpC none Try.prog 53 n8_c1 (Q6 Kn Ke0 Kr) g h := by
  obtain ⟨hg0, hg3, hds⟩ := hg
  refine wpC_seq' (x := n9_c1) (y := n9_c2) (Q' := (Q8 (fun z0 z3 z8 h => n10 z0 z3 z8 Kn Ke0 Kr h) Ke0 Kr)) (by kernel_rfl) ?_ ?_
  · refine wpC_of_wpx (by kernel_rfl) (by kernel_rfl) (g' := ((⟨g.v, []⟩ : Env).upd (some 0) (.int .u8 x0)).upd (some 3) (.pointer (some x3))) (by rw [env_ds hds, upd_self hg0, upd_self hg3]) ?_
    have e : (n9 x0 x3 Kn Ke0 Kr h) = wpx none Try.prog 53 n9_c1 (Q8 (fun z0 z3 z8 h => n10 z0 z3 z8 Kn Ke0 Kr h) Ke0 Kr) (((⟨g.v, []⟩ : Env).upd (some 0) (.int .u8 x0)).upd (some 3) (.pointer (some x3))) h := by kernel_rfl
    exact e ▸ hS
  · intro e g' h' hq
    cases e with
    | normal =>
      have hq : D6 (fun z0 z3 z8 h => n10 z0 z3 z8 Kn Ke0 Kr h) g' h' := hq
      obtain ⟨y0, y3, y8, hg', hq⟩ := D6_ok hq
      exact n10_ok y0 y3 y8 Kn Ke0 Kr g' hg' h' hq
    | _ => exact hq
abbrev n8 (x0 : Int) (x3 : Addr) (Kn : T3) (Kr : T0) (h : H) : Prop := n9 x0 x3 Kn Kn Kr h
theorem n8_ok (x0 : Int) (x3 : Addr) (Kn : T3) (Kr : T0) (g : Env) (hg : E2 g x0 x3) (h : H) (hS : n8 x0 x3 Kn Kr h) : wpC none Try.prog 53 n2_c1 (Q5 Kn Kr) g h := by
  refine wpC_block' (id := 0) (x := n8_c1) (by kernel_rfl) (n9_ok x0 x3 Kn Kn Kr g hg h hS) ?_
  intro e g' h' hq
  cases e <;> exact hq
abbrev n2 (x0 : Int) (x3 : Addr) (Kn : T0) (Kr : T0) (h : H) : Prop := n8 x0 x3 (fun z3 h => n3 z3 Kn Kr h) Kr h
theorem n2_ok (x0 : Int) (x3 : Addr) (Kn : T0) (Kr : T0) (g : Env) (hg : E2 g x0 x3) (h : H) (hS : n2 x0 x3 Kn Kr h) : wpC none Try.prog 53 n1_c2 (Q0 Kn Kr) g h := by
  refine wpC_seq' (x := n2_c1) (y := n2_c2) (by kernel_rfl) (n8_ok x0 x3 (fun z3 h => n3 z3 Kn Kr h) Kr g hg h hS) ?_
  intro e g' h' hq
  cases e with
  | normal =>
    have hq : D3 (fun z3 h => n3 z3 Kn Kr h) g' h' := hq
    obtain ⟨y3, hg', hq⟩ := D3_ok hq
    exact n3_ok y3 Kn Kr g' hg' h' hq
  | _ => exact hq
def Q9 (Kn : T2) (Kr : T0) : XPost
  | .normal, g, h => D2 Kn g h
  | .ret, g, h => D0 Kr g h
  | _, _, _ => False
abbrev n1 (x0 : Int) (x1_0 : Int) (x1_1 : List UInt8) (x1_2b : Option Addr) (x1_2n : Nat) (x1_2c : Nat) (x1_3 : Bool) (x1_4 : List UInt8) (Kn : T0) (Kr : T0) (h : H) : Prop :=
  newx h ⟨[(.int .u8 x1_0), (S x1_1), (.slice x1_2b x1_2n x1_2c), (.bool x1_3), (S x1_4)]⟩ 29 fun a119 h120 => n2 x0 a119 Kn Kr h120
theorem n1_ok (x0 : Int) (x1_0 : Int) (x1_1 : List UInt8) (x1_2b : Option Addr) (x1_2n : Nat) (x1_2c : Nat) (x1_3 : Bool) (x1_4 : List UInt8) (Kn : T0) (Kr : T0) (g : Env) (hg : E1 g x0 x1_0 x1_1 x1_2b x1_2n x1_2c x1_3 x1_4) (h : H) (hS : n1 x0 x1_0 x1_1 x1_2b x1_2n x1_2c x1_3 x1_4 Kn Kr h) : wpC none Try.prog 53 code (Q0 Kn Kr) g h := by
  obtain ⟨hg0, hg1, hds⟩ := hg
  refine wpC_seq' (x := n1_c1) (y := n1_c2) (Q' := (Q9 (fun z0 z3 h => n2 z0 z3 Kn Kr h) Kr)) (by kernel_rfl) ?_ ?_
  · refine wpC_of_wpx (by kernel_rfl) (by kernel_rfl) (g' := ((⟨g.v, []⟩ : Env).upd (some 0) (.int .u8 x0)).upd (some 1) (.agg ⟨[(.int .u8 x1_0), (S x1_1), (.slice x1_2b x1_2n x1_2c), (.bool x1_3), (S x1_4)]⟩)) (by rw [env_ds hds, upd_self hg0, upd_self hg1]) ?_
    have e : (n1 x0 x1_0 x1_1 x1_2b x1_2n x1_2c x1_3 x1_4 Kn Kr h) = wpx none Try.prog 53 n1_c1 (Q9 (fun z0 z3 h => n2 z0 z3 Kn Kr h) Kr) (((⟨g.v, []⟩ : Env).upd (some 0) (.int .u8 x0)).upd (some 1) (.agg ⟨[(.int .u8 x1_0), (S x1_1), (.slice x1_2b x1_2n x1_2c), (.bool x1_3), (S x1_4)]⟩)) h := by kernel_rfl
    exact e ▸ hS
  · intro e g' h' hq
    cases e with
    | normal =>
      have hq : D2 (fun z0 z3 h => n2 z0 z3 Kn Kr h) g' h' := hq
      obtain ⟨y0, y3, hg', hq⟩ := D2_ok hq
      exact n2_ok y0 y3 Kn Kr g' hg' h' hq
    | _ => exact hq
/-- WHAT tympan/place.point ASKS -/
abbrev asks (x0 : Int) (x1_0 : Int) (x1_1 : List UInt8) (x1_2b : Option Addr) (x1_2n : Nat) (x1_2c : Nat) (x1_3 : Bool) (x1_4 : List UInt8) (K : Value → H → Prop) (h : H) : Prop := n1 x0 x1_0 x1_1 x1_2b x1_2n x1_2c x1_3 x1_4 (fun y4 h => K (.int .u8 y4) h) (fun y4 h => K (.int .u8 y4) h) h
theorem ok (x0 : Int) (x1_0 : Int) (x1_1 : List UInt8) (x1_2b : Option Addr) (x1_2n : Nat) (x1_2c : Nat) (x1_3 : Bool) (x1_4 : List UInt8) (K : Value → H → Prop) (h : H) (hS : asks x0 x1_0 x1_1 x1_2b x1_2n x1_2c x1_3 x1_4 K h) : HCalls Try.prog 20 ⟨[(.int .u8 x0), (.agg ⟨[(.int .u8 x1_0), (S x1_1), (.slice x1_2b x1_2n x1_2c), (.bool x1_3), (S x1_4)]⟩)]⟩ h K := by
  refine calls_of_wpC (c := code) Try.func20 (by kernel_rfl) (Nat.le_of_ble_eq_true (by kernel_rfl)) ?_
  refine (n1_ok x0 x1_0 x1_1 x1_2b x1_2n x1_2c x1_3 x1_4 (fun y4 h => K (.int .u8 y4) h) (fun y4 h => K (.int .u8 y4) h) (env0 [(.int .u8 x0), (.agg ⟨[(.int .u8 x1_0), (S x1_1), (.slice x1_2b x1_2n x1_2c), (.bool x1_3), (S x1_4)]⟩)]) ⟨rfl, rfl, rfl⟩ h hS).mono ?_
  intro e g' h' hq
  cases e with
  | normal =>
    have hq : D0 (fun y4 h => K (.int .u8 y4) h) g' h' := hq
    obtain ⟨y4, ⟨hg4, hd⟩, hq⟩ := D0_ok hq
    show leaveX g'.ds h' _
    rw [hd]
    show K (g'.v 4) h'
    rw [hg4]
    exact hq
  | ret =>
    have hq : D0 (fun y4 h => K (.int .u8 y4) h) g' h' := hq
    obtain ⟨y4, ⟨hg4, hd⟩, hq⟩ := D0_ok hq
    show leaveX g'.ds h' _
    rw [hd]
    show K (g'.v 4) h'
    rw [hg4]
    exact hq
  | _ => exact hq
end Sx.place_point

/-! ### tympan/place.grid -/
namespace Sx.place_grid
noncomputable def code : Code := bodyOf Try.f24
abbrev T0 := Bool → H → Prop
def E0 (g : Env) (x2 : Bool) : Prop := g.v 2 = (.bool x2) ∧ g.ds = []
def D0 (K : T0) (g : Env) (h : H) : Prop := nilDs g.ds (vBool (g.v 2) fun b1 => K b1 h)
theorem D0_ok {K : T0} {g : Env} {h : H} (hq : D0 K g h) : ∃ (x2 : Bool), E0 g x2 ∧ K x2 h := by
  obtain ⟨hd, hq⟩ := nilDs_ok hq
  obtain ⟨y3, e2, q4⟩ := vBool_ok hq
  exact ⟨y3, ⟨e2, hd⟩, q4⟩
def Q0 (Kn : T0) (Kr : T0) : XPost
  | .normal, g, h => D0 Kn g h
  | .ret, g, h => D0 Kr g h
  | _, _, _ => False
abbrev T1 := Int → Int → (List UInt8) → Int → H → Prop
def E1 (g : Env) (x0_0 : Int) (x0_1 : Int) (x0_2 : List UInt8) (x0_3 : Int) : Prop := g.v 0 = (.agg ⟨[(.int .i64 x0_0), (.int .u8 x0_1), (S x0_2), (.int .u8 x0_3)]⟩) ∧ g.ds = []
def D1 (K : T1) (g : Env) (h : H) : Prop := nilDs g.ds (vAgg (g.v 0) fun l5 => uncons l5 fun e6 l7 => vInt .i64 e6 fun i8 => uncons l7 fun e9 l10 => vInt .u8 e9 fun i11 => uncons l10 fun e12 l13 => vStr e12 fun s14 => uncons l13 fun e15 l16 => vInt .u8 e15 fun i17 => unnil l16 (K i8 i11 s14 i17 h))
theorem D1_ok {K : T1} {g : Env} {h : H} (hq : D1 K g h) : ∃ (x0_0 : Int) (x0_1 : Int) (x0_2 : List UInt8) (x0_3 : Int), E1 g x0_0 x0_1 x0_2 x0_3 ∧ K x0_0 x0_1 x0_2 x0_3 h := by
  obtain ⟨hd, hq⟩ := nilDs_ok hq
  obtain ⟨l19, e18, q20⟩ := vAgg_ok hq
  obtain ⟨u21, l22, rfl, q23⟩ := uncons_ok q20
  obtain ⟨y24, rfl, q25⟩ := vInt_ok q23
  obtain ⟨u26, l27, rfl, q28⟩ := uncons_ok q25
  obtain ⟨y29, rfl, q30⟩ := vInt_ok q28
  obtain ⟨u31, l32, rfl, q33⟩ := uncons_ok q30
  obtain ⟨y34, rfl, q35⟩ := vStr_ok q33
  obtain ⟨u36, l37, rfl, q38⟩ := uncons_ok q35
  obtain ⟨y39, rfl, q40⟩ := vInt_ok q38
  obtain ⟨rfl, q41⟩ := unnil_ok q40
  exact ⟨y24, y29, y34, y39, ⟨e18, hd⟩, q41⟩
noncomputable def n1_c1 : Code := cFst code
noncomputable def n1_c2 : Code := cSnd code
abbrev T2 := Addr → H → Prop
def E2 (g : Env) (x1 : Addr) : Prop := g.v 1 = (.pointer (some x1)) ∧ g.ds = []
def D2 (K : T2) (g : Env) (h : H) : Prop := nilDs g.ds (vAddr (g.v 1) fun a42 => K a42 h)
theorem D2_ok {K : T2} {g : Env} {h : H} (hq : D2 K g h) : ∃ (x1 : Addr), E2 g x1 ∧ K x1 h := by
  obtain ⟨hd, hq⟩ := nilDs_ok hq
  obtain ⟨y44, e43, q45⟩ := vAddr_ok hq
  exact ⟨y44, ⟨e43, hd⟩, q45⟩
noncomputable def n2_c1 : Code := cFst n1_c2
noncomputable def n2_c2 : Code := cSnd n1_c2
abbrev T3 := H → Prop
def E3 (g : Env)  : Prop := g.ds = []
def D3 (K : T3) (g : Env) (h : H) : Prop := nilDs g.ds (K h)
theorem D3_ok {K : T3} {g : Env} {h : H} (hq : D3 K g h) : E3 g  ∧ K  h := by
  obtain ⟨hd, hq⟩ := nilDs_ok hq
  skip
  exact ⟨hd, hq⟩
abbrev n3  (Kn : T0) (Kr : T0) (h : H) : Prop :=
  Kr false h
theorem n3_ok  (Kn : T0) (Kr : T0) (g : Env) (hg : E3 g ) (h : H) (hS : n3  Kn Kr h) : wpC none Try.prog 14 n2_c2 (Q0 Kn Kr) g h := by
  have hds : g.ds = [] := hg
  refine wpC_of_wpx (by kernel_rfl) (by kernel_rfl) (g' := ⟨g.v, []⟩) (by rw [env_ds hds]) ?_
  have e : (n3  Kn Kr h) = wpx none Try.prog 14 n2_c2 (Q0 Kn Kr) (⟨g.v, []⟩) h := by kernel_rfl
  exact e ▸ hS
def Q1 (Kn : T3) (Kr : T0) : XPost
  | .normal, g, h => D3 Kn g h
  | .ret, g, h => D0 Kr g h
  | _, _, _ => False
noncomputable def n4_c1 : Code := cFst n2_c1
noncomputable def n4_c2 : Code := cSnd n2_c1
abbrev T4 := Addr → (List UInt8) → H → Prop
def E4 (g : Env) (x1 : Addr) (x4 : List UInt8) : Prop := g.v 1 = (.pointer (some x1)) ∧ g.v 4 = (S x4) ∧ g.ds = []
def D4 (K : T4) (g : Env) (h : H) : Prop := nilDs g.ds (vAddr (g.v 1) fun a46 => vStr (g.v 4) fun s47 => K a46 s47 h)
theorem D4_ok {K : T4} {g : Env} {h : H} (hq : D4 K g h) : ∃ (x1 : Addr) (x4 : List UInt8), E4 g x1 x4 ∧ K x1 x4 h := by
  obtain ⟨hd, hq⟩ := nilDs_ok hq
  obtain ⟨y49, e48, q50⟩ := vAddr_ok hq
  obtain ⟨y52, e51, q53⟩ := vStr_ok q50
  exact ⟨y49, y52, ⟨e48, e51, hd⟩, q53⟩
noncomputable def n5_c1 : Code := cFst n4_c2
def Q2 (Kn : T3) (Ke0 : T3) (Kr : T0) : XPost
  | .normal, g, h => D3 Kn g h
  | .ret, g, h => D0 Kr g h
  | .exit id, g, h => cond (Nat.beq id 0) (D3 Ke0 g h) (False)
  | _, _, _ => False
noncomputable def n6_c1 : Code := cFst n5_c1
noncomputable def n6_c2 : Code := cSnd n5_c1
abbrev T5 := Addr → Bool → H → Prop
def E5 (g : Env) (x1 : Addr) (x5 : Bool) : Prop := g.v 1 = (.pointer (some x1)) ∧ g.v 5 = (.bool x5) ∧ g.ds = []
def D5 (K : T5) (g : Env) (h : H) : Prop := nilDs g.ds (vAddr (g.v 1) fun a54 => vBool (g.v 5) fun b55 => K a54 b55 h)
theorem D5_ok {K : T5} {g : Env} {h : H} (hq : D5 K g h) : ∃ (x1 : Addr) (x5 : Bool), E5 g x1 x5 ∧ K x1 x5 h := by
  obtain ⟨hd, hq⟩ := nilDs_ok hq
  obtain ⟨y57, e56, q58⟩ := vAddr_ok hq
  obtain ⟨y60, e59, q61⟩ := vBool_ok q58
  exact ⟨y57, y60, ⟨e56, e59, hd⟩, q61⟩
abbrev n7 (x1 : Addr) (x5 : Bool) (Kn : T3) (Ke0 : T3) (Kr : T0) (h : H) : Prop :=
  cond x5 (∃ i62, cell h (x1.add 1) = some (.int .u8 i62) ∧ (Spl (i62 = (0 : Int)) (Kr true h) (Kr false h))) (Kn h)
theorem n7_ok (x1 : Addr) (x5 : Bool) (Kn : T3) (Ke0 : T3) (Kr : T0) (g : Env) (hg : E5 g x1 x5) (h : H) (hS : n7 x1 x5 Kn Ke0 Kr h) : wpC none Try.prog 14 n6_c2 (Q2 Kn Ke0 Kr) g h := by
  obtain ⟨hg1, hg5, hds⟩ := hg
  refine wpC_of_wpx (by kernel_rfl) (by kernel_rfl) (g' := ((⟨g.v, []⟩ : Env).upd (some 1) (.pointer (some x1))).upd (some 5) (.bool x5)) (by rw [env_ds hds, upd_self hg1, upd_self hg5]) ?_
  have e : (n7 x1 x5 Kn Ke0 Kr h) = wpx none Try.prog 14 n6_c2 (Q2 Kn Ke0 Kr) (((⟨g.v, []⟩ : Env).upd (some 1) (.pointer (some x1))).upd (some 5) (.bool x5)) h := by kernel_rfl
  exact e ▸ hS
def Q3 (Kn : T5) (Ke0 : T3) (Kr : T0) : XPost
  | .normal, g, h => D5 Kn g h
  | .ret, g, h => D0 Kr g h
  | .exit id, g, h => cond (Nat.beq id 0) (D3 Ke0 g h) (False)
  | _, _, _ => False
noncomputable def n8_c1 : Code := cFst n6_c1
noncomputable def n8_c2 : Code := cSnd n6_c1
abbrev T6 := Addr → (List UInt8) → Bool → H → Prop
def E6 (g : Env) (x1 : Addr) (x4 : List UInt8) (x5 : Bool) : Prop := g.v 1 = (.pointer (some x1)) ∧ g.v 4 = (S x4) ∧ g.v 5 = (.bool x5) ∧ g.ds = []
def D6 (K : T6) (g : Env) (h : H) : Prop := nilDs g.ds (vAddr (g.v 1) fun a63 => vStr (g.v 4) fun s64 => vBool (g.v 5) fun b65 => K a63 s64 b65 h)
theorem D6_ok {K : T6} {g : Env} {h : H} (hq : D6 K g h) : ∃ (x1 : Addr) (x4 : List UInt8) (x5 : Bool), E6 g x1 x4 x5 ∧ K x1 x4 x5 h := by
  obtain ⟨hd, hq⟩ := nilDs_ok hq
  obtain ⟨y67, e66, q68⟩ := vAddr_ok hq
  obtain ⟨y70, e69, q71⟩ := vStr_ok q68
  obtain ⟨y73, e72, q74⟩ := vBool_ok q71
  exact ⟨y67, y70, y73, ⟨e66, e69, e72, hd⟩, q74⟩
abbrev n9 (x1 : Addr) (x4 : List UInt8) (x5 : Bool) (Kn : T5) (Ke0 : T3) (Kr : T0) (h : H) : Prop :=
  cond x5 (Kn x1 x5 h) (Spl (x4 = ([116, 98, 111, 100, 121] : List UInt8)) (Kn x1 true h) (Spl (x4 = ([116, 102, 111, 111, 116] : List UInt8)) (Kn x1 true h) (Spl (x4 = ([116, 104, 101, 97, 100] : List UInt8)) (Kn x1 true h) (Spl (x4 = ([116, 114] : List UInt8)) (Kn x1 true h) (Kn x1 false h)))))
theorem n9_ok (x1 : Addr) (x4 : List UInt8) (x5 : Bool) (Kn : T5) (Ke0 : T3) (Kr : T0) (g : Env) (hg : E6 g x1 x4 x5) (h : H) (hS : n9 x1 x4 x5 Kn Ke0 Kr h) : wpC none Try.prog 14 n8_c2 (Q3 Kn Ke0 Kr) g h := by
  obtain ⟨hg1, hg4, hg5, hds⟩ := hg
  refine wpC_of_wpx (by kernel_rfl) (by kernel_rfl) (g' := (((⟨g.v, []⟩ : Env).upd (some 1) (.pointer (some x1))).upd (some 4) (S x4)).upd (some 5) (.bool x5)) (by rw [env_ds hds, upd_self hg1, upd_self hg4, upd_self hg5]) ?_
  have e : (n9 x1 x4 x5 Kn Ke0 Kr h) = wpx none Try.prog 14 n8_c2 (Q3 Kn Ke0 Kr) ((((⟨g.v, []⟩ : Env).upd (some 1) (.pointer (some x1))).upd (some 4) (S x4)).upd (some 5) (.bool x5)) h := by kernel_rfl
  exact e ▸ hS
def Q4 (Kn : T6) (Ke0 : T3) (Kr : T0) : XPost
  | .normal, g, h => D6 Kn g h
  | .ret, g, h => D0 Kr g h
  | .exit id, g, h => cond (Nat.beq id 0) (D3 Ke0 g h) (False)
  | _, _, _ => False
abbrev n8 (x1 : Addr) (x4 : List UInt8) (Kn : T5) (Ke0 : T3) (Kr : T0) (h : H) : Prop :=
  Spl (x4 = ([116, 97, 98, 108, 101] : List UInt8)) (n9 x1 x4 true Kn Ke0 Kr h) (n9 x1 x4 false Kn Ke0 Kr h)
theorem n8_ok (x1 : Addr) (x4 : List UInt8) (Kn : T5) (Ke0 : T3) (Kr : T0) (g : Env) (hg : E4 g x1 x4) (h : H) (hS : n8 x1 x4 Kn Ke0 Kr h) : wpC none Try.prog 14 n6_c1 (Q3 Kn Ke0 Kr) g h := by
  obtain ⟨hg1, hg4, hds⟩ := hg
  refine wpC_seq' (x := n8_c1) (y := n8_c2) (Q' := (Q4 (fun z1 z4 z5 h => n9 z1 z4 z5 Kn Ke0 Kr h) Ke0 Kr)) (by kernel_rfl) ?_ ?_
  · refine wpC_of_wpx (by kernel_rfl) (by kernel_rfl) (g' := ((⟨g.v, []⟩ : Env).upd (some 1) (.pointer (some x1))).upd (some 4) (S x4)) (by rw [env_ds hds, upd_self hg1, upd_self hg4]) ?_
    have e : (n8 x1 x4 Kn Ke0 Kr h) = wpx none Try.prog 14 n8_c1 (Q4 (fun z1 z4 z5 h => n9 z1 z4 z5 Kn Ke0 Kr h) Ke0 Kr) (((⟨g.v, []⟩ : Env).upd (some 1) (.pointer (some x1))).upd (some 4) (S x4)) h := by kernel_rfl
    exact e ▸ hS
  · intro e g' h' hq
    cases e with
    | normal =>
      have hq : D6 (fun z1 z4 z5 h => n9 z1 z4 z5 Kn Ke0 Kr h) g' h' := hq
      obtain ⟨y1, y4, y5, hg', hq⟩ := D6_ok hq
      exact n9_ok y1 y4 y5 Kn Ke0 Kr g' hg' h' hq
    | _ => exact hq
abbrev n6 (x1 : Addr) (x4 : List UInt8) (Kn : T3) (Ke0 : T3) (Kr : T0) (h : H) : Prop := n8 x1 x4 (fun z1 z5 h => n7 z1 z5 Kn Ke0 Kr h) Ke0 Kr h
theorem n6_ok (x1 : Addr) (x4 : List UInt8) (Kn : T3) (Ke0 : T3) (Kr : T0) (g : Env) (hg : E4 g x1 x4) (h : H) (hS : n6 x1 x4 Kn Ke0 Kr h) : wpC none Try.prog 14 n5_c1 (Q2 Kn Ke0 Kr) g h := by
  refine wpC_seq' (x := n6_c1) (y := n6_c2) (by kernel_rfl) (n8_ok x1 x4 (fun z1 z5 h => n7 z1 z5 Kn Ke0 Kr h) Ke0 Kr g hg h hS) ?_
  intro e g' h' hq
  cases e with
  | normal =>
    have hq : D5 (fun z1 z5 h => n7 z1 z5 Kn Ke0 Kr h) g' h' := hq
    obtain ⟨y1, y5, hg', hq⟩ := D5_ok hq
    exact n7_ok y1 y5 Kn Ke0 Kr g' hg' h' hq
  | _ => exact hq
abbrev n5 (x1 : Addr) (x4 : List UInt8) (Kn : T3) (Kr : T0) (h : H) : Prop := n6 x1 x4 Kn Kn Kr h
theorem n5_ok (x1 : Addr) (x4 : List UInt8) (Kn : T3) (Kr : T0) (g : Env) (hg : E4 g x1 x4) (h : H) (hS : n5 x1 x4 Kn Kr h) : wpC none Try.prog 14 n4_c2 (Q1 Kn Kr) g h := by
  refine wpC_block' (id := 0) (x := n5_c1) (by kernel_rfl) (n6_ok x1 x4 Kn Kn Kr g hg h hS) ?_
  intro e g' h' hq
  cases e <;> exact hq
def Q5 (Kn : T4) (Kr : T0) : XPost
  | .normal, g, h => D4 Kn g h
  | .ret, g, h => D0 Kr g h
  | _, _, _ => False
abbrev n4 (x1 : Addr) (Kn : T3) (Kr : T0) (h : H) : Prop :=
  ∃ s75, cell h (x1.add 2) = some (S s75) ∧ (n5 x1 s75 Kn Kr h)
theorem n4_ok (x1 : Addr) (Kn : T3) (Kr : T0) (g : Env) (hg : E2 g x1) (h : H) (hS : n4 x1 Kn Kr h) : wpC none Try.prog 14 n2_c1 (Q1 Kn Kr) g h := by
  obtain ⟨hg1, hds⟩ := hg
  refine wpC_seq' (x := n4_c1) (y := n4_c2) (Q' := (Q5 (fun z1 z4 h => n5 z1 z4 Kn Kr h) Kr)) (by kernel_rfl) ?_ ?_
  · refine wpC_of_wpx (by kernel_rfl) (by kernel_rfl) (g' := (⟨g.v, []⟩ : Env).upd (some 1) (.pointer (some x1))) (by rw [env_ds hds, upd_self hg1]) ?_
    have e : (n4 x1 Kn Kr h) = wpx none Try.prog 14 n4_c1 (Q5 (fun z1 z4 h => n5 z1 z4 Kn Kr h) Kr) ((⟨g.v, []⟩ : Env).upd (some 1) (.pointer (some x1))) h := by kernel_rfl
    exact e ▸ hS
  · intro e g' h' hq
    cases e with
    | normal =>
      have hq : D4 (fun z1 z4 h => n5 z1 z4 Kn Kr h) g' h' := hq
      obtain ⟨y1, y4, hg', hq⟩ := D4_ok hq
      exact n5_ok y1 y4 Kn Kr g' hg' h' hq
    | _ => exact hq
abbrev n2 (x1 : Addr) (Kn : T0) (Kr : T0) (h : H) : Prop := n4 x1 (fun  h => n3 Kn Kr h) Kr h
theorem n2_ok (x1 : Addr) (Kn : T0) (Kr : T0) (g : Env) (hg : E2 g x1) (h : H) (hS : n2 x1 Kn Kr h) : wpC none Try.prog 14 n1_c2 (Q0 Kn Kr) g h := by
  refine wpC_seq' (x := n2_c1) (y := n2_c2) (by kernel_rfl) (n4_ok x1 (fun  h => n3 Kn Kr h) Kr g hg h hS) ?_
  intro e g' h' hq
  cases e with
  | normal =>
    have hq : D3 (fun  h => n3 Kn Kr h) g' h' := hq
    obtain ⟨hg', hq⟩ := D3_ok hq
    exact n3_ok  Kn Kr g' hg' h' hq
  | _ => exact hq
def Q6 (Kn : T2) (Kr : T0) : XPost
  | .normal, g, h => D2 Kn g h
  | .ret, g, h => D0 Kr g h
  | _, _, _ => False
abbrev n1 (x0_0 : Int) (x0_1 : Int) (x0_2 : List UInt8) (x0_3 : Int) (Kn : T0) (Kr : T0) (h : H) : Prop :=
  newx h ⟨[(.int .i64 x0_0), (.int .u8 x0_1), (S x0_2), (.int .u8 x0_3)]⟩ 44 fun a76 h77 => n2 a76 Kn Kr h77
theorem n1_ok (x0_0 : Int) (x0_1 : Int) (x0_2 : List UInt8) (x0_3 : Int) (Kn : T0) (Kr : T0) (g : Env) (hg : E1 g x0_0 x0_1 x0_2 x0_3) (h : H) (hS : n1 x0_0 x0_1 x0_2 x0_3 Kn Kr h) : wpC none Try.prog 14 code (Q0 Kn Kr) g h := by
  obtain ⟨hg0, hds⟩ := hg
  refine wpC_seq' (x := n1_c1) (y := n1_c2) (Q' := (Q6 (fun z1 h => n2 z1 Kn Kr h) Kr)) (by kernel_rfl) ?_ ?_
  · refine wpC_of_wpx (by kernel_rfl) (by kernel_rfl) (g' := (⟨g.v, []⟩ : Env).upd (some 0) (.agg ⟨[(.int .i64 x0_0), (.int .u8 x0_1), (S x0_2), (.int .u8 x0_3)]⟩)) (by rw [env_ds hds, upd_self hg0]) ?_
    have e : (n1 x0_0 x0_1 x0_2 x0_3 Kn Kr h) = wpx none Try.prog 14 n1_c1 (Q6 (fun z1 h => n2 z1 Kn Kr h) Kr) ((⟨g.v, []⟩ : Env).upd (some 0) (.agg ⟨[(.int .i64 x0_0), (.int .u8 x0_1), (S x0_2), (.int .u8 x0_3)]⟩)) h := by kernel_rfl
    exact e ▸ hS
  · intro e g' h' hq
    cases e with
    | normal =>
      have hq : D2 (fun z1 h => n2 z1 Kn Kr h) g' h' := hq
      obtain ⟨y1, hg', hq⟩ := D2_ok hq
      exact n2_ok y1 Kn Kr g' hg' h' hq
    | _ => exact hq
/-- WHAT tympan/place.grid ASKS -/
abbrev asks (x0_0 : Int) (x0_1 : Int) (x0_2 : List UInt8) (x0_3 : Int) (K : Value → H → Prop) (h : H) : Prop := n1 x0_0 x0_1 x0_2 x0_3 (fun y2 h => K (.bool y2) h) (fun y2 h => K (.bool y2) h) h
theorem ok (x0_0 : Int) (x0_1 : Int) (x0_2 : List UInt8) (x0_3 : Int) (K : Value → H → Prop) (h : H) (hS : asks x0_0 x0_1 x0_2 x0_3 K h) : HCalls Try.prog 24 ⟨[(.agg ⟨[(.int .i64 x0_0), (.int .u8 x0_1), (S x0_2), (.int .u8 x0_3)]⟩)]⟩ h K := by
  refine calls_of_wpC (c := code) Try.func24 (by kernel_rfl) (Nat.le_of_ble_eq_true (by kernel_rfl)) ?_
  refine (n1_ok x0_0 x0_1 x0_2 x0_3 (fun y2 h => K (.bool y2) h) (fun y2 h => K (.bool y2) h) (env0 [(.agg ⟨[(.int .i64 x0_0), (.int .u8 x0_1), (S x0_2), (.int .u8 x0_3)]⟩)]) ⟨rfl, rfl⟩ h hS).mono ?_
  intro e g' h' hq
  cases e with
  | normal =>
    have hq : D0 (fun y2 h => K (.bool y2) h) g' h' := hq
    obtain ⟨y2, ⟨hg2, hd⟩, hq⟩ := D0_ok hq
    show leaveX g'.ds h' _
    rw [hd]
    show K (g'.v 2) h'
    rw [hg2]
    exact hq
  | ret =>
    have hq : D0 (fun y2 h => K (.bool y2) h) g' h' := hq
    obtain ⟨y2, ⟨hg2, hd⟩, hq⟩ := D0_ok hq
    show leaveX g'.ds h' _
    rw [hd]
    show K (g'.v 2) h'
    rw [hg2]
    exact hq
  | _ => exact hq
end Sx.place_grid

/-! ### tympan/class.Lower -/
namespace Sx.class_Lower
noncomputable def code : Code := bodyOf Try.f32
abbrev T0 := (List UInt8) → H → Prop
def E0 (g : Env) (x2 : List UInt8) : Prop := g.v 2 = (S x2) ∧ g.ds = []
def D0 (K : T0) (g : Env) (h : H) : Prop := nilDs g.ds (vStr (g.v 2) fun s1 => K s1 h)
theorem D0_ok {K : T0} {g : Env} {h : H} (hq : D0 K g h) : ∃ (x2 : List UInt8), E0 g x2 ∧ K x2 h := by
  obtain ⟨hd, hq⟩ := nilDs_ok hq
  obtain ⟨y3, e2, q4⟩ := vStr_ok hq
  exact ⟨y3, ⟨e2, hd⟩, q4⟩
def Q0 (Kn : T0) (Kr : T0) : XPost
  | .normal, g, h => D0 Kn g h
  | .ret, g, h => D0 Kr g h
  | _, _, _ => False
abbrev T1 := (List UInt8) → H → Prop
def E1 (g : Env) (x0 : List UInt8) : Prop := g.v 0 = (S x0) ∧ g.ds = []
def D1 (K : T1) (g : Env) (h : H) : Prop := nilDs g.ds (vStr (g.v 0) fun s5 => K s5 h)
theorem D1_ok {K : T1} {g : Env} {h : H} (hq : D1 K g h) : ∃ (x0 : List UInt8), E1 g x0 ∧ K x0 h := by
  obtain ⟨hd, hq⟩ := nilDs_ok hq
  obtain ⟨y7, e6, q8⟩ := vStr_ok hq
  exact ⟨y7, ⟨e6, hd⟩, q8⟩
noncomputable def n1_c1 : Code := cFst code
noncomputable def n1_c2 : Code := cSnd code
noncomputable def n2_c1 : Code := cFst n1_c2
noncomputable def n2_c2 : Code := cSnd n1_c2
abbrev T2 := (Option Addr) → Nat → Nat → H → Prop
def E2 (g : Env) (x3b : Option Addr) (x3n : Nat) (x3c : Nat) : Prop := g.v 3 = (.slice x3b x3n x3c) ∧ g.ds = []
def D2 (K : T2) (g : Env) (h : H) : Prop := nilDs g.ds (vSlice (g.v 3) fun s9b s9n s9c => K s9b s9n s9c h)
theorem D2_ok {K : T2} {g : Env} {h : H} (hq : D2 K g h) : ∃ (x3b : Option Addr) (x3n : Nat) (x3c : Nat), E2 g x3b x3n x3c ∧ K x3b x3n x3c h := by
  obtain ⟨hd, hq⟩ := nilDs_ok hq
  obtain ⟨y11b, y11n, y11c, e10, q12⟩ := vSlice_ok hq
  exact ⟨y11b, y11n, y11c, ⟨e10, hd⟩, q12⟩
noncomputable def n3_c1 : Code := cFst n2_c2
noncomputable def n3_c2 : Code := cSnd n2_c2
abbrev n4 (x3b : Option Addr) (x3n : Nat) (x3c : Nat) (Kn : T0) (Kr : T0) (h : H) : Prop :=
  SemH Try.prog (convert 89 9 (.slice x3b x3n x3c)) h fun v13 h14 => vStr v13 fun s15 => Kr s15 h14
theorem n4_ok (x3b : Option Addr) (x3n : Nat) (x3c : Nat) (Kn : T0) (Kr : T0) (g : Env) (hg : E2 g x3b x3n x3c) (h : H) (hS : n4 x3b x3n x3c Kn Kr h) : wpC none Try.prog 23 n3_c2 (Q0 Kn Kr) g h := by
  obtain ⟨hg3, hds⟩ := hg
  refine wpC_of_wpx (by kernel_rfl) (by kernel_rfl) (g' := (⟨g.v, []⟩ : Env).upd (some 3) (.slice x3b x3n x3c)) (by rw [env_ds hds, upd_self hg3]) ?_
  have e : (n4 x3b x3n x3c Kn Kr h) = wpx none Try.prog 23 n3_c2 (Q0 Kn Kr) ((⟨g.v, []⟩ : Env).upd (some 3) (.slice x3b x3n x3c)) h := by kernel_rfl
  exact e ▸ hS
def Q1 (Kn : T2) (Kr : T0) : XPost
  | .normal, g, h => D2 Kn g h
  | .ret, g, h => D0 Kr g h
  | _, _, _ => False
noncomputable def n5_c1 : Code := cFst n3_c1
noncomputable def n5_c2 : Code := cSnd n3_c1
abbrev T3 := (Option Addr) → Nat → Nat → (Option Addr) → Nat → Nat → Int → Int → H → Prop
def E3 (g : Env) (x3b : Option Addr) (x3n : Nat) (x3c : Nat) (x8b : Option Addr) (x8n : Nat) (x8c : Nat) (x9 : Int) (x10 : Int) : Prop := g.v 3 = (.slice x3b x3n x3c) ∧ g.v 8 = (.slice x8b x8n x8c) ∧ g.v 9 = (.int .i64 x9) ∧ g.v 10 = (.int .i64 x10) ∧ g.ds = []
def D3 (K : T3) (g : Env) (h : H) : Prop := nilDs g.ds (vSlice (g.v 3) fun s16b s16n s16c => vSlice (g.v 8) fun s17b s17n s17c => vInt .i64 (g.v 9) fun i18 => vInt .i64 (g.v 10) fun i19 => K s16b s16n s16c s17b s17n s17c i18 i19 h)
theorem D3_ok {K : T3} {g : Env} {h : H} (hq : D3 K g h) : ∃ (x3b : Option Addr) (x3n : Nat) (x3c : Nat) (x8b : Option Addr) (x8n : Nat) (x8c : Nat) (x9 : Int) (x10 : Int), E3 g x3b x3n x3c x8b x8n x8c x9 x10 ∧ K x3b x3n x3c x8b x8n x8c x9 x10 h := by
  obtain ⟨hd, hq⟩ := nilDs_ok hq
  obtain ⟨y21b, y21n, y21c, e20, q22⟩ := vSlice_ok hq
  obtain ⟨y24b, y24n, y24c, e23, q25⟩ := vSlice_ok q22
  obtain ⟨y27, e26, q28⟩ := vInt_ok q25
  obtain ⟨y30, e29, q31⟩ := vInt_ok q28
  exact ⟨y21b, y21n, y21c, y24b, y24n, y24c, y27, y30, ⟨e20, e23, e26, e29, hd⟩, q31⟩
noncomputable def n6_c1 : Code := cFst n5_c2
def Q2 (Kn : T2) (Ke0 : T2) (Kr : T0) : XPost
  | .normal, g, h => D2 Kn g h
  | .ret, g, h => D0 Kr g h
  | .exit id, g, h => cond (Nat.beq id 0) (D2 Ke0 g h) (False)
  | _, _, _ => False
noncomputable def n7_c1 : Code := cFst n6_c1
def Q3 (Kn : T3) (Ke0 : T2) (Kr : T0) : XPost
  | .normal, g, h => D3 Kn g h
  | .ret, g, h => D0 Kr g h
  | .exit id, g, h => cond (Nat.beq id 0) (D2 Ke0 g h) (False)
  | _, _, _ => False
def n7_L (Kn : T2) (Ke0 : T2) (Kr : T0) : Nat → (Option Addr) → Nat → Nat → (Option Addr) → Nat → Nat → Int → Int → H → Prop
  | 0 => fun _ _ _ _ _ _ _ _ _ => False
  | N + 1 => fun x3b x3n x3c x8b x8n x8c x9 x10 h => Spl (x10 < x9) ((0 ≤ x10 ∧ x10 < (x8n : Int)) ∧ (vSome x8b fun a32 => ∃ i33, cell h (a32.add (Int.toNat x10 * 1)) = some (.int .u8 i33) ∧ (HCalls Try.prog 41 ⟨[(.int .u8 i33)]⟩ h fun v34 h35 => vInt .u8 v34 fun i36 => (0 ≤ x10 ∧ x10 < (x3n : Int)) ∧ (vSome x3b fun a37 => stL (a37.add (Int.toNat x10 * 1)) [(.int .u8 i36)] 0 h35 fun h38 => Rng .i64 (x10 + (1 : Int)) ∧ (n7_L Kn Ke0 Kr N x3b x3n x3c x8b x8n x8c x9 (x10 + (1 : Int)) h38))))) (Ke0 x3b x3n x3c h)
abbrev n7 (x3b : Option Addr) (x3n : Nat) (x3c : Nat) (x8b : Option Addr) (x8n : Nat) (x8c : Nat) (x9 : Int) (x10 : Int) (Kn : T2) (Ke0 : T2) (Kr : T0) (h : H) : Prop := ∃ N, n7_L Kn Ke0 Kr N x3b x3n x3c x8b x8n x8c x9 x10 h
theorem n7_ok (x3b : Option Addr) (x3n : Nat) (x3c : Nat) (x8b : Option Addr) (x8n : Nat) (x8c : Nat) (x9 : Int) (x10 : Int) (Kn : T2) (Ke0 : T2) (Kr : T0) (g : Env) (hg : E3 g x3b x3n x3c x8b x8n x8c x9 x10) (h : H) (hS : n7 x3b x3n x3c x8b x8n x8c x9 x10 Kn Ke0 Kr h) : wpC none Try.prog 23 n6_c1 (Q2 Kn Ke0 Kr) g h := by
  obtain ⟨N0, hS⟩ := hS
  refine wpC_loop' (x := n7_c1) (by kernel_rfl) (fun k g h => ∃ (x3b : Option Addr) (x3n : Nat) (x3c : Nat) (x8b : Option Addr) (x8n : Nat) (x8c : Nat) (x9 : Int) (x10 : Int), E3 g x3b x3n x3c x8b x8n x8c x9 x10 ∧ n7_L Kn Ke0 Kr k x3b x3n x3c x8b x8n x8c x9 x10 h) (fun g h hr => ?_) (fun N g h hr => ?_) N0 ⟨x3b, x3n, x3c, x8b, x8n, x8c, x9, x10, hg, hS⟩
  · obtain ⟨x3b, x3n, x3c, x8b, x8n, x8c, x9, x10, hg, hS⟩ := hr
    exact hS.elim
  · obtain ⟨x3b, x3n, x3c, x8b, x8n, x8c, x9, x10, hg, hS⟩ := hr
    have hw : wpC none Try.prog 23 n7_c1 (Q3 (fun z3b z3n z3c z8b z8n z8c z9 z10 h => n7_L Kn Ke0 Kr N z3b z3n z3c z8b z8n z8c z9 z10 h) Ke0 Kr) g h := by
      obtain ⟨hg3, hg8, hg9, hg10, hds⟩ := hg
      refine wpC_of_wpx (by kernel_rfl) (by kernel_rfl) (g' := ((((⟨g.v, []⟩ : Env).upd (some 3) (.slice x3b x3n x3c)).upd (some 8) (.slice x8b x8n x8c)).upd (some 9) (.int .i64 x9)).upd (some 10) (.int .i64 x10)) (by rw [env_ds hds, upd_self hg3, upd_self hg8, upd_self hg9, upd_self hg10]) ?_
      have e : (n7_L Kn Ke0 Kr (N + 1) x3b x3n x3c x8b x8n x8c x9 x10 h) = wpx none Try.prog 23 n7_c1 (Q3 (fun z3b z3n z3c z8b z8n z8c z9 z10 h => n7_L Kn Ke0 Kr N z3b z3n z3c z8b z8n z8c z9 z10 h) Ke0 Kr) (((((⟨g.v, []⟩ : Env).upd (some 3) (.slice x3b x3n x3c)).upd (some 8) (.slice x8b x8n x8c)).upd (some 9) (.int .i64 x9)).upd (some 10) (.int .i64 x10)) h := by kernel_rfl
      exact e ▸ hS
    refine hw.mono ?_
    intro e g' h' hq
    cases e with
    | normal => exact D3_ok (K := (fun z3b z3n z3c z8b z8n z8c z9 z10 h => n7_L Kn Ke0 Kr N z3b z3n z3c z8b z8n z8c z9 z10 h)) hq
    | _ => exact hq
abbrev n6 (x3b : Option Addr) (x3n : Nat) (x3c : Nat) (x8b : Option Addr) (x8n : Nat) (x8c : Nat) (x9 : Int) (x10 : Int) (Kn : T2) (Kr : T0) (h : H) : Prop := n7 x3b x3n x3c x8b x8n x8c x9 x10 Kn Kn Kr h
theorem n6_ok (x3b : Option Addr) (x3n : Nat) (x3c : Nat) (x8b : Option Addr) (x8n : Nat) (x8c : Nat) (x9 : Int) (x10 : Int) (Kn : T2) (Kr : T0) (g : Env) (hg : E3 g x3b x3n x3c x8b x8n x8c x9 x10) (h : H) (hS : n6 x3b x3n x3c x8b x8n x8c x9 x10 Kn Kr h) : wpC none Try.prog 23 n5_c2 (Q1 Kn Kr) g h := by
  refine wpC_block' (id := 0) (x := n6_c1) (by kernel_rfl) (n7_ok x3b x3n x3c x8b x8n x8c x9 x10 Kn Kn Kr g hg h hS) ?_
  intro e g' h' hq
  cases e <;> exact hq
def Q4 (Kn : T3) (Kr : T0) : XPost
  | .normal, g, h => D3 Kn g h
  | .ret, g, h => D0 Kr g h
  | _, _, _ => False
abbrev n5 (x3b : Option Addr) (x3n : Nat) (x3c : Nat) (Kn : T2) (Kr : T0) (h : H) : Prop :=
  n6 x3b x3n x3c x3b x3n x3c (x3n : Int) (0 : Int) Kn Kr h
theorem n5_ok (x3b : Option Addr) (x3n : Nat) (x3c : Nat) (Kn : T2) (Kr : T0) (g : Env) (hg : E2 g x3b x3n x3c) (h : H) (hS : n5 x3b x3n x3c Kn Kr h) : wpC none Try.prog 23 n3_c1 (Q1 Kn Kr) g h := by
  obtain ⟨hg3, hds⟩ := hg
  refine wpC_seq' (x := n5_c1) (y := n5_c2) (Q' := (Q4 (fun z3b z3n z3c z8b z8n z8c z9 z10 h => n6 z3b z3n z3c z8b z8n z8c z9 z10 Kn Kr h) Kr)) (by kernel_rfl) ?_ ?_
  · refine wpC_of_wpx (by kernel_rfl) (by kernel_rfl) (g' := (⟨g.v, []⟩ : Env).upd (some 3) (.slice x3b x3n x3c)) (by rw [env_ds hds, upd_self hg3]) ?_
    have e : (n5 x3b x3n x3c Kn Kr h) = wpx none Try.prog 23 n5_c1 (Q4 (fun z3b z3n z3c z8b z8n z8c z9 z10 h => n6 z3b z3n z3c z8b z8n z8c z9 z10 Kn Kr h) Kr) ((⟨g.v, []⟩ : Env).upd (some 3) (.slice x3b x3n x3c)) h := by kernel_rfl
    exact e ▸ hS
  · intro e g' h' hq
    cases e with
    | normal =>
      have hq : D3 (fun z3b z3n z3c z8b z8n z8c z9 z10 h => n6 z3b z3n z3c z8b z8n z8c z9 z10 Kn Kr h) g' h' := hq
      obtain ⟨y3b, y3n, y3c, y8b, y8n, y8c, y9, y10, hg', hq⟩ := D3_ok hq
      exact n6_ok y3b y3n y3c y8b y8n y8c y9 y10 Kn Kr g' hg' h' hq
    | _ => exact hq
abbrev n3 (x3b : Option Addr) (x3n : Nat) (x3c : Nat) (Kn : T0) (Kr : T0) (h : H) : Prop := n5 x3b x3n x3c (fun z3b z3n z3c h => n4 z3b z3n z3c Kn Kr h) Kr h
theorem n3_ok (x3b : Option Addr) (x3n : Nat) (x3c : Nat) (Kn : T0) (Kr : T0) (g : Env) (hg : E2 g x3b x3n x3c) (h : H) (hS : n3 x3b x3n x3c Kn Kr h) : wpC none Try.prog 23 n2_c2 (Q0 Kn Kr) g h := by
  refine wpC_seq' (x := n3_c1) (y := n3_c2) (by kernel_rfl) (n5_ok x3b x3n x3c (fun z3b z3n z3c h => n4 z3b z3n z3c Kn Kr h) Kr g hg h hS) ?_
  intro e g' h' hq
  cases e with
  | normal =>
    have hq : D2 (fun z3b z3n z3c h => n4 z3b z3n z3c Kn Kr h) g' h' := hq
    obtain ⟨y3b, y3n, y3c, hg', hq⟩ := D2_ok hq
    exact n4_ok y3b y3n y3c Kn Kr g' hg' h' hq
  | _ => exact hq
abbrev n2 (x0 : List UInt8) (Kn : T0) (Kr : T0) (h : H) : Prop :=
  SemH Try.prog (convert 9 89 (S x0)) h fun v39 h40 => vSlice v39 fun s41b s41n s41c => n3 s41b s41n s41c Kn Kr h40
theorem n2_ok (x0 : List UInt8) (Kn : T0) (Kr : T0) (g : Env) (hg : E1 g x0) (h : H) (hS : n2 x0 Kn Kr h) : wpC none Try.prog 23 n1_c2 (Q0 Kn Kr) g h := by
  obtain ⟨hg0, hds⟩ := hg
  refine wpC_seq' (x := n2_c1) (y := n2_c2) (Q' := (Q1 (fun z3b z3n z3c h => n3 z3b z3n z3c Kn Kr h) Kr)) (by kernel_rfl) ?_ ?_
  · refine wpC_of_wpx (by kernel_rfl) (by kernel_rfl) (g' := (⟨g.v, []⟩ : Env).upd (some 0) (S x0)) (by rw [env_ds hds, upd_self hg0]) ?_
    have e : (n2 x0 Kn Kr h) = wpx none Try.prog 23 n2_c1 (Q1 (fun z3b z3n z3c h => n3 z3b z3n z3c Kn Kr h) Kr) ((⟨g.v, []⟩ : Env).upd (some 0) (S x0)) h := by kernel_rfl
    exact e ▸ hS
  · intro e g' h' hq
    cases e with
    | normal =>
      have hq : D2 (fun z3b z3n z3c h => n3 z3b z3n z3c Kn Kr h) g' h' := hq
      obtain ⟨y3b, y3n, y3c, hg', hq⟩ := D2_ok hq
      exact n3_ok y3b y3n y3c Kn Kr g' hg' h' hq
    | _ => exact hq
def Q5 (Kn : T1) (Kr : T0) : XPost
  | .normal, g, h => D1 Kn g h
  | .ret, g, h => D0 Kr g h
  | _, _, _ => False
abbrev n1 (x0 : List UInt8) (Kn : T0) (Kr : T0) (h : H) : Prop :=
  n2 x0 Kn Kr h
theorem n1_ok (x0 : List UInt8) (Kn : T0) (Kr : T0) (g : Env) (hg : E1 g x0) (h : H) (hS : n1 x0 Kn Kr h) : wpC none Try.prog 23 code (Q0 Kn Kr) g h := by
  obtain ⟨hg0, hds⟩ := hg
  refine wpC_seq' (x := n1_c1) (y := n1_c2) (Q' := (Q5 (fun z0 h => n2 z0 Kn Kr h) Kr)) (by kernel_rfl) ?_ ?_
  · refine wpC_of_wpx (by kernel_rfl) (by kernel_rfl) (g' := (⟨g.v, []⟩ : Env).upd (some 0) (S x0)) (by rw [env_ds hds, upd_self hg0]) ?_
    have e : (n1 x0 Kn Kr h) = wpx none Try.prog 23 n1_c1 (Q5 (fun z0 h => n2 z0 Kn Kr h) Kr) ((⟨g.v, []⟩ : Env).upd (some 0) (S x0)) h := by kernel_rfl
    exact e ▸ hS
  · intro e g' h' hq
    cases e with
    | normal =>
      have hq : D1 (fun z0 h => n2 z0 Kn Kr h) g' h' := hq
      obtain ⟨y0, hg', hq⟩ := D1_ok hq
      exact n2_ok y0 Kn Kr g' hg' h' hq
    | _ => exact hq
/-- WHAT tympan/class.Lower ASKS -/
abbrev asks (x0 : List UInt8) (K : Value → H → Prop) (h : H) : Prop := n1 x0 (fun y2 h => K (S y2) h) (fun y2 h => K (S y2) h) h
theorem ok (x0 : List UInt8) (K : Value → H → Prop) (h : H) (hS : asks x0 K h) : HCalls Try.prog 32 ⟨[(S x0)]⟩ h K := by
  refine calls_of_wpC (c := code) Try.func32 (by kernel_rfl) (Nat.le_of_ble_eq_true (by kernel_rfl)) ?_
  refine (n1_ok x0 (fun y2 h => K (S y2) h) (fun y2 h => K (S y2) h) (env0 [(S x0)]) ⟨rfl, rfl⟩ h hS).mono ?_
  intro e g' h' hq
  cases e with
  | normal =>
    have hq : D0 (fun y2 h => K (S y2) h) g' h' := hq
    obtain ⟨y2, ⟨hg2, hd⟩, hq⟩ := D0_ok hq
    show leaveX g'.ds h' _
    rw [hd]
    show K (g'.v 2) h'
    rw [hg2]
    exact hq
  | ret =>
    have hq : D0 (fun y2 h => K (S y2) h) g' h' := hq
    obtain ⟨y2, ⟨hg2, hd⟩, hq⟩ := D0_ok hq
    show leaveX g'.ds h' _
    rw [hd]
    show K (g'.v 2) h'
    rw [hg2]
    exact hq
  | _ => exact hq
end Sx.class_Lower

/-! ### tympan/class.small -/
namespace Sx.class_small
noncomputable def code : Code := bodyOf Try.f41
abbrev T0 := Int → H → Prop
def E0 (g : Env) (x2 : Int) : Prop := g.v 2 = (.int .u8 x2) ∧ g.ds = []
def D0 (K : T0) (g : Env) (h : H) : Prop := nilDs g.ds (vInt .u8 (g.v 2) fun i1 => K i1 h)
theorem D0_ok {K : T0} {g : Env} {h : H} (hq : D0 K g h) : ∃ (x2 : Int), E0 g x2 ∧ K x2 h := by
  obtain ⟨hd, hq⟩ := nilDs_ok hq
  obtain ⟨y3, e2, q4⟩ := vInt_ok hq
  exact ⟨y3, ⟨e2, hd⟩, q4⟩
def Q0 (Kn : T0) (Kr : T0) : XPost
  | .normal, g, h => D0 Kn g h
  | .ret, g, h => D0 Kr g h
  | _, _, _ => False
abbrev T1 := Int → H → Prop
def E1 (g : Env) (x0 : Int) : Prop := g.v 0 = (.int .u8 x0) ∧ g.ds = []
def D1 (K : T1) (g : Env) (h : H) : Prop := nilDs g.ds (vInt .u8 (g.v 0) fun i5 => K i5 h)
theorem D1_ok {K : T1} {g : Env} {h : H} (hq : D1 K g h) : ∃ (x0 : Int), E1 g x0 ∧ K x0 h := by
  obtain ⟨hd, hq⟩ := nilDs_ok hq
  obtain ⟨y7, e6, q8⟩ := vInt_ok hq
  exact ⟨y7, ⟨e6, hd⟩, q8⟩
abbrev n1 (x0 : Int) (Kn : T0) (Kr : T0) (h : H) : Prop :=
  Spl (x0 ≥ (65 : Int)) (Spl (x0 ≤ (90 : Int)) (Kr (bits .or .u8 x0 (32 : Int)) h) (Kr x0 h)) (Kr x0 h)
theorem n1_ok (x0 : Int) (Kn : T0) (Kr : T0) (g : Env) (hg : E1 g x0) (h : H) (hS : n1 x0 Kn Kr h) : wpC none Try.prog 12 code (Q0 Kn Kr) g h := by
  obtain ⟨hg0, hds⟩ := hg
  refine wpC_of_wpx (by kernel_rfl) (by kernel_rfl) (g' := (⟨g.v, []⟩ : Env).upd (some 0) (.int .u8 x0)) (by rw [env_ds hds, upd_self hg0]) ?_
  have e : (n1 x0 Kn Kr h) = wpx none Try.prog 12 code (Q0 Kn Kr) ((⟨g.v, []⟩ : Env).upd (some 0) (.int .u8 x0)) h := by kernel_rfl
  exact e ▸ hS
/-- WHAT tympan/class.small ASKS -/
abbrev asks (x0 : Int) (K : Value → H → Prop) (h : H) : Prop := n1 x0 (fun y2 h => K (.int .u8 y2) h) (fun y2 h => K (.int .u8 y2) h) h
theorem ok (x0 : Int) (K : Value → H → Prop) (h : H) (hS : asks x0 K h) : HCalls Try.prog 41 ⟨[(.int .u8 x0)]⟩ h K := by
  refine calls_of_wpC (c := code) Try.func41 (by kernel_rfl) (Nat.le_of_ble_eq_true (by kernel_rfl)) ?_
  refine (n1_ok x0 (fun y2 h => K (.int .u8 y2) h) (fun y2 h => K (.int .u8 y2) h) (env0 [(.int .u8 x0)]) ⟨rfl, rfl⟩ h hS).mono ?_
  intro e g' h' hq
  cases e with
  | normal =>
    have hq : D0 (fun y2 h => K (.int .u8 y2) h) g' h' := hq
    obtain ⟨y2, ⟨hg2, hd⟩, hq⟩ := D0_ok hq
    show leaveX g'.ds h' _
    rw [hd]
    show K (g'.v 2) h'
    rw [hg2]
    exact hq
  | ret =>
    have hq : D0 (fun y2 h => K (.int .u8 y2) h) g' h' := hq
    obtain ⟨y2, ⟨hg2, hd⟩, hq⟩ := D0_ok hq
    show leaveX g'.ds h' _
    rw [hd]
    show K (g'.v 2) h'
    rw [hg2]
    exact hq
  | _ => exact hq
end Sx.class_small
end Go.Proofs
