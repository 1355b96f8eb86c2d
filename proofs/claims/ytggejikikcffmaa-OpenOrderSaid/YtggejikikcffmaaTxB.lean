/- The shallow forms of functions, printed by sh.py out of the translation; each with its proof. No condition. -/
import Derived.Test.YtggejikikcffmaaShJ
import Derived.Test.YtggejikikcffmaaProg
namespace Go.Proofs
open Go Go.Sh
set_option linter.unusedVariables false
set_option maxRecDepth 100000

/-! ### tympan/open.In -/
namespace Sx.open_In
noncomputable def code : Code := bodyOf Try.f10
abbrev T0 := Addr → (List Deferred) → H → Prop
def E0 (g : Env) (x6 : Addr) (ds : List Deferred) : Prop := g.v 6 = (.pointer (some x6)) ∧ g.ds = ds
def D0 (K : T0) (g : Env) (h : H) : Prop := vAddr (g.v 6) fun a1 => K a1 g.ds h
theorem D0_ok {K : T0} {g : Env} {h : H} (hq : D0 K g h) : ∃ (x6 : Addr) (ds : List Deferred), E0 g x6 ds ∧ K x6 ds h := by
  obtain ⟨y3, e2, q4⟩ := vAddr_ok hq
  exact ⟨y3, g.ds, ⟨e2, rfl⟩, q4⟩
theorem D0_mk {K : T0} {g : Env} {h : H} {x6 : Addr} {ds : List Deferred} (hg : E0 g x6 ds) (hk : K x6 ds h) : D0 K g h := by
  obtain ⟨hg6, hds⟩ := hg
  unfold D0
  rw [hg6, hds]
  exact hk
def Q0 (Kn : T0) (Kr : T0) : XPost
  | .normal, g, h => D0 Kn g h
  | .ret, g, h => D0 Kr g h
  | _, _, _ => False
abbrev T1 := (Option Addr) → Nat → Nat → Int → (Option Addr) → Nat → Nat → (List Deferred) → H → Prop
def E1 (g : Env) (x0b : Option Addr) (x0n : Nat) (x0c : Nat) (x1 : Int) (x2b : Option Addr) (x2n : Nat) (x2c : Nat) (ds : List Deferred) : Prop := g.v 0 = (.slice x0b x0n x0c) ∧ g.v 1 = (.int .u8 x1) ∧ g.v 2 = (.slice x2b x2n x2c) ∧ g.ds = ds
def D1 (K : T1) (g : Env) (h : H) : Prop := vSlice (g.v 0) fun s5b s5n s5c => vInt .u8 (g.v 1) fun i6 => vSlice (g.v 2) fun s7b s7n s7c => K s5b s5n s5c i6 s7b s7n s7c g.ds h
theorem D1_ok {K : T1} {g : Env} {h : H} (hq : D1 K g h) : ∃ (x0b : Option Addr) (x0n : Nat) (x0c : Nat) (x1 : Int) (x2b : Option Addr) (x2n : Nat) (x2c : Nat) (ds : List Deferred), E1 g x0b x0n x0c x1 x2b x2n x2c ds ∧ K x0b x0n x0c x1 x2b x2n x2c ds h := by
  obtain ⟨y9b, y9n, y9c, e8, q10⟩ := vSlice_ok hq
  obtain ⟨y12, e11, q13⟩ := vInt_ok q10
  obtain ⟨y15b, y15n, y15c, e14, q16⟩ := vSlice_ok q13
  exact ⟨y9b, y9n, y9c, y12, y15b, y15n, y15c, g.ds, ⟨e8, e11, e14, rfl⟩, q16⟩
theorem D1_mk {K : T1} {g : Env} {h : H} {x0b : Option Addr} {x0n : Nat} {x0c : Nat} {x1 : Int} {x2b : Option Addr} {x2n : Nat} {x2c : Nat} {ds : List Deferred} (hg : E1 g x0b x0n x0c x1 x2b x2n x2c ds) (hk : K x0b x0n x0c x1 x2b x2n x2c ds h) : D1 K g h := by
  obtain ⟨hg0, hg1, hg2, hds⟩ := hg
  unfold D1
  rw [hg0, hg1, hg2, hds]
  exact hk
noncomputable def n1_c1 : Code := cFst code
noncomputable def n1_c2 : Code := cSnd code
abbrev T2 := (Option Addr) → Nat → Nat → Addr → Addr → Addr → (List Deferred) → H → Prop
def E2 (g : Env) (x0b : Option Addr) (x0n : Nat) (x0c : Nat) (x4 : Addr) (x5 : Addr) (x6 : Addr) (ds : List Deferred) : Prop := g.v 0 = (.slice x0b x0n x0c) ∧ g.v 4 = (.pointer (some x4)) ∧ g.v 5 = (.pointer (some x5)) ∧ g.v 6 = (.pointer (some x6)) ∧ g.ds = ds
def D2 (K : T2) (g : Env) (h : H) : Prop := vSlice (g.v 0) fun s17b s17n s17c => vAddr (g.v 4) fun a18 => vAddr (g.v 5) fun a19 => vAddr (g.v 6) fun a20 => K s17b s17n s17c a18 a19 a20 g.ds h
theorem D2_ok {K : T2} {g : Env} {h : H} (hq : D2 K g h) : ∃ (x0b : Option Addr) (x0n : Nat) (x0c : Nat) (x4 : Addr) (x5 : Addr) (x6 : Addr) (ds : List Deferred), E2 g x0b x0n x0c x4 x5 x6 ds ∧ K x0b x0n x0c x4 x5 x6 ds h := by
  obtain ⟨y22b, y22n, y22c, e21, q23⟩ := vSlice_ok hq
  obtain ⟨y25, e24, q26⟩ := vAddr_ok q23
  obtain ⟨y28, e27, q29⟩ := vAddr_ok q26
  obtain ⟨y31, e30, q32⟩ := vAddr_ok q29
  exact ⟨y22b, y22n, y22c, y25, y28, y31, g.ds, ⟨e21, e24, e27, e30, rfl⟩, q32⟩
theorem D2_mk {K : T2} {g : Env} {h : H} {x0b : Option Addr} {x0n : Nat} {x0c : Nat} {x4 : Addr} {x5 : Addr} {x6 : Addr} {ds : List Deferred} (hg : E2 g x0b x0n x0c x4 x5 x6 ds) (hk : K x0b x0n x0c x4 x5 x6 ds h) : D2 K g h := by
  obtain ⟨hg0, hg4, hg5, hg6, hds⟩ := hg
  unfold D2
  rw [hg0, hg4, hg5, hg6, hds]
  exact hk
noncomputable def n2_c1 : Code := cFst n1_c2
noncomputable def n2_c2 : Code := cSnd n1_c2
abbrev n3 (x6 : Addr) (ds : List Deferred) (Kn : T0) (Kr : T0) (h : H) : Prop :=
  stL x6 [(.bool false)] 0 h fun h33 => Kr x6 ds h33
theorem n3_ok (x6 : Addr) (ds : List Deferred) (Kn : T0) (Kr : T0) (g : Env) (hg : E0 g x6 ds) (h : H) (hS : n3 x6 ds Kn Kr h) : wpC none Try.prog 19 n2_c2 (Q0 Kn Kr) g h := by
  obtain ⟨hg6, hds⟩ := hg
  refine wpC_of_wpx (by kernel_rfl) (by kernel_rfl) (g' := (⟨g.v, ds⟩ : Env).upd (some 6) (.pointer (some x6))) (by rw [env_ds hds, upd_self hg6]) ?_
  have e : (n3 x6 ds Kn Kr h) = wpx none Try.prog 19 n2_c2 (Q0 Kn Kr) ((⟨g.v, ds⟩ : Env).upd (some 6) (.pointer (some x6))) h := by kernel_rfl
  exact e ▸ hS
noncomputable def n4_c1 : Code := cFst n2_c1
noncomputable def n4_c2 : Code := cSnd n2_c1
abbrev T3 := Addr → Addr → Addr → Value → (List Deferred) → H → Prop
def E3 (g : Env) (x4 : Addr) (x5 : Addr) (x6 : Addr) (x10 : Value) (ds : List Deferred) : Prop := g.v 4 = (.pointer (some x4)) ∧ g.v 5 = (.pointer (some x5)) ∧ g.v 6 = (.pointer (some x6)) ∧ g.v 10 = x10 ∧ g.ds = ds
def D3 (K : T3) (g : Env) (h : H) : Prop := vAddr (g.v 4) fun a34 => vAddr (g.v 5) fun a35 => vAddr (g.v 6) fun a36 => K a34 a35 a36 (g.v 10) g.ds h
theorem D3_ok {K : T3} {g : Env} {h : H} (hq : D3 K g h) : ∃ (x4 : Addr) (x5 : Addr) (x6 : Addr) (x10 : Value) (ds : List Deferred), E3 g x4 x5 x6 x10 ds ∧ K x4 x5 x6 x10 ds h := by
  obtain ⟨y38, e37, q39⟩ := vAddr_ok hq
  obtain ⟨y41, e40, q42⟩ := vAddr_ok q39
  obtain ⟨y44, e43, q45⟩ := vAddr_ok q42
  exact ⟨y38, y41, y44, (g.v 10), g.ds, ⟨e37, e40, e43, rfl, rfl⟩, q45⟩
theorem D3_mk {K : T3} {g : Env} {h : H} {x4 : Addr} {x5 : Addr} {x6 : Addr} {x10 : Value} {ds : List Deferred} (hg : E3 g x4 x5 x6 x10 ds) (hk : K x4 x5 x6 x10 ds h) : D3 K g h := by
  obtain ⟨hg4, hg5, hg6, hg10, hds⟩ := hg
  unfold D3
  rw [hg4, hg5, hg6, hg10, hds]
  exact hk
noncomputable def n5_c1 : Code := cFst n4_c2
def Q1 (Kn : T0) (Ke0 : T0) (Kr : T0) : XPost
  | .normal, g, h => D0 Kn g h
  | .ret, g, h => D0 Kr g h
  | .exit id, g, h => cond (Nat.beq id 0) (D0 Ke0 g h) (False)
  | _, _, _ => False
noncomputable def n6_c1 : Code := cFst n5_c1
noncomputable def n6_c2 : Code := cSnd n5_c1
def n6_rd (x4 : Addr) (x5 : Addr) (x6 : Addr) (x10 : Value) (ds : List Deferred) (Kn : T0) (Ke0 : T0) (Kr : T0) (h : H) (p11 : Value) (p12_0 : Int) (p12_1 : Int) (p12_2 : List UInt8) (p12_3 : Int) (Mid : H → (H → Prop) → Prop) (Kc : H → H → Prop) (Fin : H → H → (H → Prop) → Prop) (h1 : H) : Prop :=
  newx h1 ⟨[(.int .i64 (0 : Int)), (.int .u8 (0 : Int)), (S ([] : List UInt8)), (.int .u8 (0 : Int))]⟩ 37 fun a46 h47 => stL a46 [(.int .i64 p12_0), (.int .u8 p12_1), (S p12_2), (.int .u8 p12_3)] 0 h47 fun h48 => Mid h48 fun hb49 => ∃ i50, cell hb49 ((a46).add 0) = some (.int .i64 i50) ∧ (∃ i51, cell hb49 ((a46).add 1) = some (.int .u8 i51) ∧ (∃ s52, cell hb49 ((a46).add 2) = some (S s52) ∧ (∃ i53, cell hb49 ((a46).add 3) = some (.int .u8 i53) ∧ (∃ s54b s54n s54c, cell hb49 x5 = some (.slice s54b s54n s54c) ∧ (HCalls Try.prog 26 ⟨[(.agg ⟨[(.int .i64 i50), (.int .u8 i51), (S s52), (.int .u8 i53)]⟩), (.slice s54b s54n s54c)]⟩ hb49 fun v55 h56 => vBool v55 fun b57 => cond b57 (stL x6 [(.bool true)] 0 h56 fun h58 => Fin hb49 h58 fun h59 => Kr x6 (markD h.size :: ds) h59) (∃ i60, cell h56 ((a46).add 0) = some (.int .i64 i60) ∧ (∃ i61, cell h56 ((a46).add 1) = some (.int .u8 i61) ∧ (∃ s62, cell h56 ((a46).add 2) = some (S s62) ∧ (∃ i63, cell h56 ((a46).add 3) = some (.int .u8 i63) ∧ (∃ i64, cell h56 x4 = some (.int .u8 i64) ∧ (HCalls Try.prog 27 ⟨[(.agg ⟨[(.int .i64 i60), (.int .u8 i61), (S s62), (.int .u8 i63)]⟩), (.int .u8 i64)]⟩ h56 fun v65 h66 => vBool v65 fun b67 => cond b67 (Fin hb49 h66 fun h68 => Ke0 x6 (markD h.size :: ds) h68) (Kc hb49 h66))))))))))))
abbrev n6 (x4 : Addr) (x5 : Addr) (x6 : Addr) (x10 : Value) (ds : List Deferred) (Kn : T0) (Ke0 : T0) (Kr : T0) (h : H) : Prop := Ranges Try.prog x10 2 h (fun l69 Mid Kc Fin h1 => uncons l69 fun e70 l71 => uncons l71 fun e72 l73 => vAgg e72 fun l74 => uncons l74 fun e75 l76 => vInt .i64 e75 fun i77 => uncons l76 fun e78 l79 => vInt .u8 e78 fun i80 => uncons l79 fun e81 l82 => vStr e81 fun s83 => uncons l82 fun e84 l85 => vInt .u8 e84 fun i86 => unnil l85 (unnil l73 (n6_rd x4 x5 x6 x10 ds Kn Ke0 Kr h e70 i77 i80 s83 i86 Mid Kc Fin h1))) (fun h4 => Kn x6 (markD h.size :: ds) h4)
theorem n6_ok (x4 : Addr) (x5 : Addr) (x6 : Addr) (x10 : Value) (ds : List Deferred) (Kn : T0) (Ke0 : T0) (Kr : T0) (g : Env) (hg : E3 g x4 x5 x6 x10 ds) (h : H) (hS : n6 x4 x5 x6 x10 ds Kn Ke0 Kr h) : wpC none Try.prog 19 n5_c1 (Q1 Kn Ke0 Kr) g h := by
  obtain ⟨hg4, hg5, hg6, hg10, hds⟩ := hg
  subst hds
  have ho : (((((⟨g.v, g.ds⟩ : Env).upd (some 4) (.pointer (some x4))).upd (some 5) (.pointer (some x5))).upd (some 6) (.pointer (some x6))).upd (some 10) x10 : Env) = g := by rw [env_ds rfl, upd_self hg4, upd_self hg5, upd_self hg6, upd_self hg10]
  have hc : n5_c1 = .rangeFunc (.tmp 10) #[11, 12] n6_c1 n6_c2 := by kernel_rfl
  rw [hc]
  refine wpC_range (f := x10) (rd := (fun l69 Mid Kc Fin h1 => uncons l69 fun e70 l71 => uncons l71 fun e72 l73 => vAgg e72 fun l74 => uncons l74 fun e75 l76 => vInt .i64 e75 fun i77 => uncons l76 fun e78 l79 => vInt .u8 e78 fun i80 => uncons l79 fun e81 l82 => vStr e81 fun s83 => uncons l82 fun e84 l85 => vInt .u8 e84 fun i86 => unnil l85 (unnil l73 (n6_rd x4 x5 x6 x10 g.ds Kn Ke0 Kr h e70 i77 i80 s83 i86 Mid Kc Fin h1)))) (done := (fun h4 => Kn x6 (markD h.size :: g.ds) h4)) ?_ hS ?_ ?_
  · rw [← ho]; kernel_rfl
  · intro h4 hd
    have e : (Kn x6 (markD h.size :: g.ds) h4) = (Q1 Kn Ke0 Kr) .normal ⟨(((((⟨g.v, g.ds⟩ : Env).upd (some 4) (.pointer (some x4))).upd (some 5) (.pointer (some x5))).upd (some 6) (.pointer (some x6))).upd (some 10) x10).v, markD h.size :: g.ds⟩ h4 := by kernel_rfl
    rw [ho] at e
    exact e ▸ hd
  · intro L x Mid Kc Fin h1 hM hx
    obtain ⟨u87, l88, rfl, q89⟩ := uncons_ok hx
    obtain ⟨u90, l91, rfl, q92⟩ := uncons_ok q89
    obtain ⟨l93, rfl, q94⟩ := vAgg_ok q92
    obtain ⟨u95, l96, rfl, q97⟩ := uncons_ok q94
    obtain ⟨y98, rfl, q99⟩ := vInt_ok q97
    obtain ⟨u100, l101, rfl, q102⟩ := uncons_ok q99
    obtain ⟨y103, rfl, q104⟩ := vInt_ok q102
    obtain ⟨u105, l106, rfl, q107⟩ := uncons_ok q104
    obtain ⟨y108, rfl, q109⟩ := vStr_ok q107
    obtain ⟨u110, l111, rfl, q112⟩ := uncons_ok q109
    obtain ⟨y113, rfl, q114⟩ := vInt_ok q112
    obtain ⟨rfl, q115⟩ := unnil_ok q114
    obtain ⟨rfl, q116⟩ := unnil_ok q115
    have e : (n6_rd x4 x5 x6 x10 g.ds Kn Ke0 Kr h u87 y98 y103 y108 y113 Mid Kc Fin h1) = wpx (some L) Try.prog 19 n6_c1 (thenX (fun g1 he => Mid he fun hb => wpx (some L) Try.prog 19 n6_c2 (rpost Kc Fin (Q1 Kn Ke0 Kr) ⟨(((((⟨g.v, g.ds⟩ : Env).upd (some 4) (.pointer (some x4))).upd (some 5) (.pointer (some x5))).upd (some 6) (.pointer (some x6))).upd (some 10) x10).v, markD h.size :: g.ds⟩ hb) g1 hb) fun _ _ _ => False) (setps (((((⟨g.v, g.ds⟩ : Env).upd (some 4) (.pointer (some x4))).upd (some 5) (.pointer (some x5))).upd (some 6) (.pointer (some x6))).upd (some 10) x10) [11, 12] [u87, (.agg ⟨[(.int .i64 y98), (.int .u8 y103), (S y108), (.int .u8 y113)]⟩)]) h1 := by kernel_rfl
    rw [ho] at e
    exact (wpx_ok (by kernel_rfl) _ _ _ _ (by kernel_rfl) (e ▸ q116)).mono (thenX_mono fun g1 he hm => hM he _ _ (fun hb => wpx_ok (by kernel_rfl) _ _ _ _ (by kernel_rfl)) hm)
abbrev n5 (x4 : Addr) (x5 : Addr) (x6 : Addr) (x10 : Value) (ds : List Deferred) (Kn : T0) (Kr : T0) (h : H) : Prop := n6 x4 x5 x6 x10 ds Kn Kn Kr h
theorem n5_ok (x4 : Addr) (x5 : Addr) (x6 : Addr) (x10 : Value) (ds : List Deferred) (Kn : T0) (Kr : T0) (g : Env) (hg : E3 g x4 x5 x6 x10 ds) (h : H) (hS : n5 x4 x5 x6 x10 ds Kn Kr h) : wpC none Try.prog 19 n4_c2 (Q0 Kn Kr) g h := by
  refine wpC_block' (id := 0) (x := n5_c1) (by kernel_rfl) (n6_ok x4 x5 x6 x10 ds Kn Kn Kr g hg h hS) ?_
  intro e g' h' hq
  cases e <;> exact hq
def Q2 (Kn : T3) (Kr : T0) : XPost
  | .normal, g, h => D3 Kn g h
  | .ret, g, h => D0 Kr g h
  | _, _, _ => False
abbrev n4 (x0b : Option Addr) (x0n : Nat) (x0c : Nat) (x4 : Addr) (x5 : Addr) (x6 : Addr) (ds : List Deferred) (Kn : T0) (Kr : T0) (h : H) : Prop :=
  HCalls Try.prog 25 ⟨[(.slice x0b x0n x0c)]⟩ h fun v117 h118 => n5 x4 x5 x6 v117 ds Kn Kr h118
theorem n4_ok (x0b : Option Addr) (x0n : Nat) (x0c : Nat) (x4 : Addr) (x5 : Addr) (x6 : Addr) (ds : List Deferred) (Kn : T0) (Kr : T0) (g : Env) (hg : E2 g x0b x0n x0c x4 x5 x6 ds) (h : H) (hS : n4 x0b x0n x0c x4 x5 x6 ds Kn Kr h) : wpC none Try.prog 19 n2_c1 (Q0 Kn Kr) g h := by
  obtain ⟨hg0, hg4, hg5, hg6, hds⟩ := hg
  refine wpC_seq' (x := n4_c1) (y := n4_c2) (Q' := (Q2 (fun z4 z5 z6 z10 zds h => n5 z4 z5 z6 z10 zds Kn Kr h) Kr)) (by kernel_rfl) ?_ ?_
  · refine wpC_of_wpx (by kernel_rfl) (by kernel_rfl) (g' := ((((⟨g.v, ds⟩ : Env).upd (some 0) (.slice x0b x0n x0c)).upd (some 4) (.pointer (some x4))).upd (some 5) (.pointer (some x5))).upd (some 6) (.pointer (some x6))) (by rw [env_ds hds, upd_self hg0, upd_self hg4, upd_self hg5, upd_self hg6]) ?_
    have e : (n4 x0b x0n x0c x4 x5 x6 ds Kn Kr h) = wpx none Try.prog 19 n4_c1 (Q2 (fun z4 z5 z6 z10 zds h => n5 z4 z5 z6 z10 zds Kn Kr h) Kr) (((((⟨g.v, ds⟩ : Env).upd (some 0) (.slice x0b x0n x0c)).upd (some 4) (.pointer (some x4))).upd (some 5) (.pointer (some x5))).upd (some 6) (.pointer (some x6))) h := by kernel_rfl
    exact e ▸ hS
  · intro e g' h' hq
    cases e with
    | normal =>
      have hq : D3 (fun z4 z5 z6 z10 zds h => n5 z4 z5 z6 z10 zds Kn Kr h) g' h' := hq
      obtain ⟨y4, y5, y6, y10, yds, hg', hq⟩ := D3_ok hq
      exact n5_ok y4 y5 y6 y10 yds Kn Kr g' hg' h' hq
    | _ => exact hq
abbrev n2 (x0b : Option Addr) (x0n : Nat) (x0c : Nat) (x4 : Addr) (x5 : Addr) (x6 : Addr) (ds : List Deferred) (Kn : T0) (Kr : T0) (h : H) : Prop := n4 x0b x0n x0c x4 x5 x6 ds (fun z6 zds h => n3 z6 zds Kn Kr h) Kr h
theorem n2_ok (x0b : Option Addr) (x0n : Nat) (x0c : Nat) (x4 : Addr) (x5 : Addr) (x6 : Addr) (ds : List Deferred) (Kn : T0) (Kr : T0) (g : Env) (hg : E2 g x0b x0n x0c x4 x5 x6 ds) (h : H) (hS : n2 x0b x0n x0c x4 x5 x6 ds Kn Kr h) : wpC none Try.prog 19 n1_c2 (Q0 Kn Kr) g h := by
  refine wpC_seq' (x := n2_c1) (y := n2_c2) (by kernel_rfl) (n4_ok x0b x0n x0c x4 x5 x6 ds (fun z6 zds h => n3 z6 zds Kn Kr h) Kr g hg h hS) ?_
  intro e g' h' hq
  cases e with
  | normal =>
    have hq : D0 (fun z6 zds h => n3 z6 zds Kn Kr h) g' h' := hq
    obtain ⟨y6, yds, hg', hq⟩ := D0_ok hq
    exact n3_ok y6 yds Kn Kr g' hg' h' hq
  | _ => exact hq
def Q3 (Kn : T2) (Kr : T0) : XPost
  | .normal, g, h => D2 Kn g h
  | .ret, g, h => D0 Kr g h
  | _, _, _ => False
abbrev n1 (x0b : Option Addr) (x0n : Nat) (x0c : Nat) (x1 : Int) (x2b : Option Addr) (x2n : Nat) (x2c : Nat) (ds : List Deferred) (Kn : T0) (Kr : T0) (h : H) : Prop :=
  newx h #[(.int .u8 x1)] 5 fun a119 h120 => newx h120 #[(.slice x2b x2n x2c)] 23 fun a121 h122 => newx h122 #[(.bool false)] 4 fun a123 h124 => n2 x0b x0n x0c a119 a121 a123 ds Kn Kr h124
theorem n1_ok (x0b : Option Addr) (x0n : Nat) (x0c : Nat) (x1 : Int) (x2b : Option Addr) (x2n : Nat) (x2c : Nat) (ds : List Deferred) (Kn : T0) (Kr : T0) (g : Env) (hg : E1 g x0b x0n x0c x1 x2b x2n x2c ds) (h : H) (hS : n1 x0b x0n x0c x1 x2b x2n x2c ds Kn Kr h) : wpC none Try.prog 19 code (Q0 Kn Kr) g h := by
  obtain ⟨hg0, hg1, hg2, hds⟩ := hg
  refine wpC_seq' (x := n1_c1) (y := n1_c2) (Q' := (Q3 (fun z0b z0n z0c z4 z5 z6 zds h => n2 z0b z0n z0c z4 z5 z6 zds Kn Kr h) Kr)) (by kernel_rfl) ?_ ?_
  · refine wpC_of_wpx (by kernel_rfl) (by kernel_rfl) (g' := (((⟨g.v, ds⟩ : Env).upd (some 0) (.slice x0b x0n x0c)).upd (some 1) (.int .u8 x1)).upd (some 2) (.slice x2b x2n x2c)) (by rw [env_ds hds, upd_self hg0, upd_self hg1, upd_self hg2]) ?_
    have e : (n1 x0b x0n x0c x1 x2b x2n x2c ds Kn Kr h) = wpx none Try.prog 19 n1_c1 (Q3 (fun z0b z0n z0c z4 z5 z6 zds h => n2 z0b z0n z0c z4 z5 z6 zds Kn Kr h) Kr) ((((⟨g.v, ds⟩ : Env).upd (some 0) (.slice x0b x0n x0c)).upd (some 1) (.int .u8 x1)).upd (some 2) (.slice x2b x2n x2c)) h := by kernel_rfl
    exact e ▸ hS
  · intro e g' h' hq
    cases e with
    | normal =>
      have hq : D2 (fun z0b z0n z0c z4 z5 z6 zds h => n2 z0b z0n z0c z4 z5 z6 zds Kn Kr h) g' h' := hq
      obtain ⟨y0b, y0n, y0c, y4, y5, y6, yds, hg', hq⟩ := D2_ok hq
      exact n2_ok y0b y0n y0c y4 y5 y6 yds Kn Kr g' hg' h' hq
    | _ => exact hq
/-- WHAT tympan/open.In ASKS -/
abbrev asks (x0b : Option Addr) (x0n : Nat) (x0c : Nat) (x1 : Int) (x2b : Option Addr) (x2n : Nat) (x2c : Nat) (K : Value → H → Prop) (h : H) : Prop := n1 x0b x0n x0c x1 x2b x2n x2c [] (fun y6 ds h => leaveX ds h fun h => ∃ b125, cell h y6 = some (.bool b125) ∧ (K (.bool b125) h)) (fun y6 ds h => leaveX ds h fun h => ∃ b125, cell h y6 = some (.bool b125) ∧ (K (.bool b125) h)) h
theorem ok (x0b : Option Addr) (x0n : Nat) (x0c : Nat) (x1 : Int) (x2b : Option Addr) (x2n : Nat) (x2c : Nat) (K : Value → H → Prop) (h : H) (hS : asks x0b x0n x0c x1 x2b x2n x2c K h) : HCalls Try.prog 10 ⟨[(.slice x0b x0n x0c), (.int .u8 x1), (.slice x2b x2n x2c)]⟩ h K := by
  refine calls_of_wpC (c := code) Try.func10 (by kernel_rfl) (Nat.le_of_ble_eq_true (by kernel_rfl)) ?_
  refine (n1_ok x0b x0n x0c x1 x2b x2n x2c [] (fun y6 ds h => leaveX ds h fun h => ∃ b125, cell h y6 = some (.bool b125) ∧ (K (.bool b125) h)) (fun y6 ds h => leaveX ds h fun h => ∃ b125, cell h y6 = some (.bool b125) ∧ (K (.bool b125) h)) (env0 [(.slice x0b x0n x0c), (.int .u8 x1), (.slice x2b x2n x2c)]) ⟨rfl, rfl, rfl, rfl⟩ h hS).mono ?_
  intro e g' h' hq
  cases e with
  | normal =>
    have hq : D0 (fun y6 ds h => leaveX ds h fun h => ∃ b125, cell h y6 = some (.bool b125) ∧ (K (.bool b125) h)) g' h' := hq
    obtain ⟨y6, ds, ⟨hg6, hd⟩, hq⟩ := D0_ok hq
    show leaveX g'.ds h' _
    rw [hd]
    show leaveX ds h' fun h => vAddr (g'.v 6) fun a126 => ldx Try.prog 4 a126 h fun v127 => K v127 h
    rw [hg6]
    exact hq
  | ret =>
    have hq : D0 (fun y6 ds h => leaveX ds h fun h => ∃ b125, cell h y6 = some (.bool b125) ∧ (K (.bool b125) h)) g' h' := hq
    obtain ⟨y6, ds, ⟨hg6, hd⟩, hq⟩ := D0_ok hq
    show leaveX g'.ds h' _
    rw [hd]
    show leaveX ds h' fun h => vAddr (g'.v 6) fun a126 => ldx Try.prog 4 a126 h fun v127 => K v127 h
    rw [hg6]
    exact hq
  | _ => exact hq
end Sx.open_In

/-! ### tympan/tympanref11.In -/
namespace Sx.r11_In
noncomputable def code : Code := bodyOf Try.f11
abbrev T0 := Bool → H → Prop
def E0 (g : Env) (x6 : Bool) : Prop := g.v 6 = (.bool x6) ∧ g.ds = []
def D0 (K : T0) (g : Env) (h : H) : Prop := nilDs g.ds (vBool (g.v 6) fun b1 => K b1 h)
theorem D0_ok {K : T0} {g : Env} {h : H} (hq : D0 K g h) : ∃ (x6 : Bool), E0 g x6 ∧ K x6 h := by
  obtain ⟨hd, hq⟩ := nilDs_ok hq
  obtain ⟨y3, e2, q4⟩ := vBool_ok hq
  exact ⟨y3, ⟨e2, hd⟩, q4⟩
def Q0 (Kn : T0) (Kr : T0) : XPost
  | .normal, g, h => D0 Kn g h
  | .ret, g, h => D0 Kr g h
  | _, _, _ => False
abbrev T1 := (Option Addr) → Nat → Nat → Int → (Option Addr) → Nat → Nat → H → Prop
def E1 (g : Env) (x0b : Option Addr) (x0n : Nat) (x0c : Nat) (x1 : Int) (x2b : Option Addr) (x2n : Nat) (x2c : Nat) : Prop := g.v 0 = (.slice x0b x0n x0c) ∧ g.v 1 = (.int .u8 x1) ∧ g.v 2 = (.slice x2b x2n x2c) ∧ g.ds = []
def D1 (K : T1) (g : Env) (h : H) : Prop := nilDs g.ds (vSlice (g.v 0) fun s5b s5n s5c => vInt .u8 (g.v 1) fun i6 => vSlice (g.v 2) fun s7b s7n s7c => K s5b s5n s5c i6 s7b s7n s7c h)
theorem D1_ok {K : T1} {g : Env} {h : H} (hq : D1 K g h) : ∃ (x0b : Option Addr) (x0n : Nat) (x0c : Nat) (x1 : Int) (x2b : Option Addr) (x2n : Nat) (x2c : Nat), E1 g x0b x0n x0c x1 x2b x2n x2c ∧ K x0b x0n x0c x1 x2b x2n x2c h := by
  obtain ⟨hd, hq⟩ := nilDs_ok hq
  obtain ⟨y9b, y9n, y9c, e8, q10⟩ := vSlice_ok hq
  obtain ⟨y12, e11, q13⟩ := vInt_ok q10
  obtain ⟨y15b, y15n, y15c, e14, q16⟩ := vSlice_ok q13
  exact ⟨y9b, y9n, y9c, y12, y15b, y15n, y15c, ⟨e8, e11, e14, hd⟩, q16⟩
noncomputable def n1_c1 : Code := cFst code
noncomputable def n1_c2 : Code := cSnd code
noncomputable def n2_c1 : Code := cFst n1_c2
noncomputable def n2_c2 : Code := cSnd n1_c2
abbrev T2 := H → Prop
def E2 (g : Env)  : Prop := g.ds = []
def D2 (K : T2) (g : Env) (h : H) : Prop := nilDs g.ds (K h)
theorem D2_ok {K : T2} {g : Env} {h : H} (hq : D2 K g h) : E2 g  ∧ K  h := by
  obtain ⟨hd, hq⟩ := nilDs_ok hq
  skip
  exact ⟨hd, hq⟩
abbrev n3  (Kn : T0) (Kr : T0) (h : H) : Prop :=
  Kr false h
theorem n3_ok  (Kn : T0) (Kr : T0) (g : Env) (hg : E2 g ) (h : H) (hS : n3  Kn Kr h) : wpC none Try.prog 27 n2_c2 (Q0 Kn Kr) g h := by
  have hds : g.ds = [] := hg
  refine wpC_of_wpx (by kernel_rfl) (by kernel_rfl) (g' := ⟨g.v, []⟩) (by rw [env_ds hds]) ?_
  have e : (n3  Kn Kr h) = wpx none Try.prog 27 n2_c2 (Q0 Kn Kr) (⟨g.v, []⟩) h := by kernel_rfl
  exact e ▸ hS
def Q1 (Kn : T2) (Kr : T0) : XPost
  | .normal, g, h => D2 Kn g h
  | .ret, g, h => D0 Kr g h
  | _, _, _ => False
noncomputable def n4_c1 : Code := cFst n2_c1
noncomputable def n4_c2 : Code := cSnd n2_c1
abbrev T3 := (Option Addr) → Nat → Nat → Int → (Option Addr) → Nat → Nat → Int → H → Prop
def E3 (g : Env) (x0b : Option Addr) (x0n : Nat) (x0c : Nat) (x1 : Int) (x2b : Option Addr) (x2n : Nat) (x2c : Nat) (x7 : Int) : Prop := g.v 0 = (.slice x0b x0n x0c) ∧ g.v 1 = (.int .u8 x1) ∧ g.v 2 = (.slice x2b x2n x2c) ∧ g.v 7 = (.int .i64 x7) ∧ g.ds = []
def D3 (K : T3) (g : Env) (h : H) : Prop := nilDs g.ds (vSlice (g.v 0) fun s17b s17n s17c => vInt .u8 (g.v 1) fun i18 => vSlice (g.v 2) fun s19b s19n s19c => vInt .i64 (g.v 7) fun i20 => K s17b s17n s17c i18 s19b s19n s19c i20 h)
theorem D3_ok {K : T3} {g : Env} {h : H} (hq : D3 K g h) : ∃ (x0b : Option Addr) (x0n : Nat) (x0c : Nat) (x1 : Int) (x2b : Option Addr) (x2n : Nat) (x2c : Nat) (x7 : Int), E3 g x0b x0n x0c x1 x2b x2n x2c x7 ∧ K x0b x0n x0c x1 x2b x2n x2c x7 h := by
  obtain ⟨hd, hq⟩ := nilDs_ok hq
  obtain ⟨y22b, y22n, y22c, e21, q23⟩ := vSlice_ok hq
  obtain ⟨y25, e24, q26⟩ := vInt_ok q23
  obtain ⟨y28b, y28n, y28c, e27, q29⟩ := vSlice_ok q26
  obtain ⟨y31, e30, q32⟩ := vInt_ok q29
  exact ⟨y22b, y22n, y22c, y25, y28b, y28n, y28c, y31, ⟨e21, e24, e27, e30, hd⟩, q32⟩
noncomputable def n5_c1 : Code := cFst n4_c2
def Q2 (Kn : T2) (Ke0 : T2) (Kr : T0) : XPost
  | .normal, g, h => D2 Kn g h
  | .ret, g, h => D0 Kr g h
  | .exit id, g, h => cond (Nat.beq id 0) (D2 Ke0 g h) (False)
  | _, _, _ => False
noncomputable def n6_c1 : Code := cFst n5_c1
def Q3 (Kn : T3) (Ke0 : T2) (Kr : T0) : XPost
  | .normal, g, h => D3 Kn g h
  | .ret, g, h => D0 Kr g h
  | .exit id, g, h => cond (Nat.beq id 0) (D2 Ke0 g h) (False)
  | _, _, _ => False
def n6_L (Kn : T2) (Ke0 : T2) (Kr : T0) : Nat → (Option Addr) → Nat → Nat → Int → (Option Addr) → Nat → Nat → Int → H → Prop
  | 0 => fun _ _ _ _ _ _ _ _ _ => False
  | N + 1 => fun x0b x0n x0c x1 x2b x2n x2c x7 h => Spl (x7 ≥ (0 : Int)) ((0 ≤ x7 ∧ x7 < (x0n : Int)) ∧ (vSome x0b fun a33 => ∃ i34, cell h (((a33.add (Int.toNat x7 * 4))).add 0) = some (.int .i64 i34) ∧ (∃ i35, cell h (((a33.add (Int.toNat x7 * 4))).add 1) = some (.int .u8 i35) ∧ (∃ s36, cell h (((a33.add (Int.toNat x7 * 4))).add 2) = some (S s36) ∧ (∃ i37, cell h (((a33.add (Int.toNat x7 * 4))).add 3) = some (.int .u8 i37) ∧ (HCalls Try.prog 28 ⟨[(.agg ⟨[(.int .i64 i34), (.int .u8 i35), (S s36), (.int .u8 i37)]⟩), (.slice x2b x2n x2c)]⟩ h fun v38 h39 => vBool v38 fun b40 => cond b40 (Kr true h39) ((0 ≤ x7 ∧ x7 < (x0n : Int)) ∧ (vSome x0b fun a41 => ∃ i42, cell h39 (((a41.add (Int.toNat x7 * 4))).add 0) = some (.int .i64 i42) ∧ (∃ i43, cell h39 (((a41.add (Int.toNat x7 * 4))).add 1) = some (.int .u8 i43) ∧ (∃ s44, cell h39 (((a41.add (Int.toNat x7 * 4))).add 2) = some (S s44) ∧ (∃ i45, cell h39 (((a41.add (Int.toNat x7 * 4))).add 3) = some (.int .u8 i45) ∧ (HCalls Try.prog 29 ⟨[(.agg ⟨[(.int .i64 i42), (.int .u8 i43), (S s44), (.int .u8 i45)]⟩), (.int .u8 x1)]⟩ h39 fun v46 h47 => vBool v46 fun b48 => cond b48 (Kr false h47) (Rng .i64 (x7 - (1 : Int)) ∧ (n6_L Kn Ke0 Kr N x0b x0n x0c x1 x2b x2n x2c (x7 - (1 : Int)) h47)))))))))))))) (Ke0 h)
abbrev n6 (x0b : Option Addr) (x0n : Nat) (x0c : Nat) (x1 : Int) (x2b : Option Addr) (x2n : Nat) (x2c : Nat) (x7 : Int) (Kn : T2) (Ke0 : T2) (Kr : T0) (h : H) : Prop := ∃ N, n6_L Kn Ke0 Kr N x0b x0n x0c x1 x2b x2n x2c x7 h
theorem n6_ok (x0b : Option Addr) (x0n : Nat) (x0c : Nat) (x1 : Int) (x2b : Option Addr) (x2n : Nat) (x2c : Nat) (x7 : Int) (Kn : T2) (Ke0 : T2) (Kr : T0) (g : Env) (hg : E3 g x0b x0n x0c x1 x2b x2n x2c x7) (h : H) (hS : n6 x0b x0n x0c x1 x2b x2n x2c x7 Kn Ke0 Kr h) : wpC none Try.prog 27 n5_c1 (Q2 Kn Ke0 Kr) g h := by
  obtain ⟨N0, hS⟩ := hS
  refine wpC_loop' (x := n6_c1) (by kernel_rfl) (fun k g h => ∃ (x0b : Option Addr) (x0n : Nat) (x0c : Nat) (x1 : Int) (x2b : Option Addr) (x2n : Nat) (x2c : Nat) (x7 : Int), E3 g x0b x0n x0c x1 x2b x2n x2c x7 ∧ n6_L Kn Ke0 Kr k x0b x0n x0c x1 x2b x2n x2c x7 h) (fun g h hr => ?_) (fun N g h hr => ?_) N0 ⟨x0b, x0n, x0c, x1, x2b, x2n, x2c, x7, hg, hS⟩
  · obtain ⟨x0b, x0n, x0c, x1, x2b, x2n, x2c, x7, hg, hS⟩ := hr
    exact hS.elim
  · obtain ⟨x0b, x0n, x0c, x1, x2b, x2n, x2c, x7, hg, hS⟩ := hr
    have hw : wpC none Try.prog 27 n6_c1 (Q3 (fun z0b z0n z0c z1 z2b z2n z2c z7 h => n6_L Kn Ke0 Kr N z0b z0n z0c z1 z2b z2n z2c z7 h) Ke0 Kr) g h := by
      obtain ⟨hg0, hg1, hg2, hg7, hds⟩ := hg
      refine wpC_of_wpx (by kernel_rfl) (by kernel_rfl) (g' := ((((⟨g.v, []⟩ : Env).upd (some 0) (.slice x0b x0n x0c)).upd (some 1) (.int .u8 x1)).upd (some 2) (.slice x2b x2n x2c)).upd (some 7) (.int .i64 x7)) (by rw [env_ds hds, upd_self hg0, upd_self hg1, upd_self hg2, upd_self hg7]) ?_
      have e : (n6_L Kn Ke0 Kr (N + 1) x0b x0n x0c x1 x2b x2n x2c x7 h) = wpx none Try.prog 27 n6_c1 (Q3 (fun z0b z0n z0c z1 z2b z2n z2c z7 h => n6_L Kn Ke0 Kr N z0b z0n z0c z1 z2b z2n z2c z7 h) Ke0 Kr) (((((⟨g.v, []⟩ : Env).upd (some 0) (.slice x0b x0n x0c)).upd (some 1) (.int .u8 x1)).upd (some 2) (.slice x2b x2n x2c)).upd (some 7) (.int .i64 x7)) h := by kernel_rfl
      exact e ▸ hS
    refine hw.mono ?_
    intro e g' h' hq
    cases e with
    | normal => exact D3_ok (K := (fun z0b z0n z0c z1 z2b z2n z2c z7 h => n6_L Kn Ke0 Kr N z0b z0n z0c z1 z2b z2n z2c z7 h)) hq
    | _ => exact hq
abbrev n5 (x0b : Option Addr) (x0n : Nat) (x0c : Nat) (x1 : Int) (x2b : Option Addr) (x2n : Nat) (x2c : Nat) (x7 : Int) (Kn : T2) (Kr : T0) (h : H) : Prop := n6 x0b x0n x0c x1 x2b x2n x2c x7 Kn Kn Kr h
theorem n5_ok (x0b : Option Addr) (x0n : Nat) (x0c : Nat) (x1 : Int) (x2b : Option Addr) (x2n : Nat) (x2c : Nat) (x7 : Int) (Kn : T2) (Kr : T0) (g : Env) (hg : E3 g x0b x0n x0c x1 x2b x2n x2c x7) (h : H) (hS : n5 x0b x0n x0c x1 x2b x2n x2c x7 Kn Kr h) : wpC none Try.prog 27 n4_c2 (Q1 Kn Kr) g h := by
  refine wpC_block' (id := 0) (x := n5_c1) (by kernel_rfl) (n6_ok x0b x0n x0c x1 x2b x2n x2c x7 Kn Kn Kr g hg h hS) ?_
  intro e g' h' hq
  cases e <;> exact hq
def Q4 (Kn : T3) (Kr : T0) : XPost
  | .normal, g, h => D3 Kn g h
  | .ret, g, h => D0 Kr g h
  | _, _, _ => False
abbrev n4 (x0b : Option Addr) (x0n : Nat) (x0c : Nat) (x1 : Int) (x2b : Option Addr) (x2n : Nat) (x2c : Nat) (Kn : T2) (Kr : T0) (h : H) : Prop :=
  Rng .i64 ((x0n : Int) - (1 : Int)) ∧ (n5 x0b x0n x0c x1 x2b x2n x2c ((x0n : Int) - (1 : Int)) Kn Kr h)
theorem n4_ok (x0b : Option Addr) (x0n : Nat) (x0c : Nat) (x1 : Int) (x2b : Option Addr) (x2n : Nat) (x2c : Nat) (Kn : T2) (Kr : T0) (g : Env) (hg : E1 g x0b x0n x0c x1 x2b x2n x2c) (h : H) (hS : n4 x0b x0n x0c x1 x2b x2n x2c Kn Kr h) : wpC none Try.prog 27 n2_c1 (Q1 Kn Kr) g h := by
  obtain ⟨hg0, hg1, hg2, hds⟩ := hg
  refine wpC_seq' (x := n4_c1) (y := n4_c2) (Q' := (Q4 (fun z0b z0n z0c z1 z2b z2n z2c z7 h => n5 z0b z0n z0c z1 z2b z2n z2c z7 Kn Kr h) Kr)) (by kernel_rfl) ?_ ?_
  · refine wpC_of_wpx (by kernel_rfl) (by kernel_rfl) (g' := (((⟨g.v, []⟩ : Env).upd (some 0) (.slice x0b x0n x0c)).upd (some 1) (.int .u8 x1)).upd (some 2) (.slice x2b x2n x2c)) (by rw [env_ds hds, upd_self hg0, upd_self hg1, upd_self hg2]) ?_
    have e : (n4 x0b x0n x0c x1 x2b x2n x2c Kn Kr h) = wpx none Try.prog 27 n4_c1 (Q4 (fun z0b z0n z0c z1 z2b z2n z2c z7 h => n5 z0b z0n z0c z1 z2b z2n z2c z7 Kn Kr h) Kr) ((((⟨g.v, []⟩ : Env).upd (some 0) (.slice x0b x0n x0c)).upd (some 1) (.int .u8 x1)).upd (some 2) (.slice x2b x2n x2c)) h := by kernel_rfl
    exact e ▸ hS
  · intro e g' h' hq
    cases e with
    | normal =>
      have hq : D3 (fun z0b z0n z0c z1 z2b z2n z2c z7 h => n5 z0b z0n z0c z1 z2b z2n z2c z7 Kn Kr h) g' h' := hq
      obtain ⟨y0b, y0n, y0c, y1, y2b, y2n, y2c, y7, hg', hq⟩ := D3_ok hq
      exact n5_ok y0b y0n y0c y1 y2b y2n y2c y7 Kn Kr g' hg' h' hq
    | _ => exact hq
abbrev n2 (x0b : Option Addr) (x0n : Nat) (x0c : Nat) (x1 : Int) (x2b : Option Addr) (x2n : Nat) (x2c : Nat) (Kn : T0) (Kr : T0) (h : H) : Prop := n4 x0b x0n x0c x1 x2b x2n x2c (fun  h => n3 Kn Kr h) Kr h
theorem n2_ok (x0b : Option Addr) (x0n : Nat) (x0c : Nat) (x1 : Int) (x2b : Option Addr) (x2n : Nat) (x2c : Nat) (Kn : T0) (Kr : T0) (g : Env) (hg : E1 g x0b x0n x0c x1 x2b x2n x2c) (h : H) (hS : n2 x0b x0n x0c x1 x2b x2n x2c Kn Kr h) : wpC none Try.prog 27 n1_c2 (Q0 Kn Kr) g h := by
  refine wpC_seq' (x := n2_c1) (y := n2_c2) (by kernel_rfl) (n4_ok x0b x0n x0c x1 x2b x2n x2c (fun  h => n3 Kn Kr h) Kr g hg h hS) ?_
  intro e g' h' hq
  cases e with
  | normal =>
    have hq : D2 (fun  h => n3 Kn Kr h) g' h' := hq
    obtain ⟨hg', hq⟩ := D2_ok hq
    exact n3_ok  Kn Kr g' hg' h' hq
  | _ => exact hq
def Q5 (Kn : T1) (Kr : T0) : XPost
  | .normal, g, h => D1 Kn g h
  | .ret, g, h => D0 Kr g h
  | _, _, _ => False
abbrev n1 (x0b : Option Addr) (x0n : Nat) (x0c : Nat) (x1 : Int) (x2b : Option Addr) (x2n : Nat) (x2c : Nat) (Kn : T0) (Kr : T0) (h : H) : Prop :=
  n2 x0b x0n x0c x1 x2b x2n x2c Kn Kr h
theorem n1_ok (x0b : Option Addr) (x0n : Nat) (x0c : Nat) (x1 : Int) (x2b : Option Addr) (x2n : Nat) (x2c : Nat) (Kn : T0) (Kr : T0) (g : Env) (hg : E1 g x0b x0n x0c x1 x2b x2n x2c) (h : H) (hS : n1 x0b x0n x0c x1 x2b x2n x2c Kn Kr h) : wpC none Try.prog 27 code (Q0 Kn Kr) g h := by
  obtain ⟨hg0, hg1, hg2, hds⟩ := hg
  refine wpC_seq' (x := n1_c1) (y := n1_c2) (Q' := (Q5 (fun z0b z0n z0c z1 z2b z2n z2c h => n2 z0b z0n z0c z1 z2b z2n z2c Kn Kr h) Kr)) (by kernel_rfl) ?_ ?_
  · refine wpC_of_wpx (by kernel_rfl) (by kernel_rfl) (g' := (((⟨g.v, []⟩ : Env).upd (some 0) (.slice x0b x0n x0c)).upd (some 1) (.int .u8 x1)).upd (some 2) (.slice x2b x2n x2c)) (by rw [env_ds hds, upd_self hg0, upd_self hg1, upd_self hg2]) ?_
    have e : (n1 x0b x0n x0c x1 x2b x2n x2c Kn Kr h) = wpx none Try.prog 27 n1_c1 (Q5 (fun z0b z0n z0c z1 z2b z2n z2c h => n2 z0b z0n z0c z1 z2b z2n z2c Kn Kr h) Kr) ((((⟨g.v, []⟩ : Env).upd (some 0) (.slice x0b x0n x0c)).upd (some 1) (.int .u8 x1)).upd (some 2) (.slice x2b x2n x2c)) h := by kernel_rfl
    exact e ▸ hS
  · intro e g' h' hq
    cases e with
    | normal =>
      have hq : D1 (fun z0b z0n z0c z1 z2b z2n z2c h => n2 z0b z0n z0c z1 z2b z2n z2c Kn Kr h) g' h' := hq
      obtain ⟨y0b, y0n, y0c, y1, y2b, y2n, y2c, hg', hq⟩ := D1_ok hq
      exact n2_ok y0b y0n y0c y1 y2b y2n y2c Kn Kr g' hg' h' hq
    | _ => exact hq
/-- WHAT tympan/tympanref11.In ASKS -/
abbrev asks (x0b : Option Addr) (x0n : Nat) (x0c : Nat) (x1 : Int) (x2b : Option Addr) (x2n : Nat) (x2c : Nat) (K : Value → H → Prop) (h : H) : Prop := n1 x0b x0n x0c x1 x2b x2n x2c (fun y6 h => K (.bool y6) h) (fun y6 h => K (.bool y6) h) h
theorem ok (x0b : Option Addr) (x0n : Nat) (x0c : Nat) (x1 : Int) (x2b : Option Addr) (x2n : Nat) (x2c : Nat) (K : Value → H → Prop) (h : H) (hS : asks x0b x0n x0c x1 x2b x2n x2c K h) : HCalls Try.prog 11 ⟨[(.slice x0b x0n x0c), (.int .u8 x1), (.slice x2b x2n x2c)]⟩ h K := by
  refine calls_of_wpC (c := code) Try.func11 (by kernel_rfl) (Nat.le_of_ble_eq_true (by kernel_rfl)) ?_
  refine (n1_ok x0b x0n x0c x1 x2b x2n x2c (fun y6 h => K (.bool y6) h) (fun y6 h => K (.bool y6) h) (env0 [(.slice x0b x0n x0c), (.int .u8 x1), (.slice x2b x2n x2c)]) ⟨rfl, rfl, rfl, rfl⟩ h hS).mono ?_
  intro e g' h' hq
  cases e with
  | normal =>
    have hq : D0 (fun y6 h => K (.bool y6) h) g' h' := hq
    obtain ⟨y6, ⟨hg6, hd⟩, hq⟩ := D0_ok hq
    show leaveX g'.ds h' _
    rw [hd]
    show K (g'.v 6) h'
    rw [hg6]
    exact hq
  | ret =>
    have hq : D0 (fun y6 h => K (.bool y6) h) g' h' := hq
    obtain ⟨y6, ⟨hg6, hd⟩, hq⟩ := D0_ok hq
    show leaveX g'.ds h' _
    rw [hd]
    show K (g'.v 6) h'
    rw [hg6]
    exact hq
  | _ => exact hq
end Sx.r11_In

/-! ### tympan/open.Special -/
namespace Sx.open_Special
noncomputable def code : Code := bodyOf Try.f12
abbrev T0 := Bool → H → Prop
def E0 (g : Env) (x4 : Bool) : Prop := g.v 4 = (.bool x4) ∧ g.ds = []
def D0 (K : T0) (g : Env) (h : H) : Prop := nilDs g.ds (vBool (g.v 4) fun b1 => K b1 h)
theorem D0_ok {K : T0} {g : Env} {h : H} (hq : D0 K g h) : ∃ (x4 : Bool), E0 g x4 ∧ K x4 h := by
  obtain ⟨hd, hq⟩ := nilDs_ok hq
  obtain ⟨y3, e2, q4⟩ := vBool_ok hq
  exact ⟨y3, ⟨e2, hd⟩, q4⟩
def Q0 (Kn : T0) (Kr : T0) : XPost
  | .normal, g, h => D0 Kn g h
  | .ret, g, h => D0 Kr g h
  | _, _, _ => False
abbrev T1 := Int → (List UInt8) → H → Prop
def E1 (g : Env) (x0 : Int) (x1 : List UInt8) : Prop := g.v 0 = (.int .u8 x0) ∧ g.v 1 = (S x1) ∧ g.ds = []
def D1 (K : T1) (g : Env) (h : H) : Prop := nilDs g.ds (vInt .u8 (g.v 0) fun i5 => vStr (g.v 1) fun s6 => K i5 s6 h)
theorem D1_ok {K : T1} {g : Env} {h : H} (hq : D1 K g h) : ∃ (x0 : Int) (x1 : List UInt8), E1 g x0 x1 ∧ K x0 x1 h := by
  obtain ⟨hd, hq⟩ := nilDs_ok hq
  obtain ⟨y8, e7, q9⟩ := vInt_ok hq
  obtain ⟨y11, e10, q12⟩ := vStr_ok q9
  exact ⟨y8, y11, ⟨e7, e10, hd⟩, q12⟩
noncomputable def n1_c1 : Code := cFst code
noncomputable def n1_c2 : Code := cSnd code
noncomputable def n2_c1 : Code := cFst n1_c2
noncomputable def n2_c2 : Code := cSnd n1_c2
abbrev T2 := H → Prop
def E2 (g : Env)  : Prop := g.ds = []
def D2 (K : T2) (g : Env) (h : H) : Prop := nilDs g.ds (K h)
theorem D2_ok {K : T2} {g : Env} {h : H} (hq : D2 K g h) : E2 g  ∧ K  h := by
  obtain ⟨hd, hq⟩ := nilDs_ok hq
  skip
  exact ⟨hd, hq⟩
abbrev n3  (Kn : T0) (Kr : T0) (h : H) : Prop :=
  Kr false h
theorem n3_ok  (Kn : T0) (Kr : T0) (g : Env) (hg : E2 g ) (h : H) (hS : n3  Kn Kr h) : wpC none Try.prog 18 n2_c2 (Q0 Kn Kr) g h := by
  have hds : g.ds = [] := hg
  refine wpC_of_wpx (by kernel_rfl) (by kernel_rfl) (g' := ⟨g.v, []⟩) (by rw [env_ds hds]) ?_
  have e : (n3  Kn Kr h) = wpx none Try.prog 18 n2_c2 (Q0 Kn Kr) (⟨g.v, []⟩) h := by kernel_rfl
  exact e ▸ hS
def Q1 (Kn : T2) (Kr : T0) : XPost
  | .normal, g, h => D2 Kn g h
  | .ret, g, h => D0 Kr g h
  | _, _, _ => False
noncomputable def n4_c1 : Code := cFst n2_c1
noncomputable def n4_c2 : Code := cSnd n2_c1
abbrev T3 := (List UInt8) → Int → H → Prop
def E3 (g : Env) (x1 : List UInt8) (x5 : Int) : Prop := g.v 1 = (S x1) ∧ g.v 5 = (.int .u8 x5) ∧ g.ds = []
def D3 (K : T3) (g : Env) (h : H) : Prop := nilDs g.ds (vStr (g.v 1) fun s13 => vInt .u8 (g.v 5) fun i14 => K s13 i14 h)
theorem D3_ok {K : T3} {g : Env} {h : H} (hq : D3 K g h) : ∃ (x1 : List UInt8) (x5 : Int), E3 g x1 x5 ∧ K x1 x5 h := by
  obtain ⟨hd, hq⟩ := nilDs_ok hq
  obtain ⟨y16, e15, q17⟩ := vStr_ok hq
  obtain ⟨y19, e18, q20⟩ := vInt_ok q17
  exact ⟨y16, y19, ⟨e15, e18, hd⟩, q20⟩
noncomputable def n5_c1 : Code := cFst n4_c2
def Q2 (Kn : T2) (Ke0 : T2) (Kr : T0) : XPost
  | .normal, g, h => D2 Kn g h
  | .ret, g, h => D0 Kr g h
  | .exit id, g, h => cond (Nat.beq id 0) (D2 Ke0 g h) (False)
  | _, _, _ => False
noncomputable def n6_c1 : Code := cFst n5_c1
noncomputable def n6_c2 : Code := cSnd n5_c1
abbrev T4 := (List UInt8) → Int → Bool → H → Prop
def E4 (g : Env) (x1 : List UInt8) (x5 : Int) (x6 : Bool) : Prop := g.v 1 = (S x1) ∧ g.v 5 = (.int .u8 x5) ∧ g.v 6 = (.bool x6) ∧ g.ds = []
def D4 (K : T4) (g : Env) (h : H) : Prop := nilDs g.ds (vStr (g.v 1) fun s21 => vInt .u8 (g.v 5) fun i22 => vBool (g.v 6) fun b23 => K s21 i22 b23 h)
theorem D4_ok {K : T4} {g : Env} {h : H} (hq : D4 K g h) : ∃ (x1 : List UInt8) (x5 : Int) (x6 : Bool), E4 g x1 x5 x6 ∧ K x1 x5 x6 h := by
  obtain ⟨hd, hq⟩ := nilDs_ok hq
  obtain ⟨y25, e24, q26⟩ := vStr_ok hq
  obtain ⟨y28, e27, q29⟩ := vInt_ok q26
  obtain ⟨y31, e30, q32⟩ := vBool_ok q29
  exact ⟨y25, y28, y31, ⟨e24, e27, e30, hd⟩, q32⟩
abbrev n7 (x1 : List UInt8) (x5 : Int) (x6 : Bool) (Kn : T2) (Ke0 : T2) (Kr : T0) (h : H) : Prop :=
  cond x6 (HCalls Try.prog 30 ⟨[(S ([32, 97, 100, 100, 114, 101, 115, 115, 32, 97, 112, 112, 108, 101, 116, 32, 97, 114, 101, 97, 32, 97, 114, 116, 105, 99, 108, 101, 32, 97, 115, 105, 100, 101, 32, 98, 97, 115, 101, 32, 98, 97, 115, 101, 102, 111, 110, 116, 32, 98, 103, 115, 111, 117, 110, 100, 32, 98, 108, 111, 99, 107, 113, 117, 111, 116, 101, 32, 98, 111, 100, 121, 32, 98, 114, 32, 98, 117, 116, 116, 111, 110, 32, 99, 97, 112, 116, 105, 111, 110, 32, 99, 101, 110, 116, 101, 114, 32, 99, 111, 108, 32, 99, 111, 108, 103, 114, 111, 117, 112, 32, 100, 100, 32, 100, 101, 116, 97, 105, 108, 115, 32, 100, 105, 97, 108, 111, 103, 32, 100, 105, 114, 32, 100, 105, 118, 32, 100, 108, 32, 100, 116, 32, 101, 109, 98, 101, 100, 32, 102, 105, 101, 108, 100, 115, 101, 116, 32, 102, 105, 103, 99, 97, 112, 116, 105, 111, 110, 32, 102, 105, 103, 117, 114, 101, 32, 102, 111, 111, 116, 101, 114, 32, 102, 111, 114, 109, 32, 102, 114, 97, 109, 101, 32, 102, 114, 97, 109, 101, 115, 101, 116, 32, 104, 49, 32, 104, 50, 32, 104, 51, 32, 104, 52, 32, 104, 53, 32, 104, 54, 32, 104, 101, 97, 100, 32, 104, 101, 97, 100, 101, 114, 32, 104, 103, 114, 111, 117, 112, 32, 104, 114, 32, 104, 116, 109, 108, 32, 105, 102, 114, 97, 109, 101, 32, 105, 109, 103, 32, 105, 110, 112, 117, 116, 32, 107, 101, 121, 103, 101, 110, 32, 108, 105, 32, 108, 105, 110, 107, 32, 108, 105, 115, 116, 105, 110, 103, 32, 109, 97, 105, 110, 32, 109, 97, 114, 113, 117, 101, 101, 32, 109, 101, 110, 117, 32, 109, 101, 116, 97, 32, 110, 97, 118, 32, 110, 111, 101, 109, 98, 101, 100, 32, 110, 111, 102, 114, 97, 109, 101, 115, 32, 110, 111, 115, 99, 114, 105, 112, 116, 32, 111, 98, 106, 101, 99, 116, 32, 111, 108, 32, 112, 32, 112, 97, 114, 97, 109, 32, 112, 108, 97, 105, 110, 116, 101, 120, 116, 32, 112, 114, 101, 32, 115, 99, 114, 105, 112, 116, 32, 115, 101, 97, 114, 99, 104, 32, 115, 101, 99, 116, 105, 111, 110, 32, 115, 101, 108, 101, 99, 116, 32, 115, 111, 117, 114, 99, 101, 32, 115, 116, 121, 108, 101, 32, 115, 117, 109, 109, 97, 114, 121, 32, 116, 97, 98, 108, 101, 32, 116, 98, 111, 100, 121, 32, 116, 100, 32, 116, 101, 109, 112, 108, 97, 116, 101, 32, 116, 101, 120, 116, 97, 114, 101, 97, 32, 116, 102, 111, 111, 116, 32, 116, 104, 32, 116, 104, 101, 97, 100, 32, 116, 105, 116, 108, 101, 32, 116, 114, 32, 116, 114, 97, 99, 107, 32, 117, 108, 32, 119, 98, 114, 32, 120, 109, 112, 32] : List UInt8)), (S x1)]⟩ h fun v33 h34 => vBool v33 fun b35 => cond b35 (Kr true h34) (Kr false h34)) (Spl (x5 = (2 : Int)) (HCalls Try.prog 30 ⟨[(S ([32, 97, 110, 110, 111, 116, 97, 116, 105, 111, 110, 45, 120, 109, 108, 32, 109, 105, 32, 109, 110, 32, 109, 111, 32, 109, 115, 32, 109, 116, 101, 120, 116, 32] : List UInt8)), (S x1)]⟩ h fun v36 h37 => vBool v36 fun b38 => cond b38 (Kr true h37) (Kr false h37)) (Spl (x5 = (1 : Int)) (HCalls Try.prog 30 ⟨[(S ([32, 100, 101, 115, 99, 32, 102, 111, 114, 101, 105, 103, 110, 79, 98, 106, 101, 99, 116, 32, 116, 105, 116, 108, 101, 32] : List UInt8)), (S x1)]⟩ h fun v39 h40 => vBool v39 fun b41 => cond b41 (Kr true h40) (Kr false h40)) (Kn h)))
theorem n7_ok (x1 : List UInt8) (x5 : Int) (x6 : Bool) (Kn : T2) (Ke0 : T2) (Kr : T0) (g : Env) (hg : E4 g x1 x5 x6) (h : H) (hS : n7 x1 x5 x6 Kn Ke0 Kr h) : wpC none Try.prog 18 n6_c2 (Q2 Kn Ke0 Kr) g h := by
  obtain ⟨hg1, hg5, hg6, hds⟩ := hg
  refine wpC_of_wpx (by kernel_rfl) (by kernel_rfl) (g' := (((⟨g.v, []⟩ : Env).upd (some 1) (S x1)).upd (some 5) (.int .u8 x5)).upd (some 6) (.bool x6)) (by rw [env_ds hds, upd_self hg1, upd_self hg5, upd_self hg6]) ?_
  have e : (n7 x1 x5 x6 Kn Ke0 Kr h) = wpx none Try.prog 18 n6_c2 (Q2 Kn Ke0 Kr) ((((⟨g.v, []⟩ : Env).upd (some 1) (S x1)).upd (some 5) (.int .u8 x5)).upd (some 6) (.bool x6)) h := by kernel_rfl
  exact e ▸ hS
def Q3 (Kn : T4) (Ke0 : T2) (Kr : T0) : XPost
  | .normal, g, h => D4 Kn g h
  | .ret, g, h => D0 Kr g h
  | .exit id, g, h => cond (Nat.beq id 0) (D2 Ke0 g h) (False)
  | _, _, _ => False
abbrev n6 (x1 : List UInt8) (x5 : Int) (Kn : T2) (Ke0 : T2) (Kr : T0) (h : H) : Prop :=
  Spl (x5 = (0 : Int)) (n7 x1 x5 true Kn Ke0 Kr h) (n7 x1 x5 false Kn Ke0 Kr h)
theorem n6_ok (x1 : List UInt8) (x5 : Int) (Kn : T2) (Ke0 : T2) (Kr : T0) (g : Env) (hg : E3 g x1 x5) (h : H) (hS : n6 x1 x5 Kn Ke0 Kr h) : wpC none Try.prog 18 n5_c1 (Q2 Kn Ke0 Kr) g h := by
  obtain ⟨hg1, hg5, hds⟩ := hg
  refine wpC_seq' (x := n6_c1) (y := n6_c2) (Q' := (Q3 (fun z1 z5 z6 h => n7 z1 z5 z6 Kn Ke0 Kr h) Ke0 Kr)) (by kernel_rfl) ?_ ?_
  · refine wpC_of_wpx (by kernel_rfl) (by kernel_rfl) (g' := ((⟨g.v, []⟩ : Env).upd (some 1) (S x1)).upd (some 5) (.int .u8 x5)) (by rw [env_ds hds, upd_self hg1, upd_self hg5]) ?_
    have e : (n6 x1 x5 Kn Ke0 Kr h) = wpx none Try.prog 18 n6_c1 (Q3 (fun z1 z5 z6 h => n7 z1 z5 z6 Kn Ke0 Kr h) Ke0 Kr) (((⟨g.v, []⟩ : Env).upd (some 1) (S x1)).upd (some 5) (.int .u8 x5)) h := by kernel_rfl
    exact e ▸ hS
  · intro e g' h' hq
    cases e with
    | normal =>
      have hq : D4 (fun z1 z5 z6 h => n7 z1 z5 z6 Kn Ke0 Kr h) g' h' := hq
      obtain ⟨y1, y5, y6, hg', hq⟩ := D4_ok hq
      exact n7_ok y1 y5 y6 Kn Ke0 Kr g' hg' h' hq
    | _ => exact hq
abbrev n5 (x1 : List UInt8) (x5 : Int) (Kn : T2) (Kr : T0) (h : H) : Prop := n6 x1 x5 Kn Kn Kr h
theorem n5_ok (x1 : List UInt8) (x5 : Int) (Kn : T2) (Kr : T0) (g : Env) (hg : E3 g x1 x5) (h : H) (hS : n5 x1 x5 Kn Kr h) : wpC none Try.prog 18 n4_c2 (Q1 Kn Kr) g h := by
  refine wpC_block' (id := 0) (x := n5_c1) (by kernel_rfl) (n6_ok x1 x5 Kn Kn Kr g hg h hS) ?_
  intro e g' h' hq
  cases e <;> exact hq
def Q4 (Kn : T3) (Kr : T0) : XPost
  | .normal, g, h => D3 Kn g h
  | .ret, g, h => D0 Kr g h
  | _, _, _ => False
abbrev n4 (x0 : Int) (x1 : List UInt8) (Kn : T2) (Kr : T0) (h : H) : Prop :=
  n5 x1 x0 Kn Kr h
theorem n4_ok (x0 : Int) (x1 : List UInt8) (Kn : T2) (Kr : T0) (g : Env) (hg : E1 g x0 x1) (h : H) (hS : n4 x0 x1 Kn Kr h) : wpC none Try.prog 18 n2_c1 (Q1 Kn Kr) g h := by
  obtain ⟨hg0, hg1, hds⟩ := hg
  refine wpC_seq' (x := n4_c1) (y := n4_c2) (Q' := (Q4 (fun z1 z5 h => n5 z1 z5 Kn Kr h) Kr)) (by kernel_rfl) ?_ ?_
  · refine wpC_of_wpx (by kernel_rfl) (by kernel_rfl) (g' := ((⟨g.v, []⟩ : Env).upd (some 0) (.int .u8 x0)).upd (some 1) (S x1)) (by rw [env_ds hds, upd_self hg0, upd_self hg1]) ?_
    have e : (n4 x0 x1 Kn Kr h) = wpx none Try.prog 18 n4_c1 (Q4 (fun z1 z5 h => n5 z1 z5 Kn Kr h) Kr) (((⟨g.v, []⟩ : Env).upd (some 0) (.int .u8 x0)).upd (some 1) (S x1)) h := by kernel_rfl
    exact e ▸ hS
  · intro e g' h' hq
    cases e with
    | normal =>
      have hq : D3 (fun z1 z5 h => n5 z1 z5 Kn Kr h) g' h' := hq
      obtain ⟨y1, y5, hg', hq⟩ := D3_ok hq
      exact n5_ok y1 y5 Kn Kr g' hg' h' hq
    | _ => exact hq
abbrev n2 (x0 : Int) (x1 : List UInt8) (Kn : T0) (Kr : T0) (h : H) : Prop := n4 x0 x1 (fun  h => n3 Kn Kr h) Kr h
theorem n2_ok (x0 : Int) (x1 : List UInt8) (Kn : T0) (Kr : T0) (g : Env) (hg : E1 g x0 x1) (h : H) (hS : n2 x0 x1 Kn Kr h) : wpC none Try.prog 18 n1_c2 (Q0 Kn Kr) g h := by
  refine wpC_seq' (x := n2_c1) (y := n2_c2) (by kernel_rfl) (n4_ok x0 x1 (fun  h => n3 Kn Kr h) Kr g hg h hS) ?_
  intro e g' h' hq
  cases e with
  | normal =>
    have hq : D2 (fun  h => n3 Kn Kr h) g' h' := hq
    obtain ⟨hg', hq⟩ := D2_ok hq
    exact n3_ok  Kn Kr g' hg' h' hq
  | _ => exact hq
def Q5 (Kn : T1) (Kr : T0) : XPost
  | .normal, g, h => D1 Kn g h
  | .ret, g, h => D0 Kr g h
  | _, _, _ => False
abbrev n1 (x0 : Int) (x1 : List UInt8) (Kn : T0) (Kr : T0) (h : H) : Prop :=
  n2 x0 x1 Kn Kr h
theorem n1_ok (x0 : Int) (x1 : List UInt8) (Kn : T0) (Kr : T0) (g : Env) (hg : E1 g x0 x1) (h : H) (hS : n1 x0 x1 Kn Kr h) : wpC none Try.prog 18 code (Q0 Kn Kr) g h := by
  obtain ⟨hg0, hg1, hds⟩ := hg
  refine wpC_seq' (x := n1_c1) (y := n1_c2) (Q' := (Q5 (fun z0 z1 h => n2 z0 z1 Kn Kr h) Kr)) (by kernel_rfl) ?_ ?_
  · refine wpC_of_wpx (by kernel_rfl) (by kernel_rfl) (g' := ((⟨g.v, []⟩ : Env).upd (some 0) (.int .u8 x0)).upd (some 1) (S x1)) (by rw [env_ds hds, upd_self hg0, upd_self hg1]) ?_
    have e : (n1 x0 x1 Kn Kr h) = wpx none Try.prog 18 n1_c1 (Q5 (fun z0 z1 h => n2 z0 z1 Kn Kr h) Kr) (((⟨g.v, []⟩ : Env).upd (some 0) (.int .u8 x0)).upd (some 1) (S x1)) h := by kernel_rfl
    exact e ▸ hS
  · intro e g' h' hq
    cases e with
    | normal =>
      have hq : D1 (fun z0 z1 h => n2 z0 z1 Kn Kr h) g' h' := hq
      obtain ⟨y0, y1, hg', hq⟩ := D1_ok hq
      exact n2_ok y0 y1 Kn Kr g' hg' h' hq
    | _ => exact hq
/-- WHAT tympan/open.Special ASKS -/
abbrev asks (x0 : Int) (x1 : List UInt8) (K : Value → H → Prop) (h : H) : Prop := n1 x0 x1 (fun y4 h => K (.bool y4) h) (fun y4 h => K (.bool y4) h) h
theorem ok (x0 : Int) (x1 : List UInt8) (K : Value → H → Prop) (h : H) (hS : asks x0 x1 K h) : HCalls Try.prog 12 ⟨[(.int .u8 x0), (S x1)]⟩ h K := by
  refine calls_of_wpC (c := code) Try.func12 (by kernel_rfl) (Nat.le_of_ble_eq_true (by kernel_rfl)) ?_
  refine (n1_ok x0 x1 (fun y4 h => K (.bool y4) h) (fun y4 h => K (.bool y4) h) (env0 [(.int .u8 x0), (S x1)]) ⟨rfl, rfl, rfl⟩ h hS).mono ?_
  intro e g' h' hq
  cases e with
  | normal =>
    have hq : D0 (fun y4 h => K (.bool y4) h) g' h' := hq
    obtain ⟨y4, ⟨hg4, hd⟩, hq⟩ := D0_ok hq
    show leaveX g'.ds h' _
    rw [hd]
    show K (g'.v 4) h'
    rw [hg4]
    exact hq
  | ret =>
    have hq : D0 (fun y4 h => K (.bool y4) h) g' h' := hq
    obtain ⟨y4, ⟨hg4, hd⟩, hq⟩ := D0_ok hq
    show leaveX g'.ds h' _
    rw [hd]
    show K (g'.v 4) h'
    rw [hg4]
    exact hq
  | _ => exact hq
end Sx.open_Special

/-! ### tympan/tympanref11.Special -/
namespace Sx.r11_Special
noncomputable def code : Code := bodyOf Try.f13
abbrev T0 := Bool → H → Prop
def E0 (g : Env) (x4 : Bool) : Prop := g.v 4 = (.bool x4) ∧ g.ds = []
def D0 (K : T0) (g : Env) (h : H) : Prop := nilDs g.ds (vBool (g.v 4) fun b1 => K b1 h)
theorem D0_ok {K : T0} {g : Env} {h : H} (hq : D0 K g h) : ∃ (x4 : Bool), E0 g x4 ∧ K x4 h := by
  obtain ⟨hd, hq⟩ := nilDs_ok hq
  obtain ⟨y3, e2, q4⟩ := vBool_ok hq
  exact ⟨y3, ⟨e2, hd⟩, q4⟩
def Q0 (Kn : T0) (Kr : T0) : XPost
  | .normal, g, h => D0 Kn g h
  | .ret, g, h => D0 Kr g h
  | _, _, _ => False
abbrev T1 := Int → (List UInt8) → H → Prop
def E1 (g : Env) (x0 : Int) (x1 : List UInt8) : Prop := g.v 0 = (.int .u8 x0) ∧ g.v 1 = (S x1) ∧ g.ds = []
def D1 (K : T1) (g : Env) (h : H) : Prop := nilDs g.ds (vInt .u8 (g.v 0) fun i5 => vStr (g.v 1) fun s6 => K i5 s6 h)
theorem D1_ok {K : T1} {g : Env} {h : H} (hq : D1 K g h) : ∃ (x0 : Int) (x1 : List UInt8), E1 g x0 x1 ∧ K x0 x1 h := by
  obtain ⟨hd, hq⟩ := nilDs_ok hq
  obtain ⟨y8, e7, q9⟩ := vInt_ok hq
  obtain ⟨y11, e10, q12⟩ := vStr_ok q9
  exact ⟨y8, y11, ⟨e7, e10, hd⟩, q12⟩
noncomputable def n1_c1 : Code := cFst code
noncomputable def n1_c2 : Code := cSnd code
noncomputable def n2_c1 : Code := cFst n1_c2
noncomputable def n2_c2 : Code := cSnd n1_c2
abbrev T2 := H → Prop
def E2 (g : Env)  : Prop := g.ds = []
def D2 (K : T2) (g : Env) (h : H) : Prop := nilDs g.ds (K h)
theorem D2_ok {K : T2} {g : Env} {h : H} (hq : D2 K g h) : E2 g  ∧ K  h := by
  obtain ⟨hd, hq⟩ := nilDs_ok hq
  skip
  exact ⟨hd, hq⟩
abbrev n3  (Kn : T0) (Kr : T0) (h : H) : Prop :=
  Kr false h
theorem n3_ok  (Kn : T0) (Kr : T0) (g : Env) (hg : E2 g ) (h : H) (hS : n3  Kn Kr h) : wpC none Try.prog 21 n2_c2 (Q0 Kn Kr) g h := by
  have hds : g.ds = [] := hg
  refine wpC_of_wpx (by kernel_rfl) (by kernel_rfl) (g' := ⟨g.v, []⟩) (by rw [env_ds hds]) ?_
  have e : (n3  Kn Kr h) = wpx none Try.prog 21 n2_c2 (Q0 Kn Kr) (⟨g.v, []⟩) h := by kernel_rfl
  exact e ▸ hS
def Q1 (Kn : T2) (Kr : T0) : XPost
  | .normal, g, h => D2 Kn g h
  | .ret, g, h => D0 Kr g h
  | _, _, _ => False
noncomputable def n4_c1 : Code := cFst n2_c1
noncomputable def n4_c2 : Code := cSnd n2_c1
abbrev T3 := (List UInt8) → Int → H → Prop
def E3 (g : Env) (x1 : List UInt8) (x5 : Int) : Prop := g.v 1 = (S x1) ∧ g.v 5 = (.int .u8 x5) ∧ g.ds = []
def D3 (K : T3) (g : Env) (h : H) : Prop := nilDs g.ds (vStr (g.v 1) fun s13 => vInt .u8 (g.v 5) fun i14 => K s13 i14 h)
theorem D3_ok {K : T3} {g : Env} {h : H} (hq : D3 K g h) : ∃ (x1 : List UInt8) (x5 : Int), E3 g x1 x5 ∧ K x1 x5 h := by
  obtain ⟨hd, hq⟩ := nilDs_ok hq
  obtain ⟨y16, e15, q17⟩ := vStr_ok hq
  obtain ⟨y19, e18, q20⟩ := vInt_ok q17
  exact ⟨y16, y19, ⟨e15, e18, hd⟩, q20⟩
noncomputable def n5_c1 : Code := cFst n4_c2
def Q2 (Kn : T2) (Ke0 : T2) (Kr : T0) : XPost
  | .normal, g, h => D2 Kn g h
  | .ret, g, h => D0 Kr g h
  | .exit id, g, h => cond (Nat.beq id 0) (D2 Ke0 g h) (False)
  | _, _, _ => False
noncomputable def n6_c1 : Code := cFst n5_c1
noncomputable def n6_c2 : Code := cSnd n5_c1
abbrev T4 := (List UInt8) → Int → Bool → H → Prop
def E4 (g : Env) (x1 : List UInt8) (x5 : Int) (x6 : Bool) : Prop := g.v 1 = (S x1) ∧ g.v 5 = (.int .u8 x5) ∧ g.v 6 = (.bool x6) ∧ g.ds = []
def D4 (K : T4) (g : Env) (h : H) : Prop := nilDs g.ds (vStr (g.v 1) fun s21 => vInt .u8 (g.v 5) fun i22 => vBool (g.v 6) fun b23 => K s21 i22 b23 h)
theorem D4_ok {K : T4} {g : Env} {h : H} (hq : D4 K g h) : ∃ (x1 : List UInt8) (x5 : Int) (x6 : Bool), E4 g x1 x5 x6 ∧ K x1 x5 x6 h := by
  obtain ⟨hd, hq⟩ := nilDs_ok hq
  obtain ⟨y25, e24, q26⟩ := vStr_ok hq
  obtain ⟨y28, e27, q29⟩ := vInt_ok q26
  obtain ⟨y31, e30, q32⟩ := vBool_ok q29
  exact ⟨y25, y28, y31, ⟨e24, e27, e30, hd⟩, q32⟩
noncomputable def n7_c1 : Code := cFst n6_c2
noncomputable def n7_c2 : Code := cSnd n6_c2
abbrev T5 := (List UInt8) → H → Prop
def E5 (g : Env) (x1 : List UInt8) : Prop := g.v 1 = (S x1) ∧ g.ds = []
def D5 (K : T5) (g : Env) (h : H) : Prop := nilDs g.ds (vStr (g.v 1) fun s33 => K s33 h)
theorem D5_ok {K : T5} {g : Env} {h : H} (hq : D5 K g h) : ∃ (x1 : List UInt8), E5 g x1 ∧ K x1 h := by
  obtain ⟨hd, hq⟩ := nilDs_ok hq
  obtain ⟨y35, e34, q36⟩ := vStr_ok hq
  exact ⟨y35, ⟨e34, hd⟩, q36⟩
abbrev n8 (x1 : List UInt8) (Kn : T2) (Ke0 : T2) (Kr : T0) (h : H) : Prop :=
  newx h #[(S ([97, 100, 100, 114, 101, 115, 115] : List UInt8)), (S ([97, 112, 112, 108, 101, 116] : List UInt8)), (S ([97, 114, 101, 97] : List UInt8)), (S ([97, 114, 116, 105, 99, 108, 101] : List UInt8)), (S ([97, 115, 105, 100, 101] : List UInt8)), (S ([98, 97, 115, 101] : List UInt8)), (S ([98, 97, 115, 101, 102, 111, 110, 116] : List UInt8)), (S ([98, 103, 115, 111, 117, 110, 100] : List UInt8)), (S ([98, 108, 111, 99, 107, 113, 117, 111, 116, 101] : List UInt8)), (S ([98, 111, 100, 121] : List UInt8)), (S ([98, 114] : List UInt8)), (S ([98, 117, 116, 116, 111, 110] : List UInt8)), (S ([99, 97, 112, 116, 105, 111, 110] : List UInt8)), (S ([99, 101, 110, 116, 101, 114] : List UInt8)), (S ([99, 111, 108] : List UInt8)), (S ([99, 111, 108, 103, 114, 111, 117, 112] : List UInt8)), (S ([100, 100] : List UInt8)), (S ([100, 101, 116, 97, 105, 108, 115] : List UInt8)), (S ([100, 105, 97, 108, 111, 103] : List UInt8)), (S ([100, 105, 114] : List UInt8)), (S ([100, 105, 118] : List UInt8)), (S ([100, 108] : List UInt8)), (S ([100, 116] : List UInt8)), (S ([101, 109, 98, 101, 100] : List UInt8)), (S ([102, 105, 101, 108, 100, 115, 101, 116] : List UInt8)), (S ([102, 105, 103, 99, 97, 112, 116, 105, 111, 110] : List UInt8)), (S ([102, 105, 103, 117, 114, 101] : List UInt8)), (S ([102, 111, 111, 116, 101, 114] : List UInt8)), (S ([102, 111, 114, 109] : List UInt8)), (S ([102, 114, 97, 109, 101] : List UInt8)), (S ([102, 114, 97, 109, 101, 115, 101, 116] : List UInt8)), (S ([104, 49] : List UInt8)), (S ([104, 50] : List UInt8)), (S ([104, 51] : List UInt8)), (S ([104, 52] : List UInt8)), (S ([104, 53] : List UInt8)), (S ([104, 54] : List UInt8)), (S ([104, 101, 97, 100] : List UInt8)), (S ([104, 101, 97, 100, 101, 114] : List UInt8)), (S ([104, 103, 114, 111, 117, 112] : List UInt8)), (S ([104, 114] : List UInt8)), (S ([104, 116, 109, 108] : List UInt8)), (S ([105, 102, 114, 97, 109, 101] : List UInt8)), (S ([105, 109, 103] : List UInt8)), (S ([105, 110, 112, 117, 116] : List UInt8)), (S ([107, 101, 121, 103, 101, 110] : List UInt8)), (S ([108, 105] : List UInt8)), (S ([108, 105, 110, 107] : List UInt8)), (S ([108, 105, 115, 116, 105, 110, 103] : List UInt8)), (S ([109, 97, 105, 110] : List UInt8)), (S ([109, 97, 114, 113, 117, 101, 101] : List UInt8)), (S ([109, 101, 110, 117] : List UInt8)), (S ([109, 101, 116, 97] : List UInt8)), (S ([110, 97, 118] : List UInt8)), (S ([110, 111, 101, 109, 98, 101, 100] : List UInt8)), (S ([110, 111, 102, 114, 97, 109, 101, 115] : List UInt8)), (S ([110, 111, 115, 99, 114, 105, 112, 116] : List UInt8)), (S ([111, 98, 106, 101, 99, 116] : List UInt8)), (S ([111, 108] : List UInt8)), (S ([112] : List UInt8)), (S ([112, 97, 114, 97, 109] : List UInt8)), (S ([112, 108, 97, 105, 110, 116, 101, 120, 116] : List UInt8)), (S ([112, 114, 101] : List UInt8)), (S ([115, 99, 114, 105, 112, 116] : List UInt8)), (S ([115, 101, 97, 114, 99, 104] : List UInt8)), (S ([115, 101, 99, 116, 105, 111, 110] : List UInt8)), (S ([115, 101, 108, 101, 99, 116] : List UInt8)), (S ([115, 111, 117, 114, 99, 101] : List UInt8)), (S ([115, 116, 121, 108, 101] : List UInt8)), (S ([115, 117, 109, 109, 97, 114, 121] : List UInt8)), (S ([116, 97, 98, 108, 101] : List UInt8)), (S ([116, 98, 111, 100, 121] : List UInt8)), (S ([116, 100] : List UInt8)), (S ([116, 101, 109, 112, 108, 97, 116, 101] : List UInt8)), (S ([116, 101, 120, 116, 97, 114, 101, 97] : List UInt8)), (S ([116, 102, 111, 111, 116] : List UInt8)), (S ([116, 104] : List UInt8)), (S ([116, 104, 101, 97, 100] : List UInt8)), (S ([116, 105, 116, 108, 101] : List UInt8)), (S ([116, 114] : List UInt8)), (S ([116, 114, 97, 99, 107] : List UInt8)), (S ([117, 108] : List UInt8)), (S ([119, 98, 114] : List UInt8)), (S ([120, 109, 112] : List UInt8))] 9 fun a37 h38 => HCalls Try.prog 31 ⟨[(.slice (some a37) 84 84), (S x1)]⟩ h38 fun v39 h40 => vBool v39 fun b41 => cond b41 (Kr true h40) (Kr false h40)
theorem n8_ok (x1 : List UInt8) (Kn : T2) (Ke0 : T2) (Kr : T0) (g : Env) (hg : E5 g x1) (h : H) (hS : n8 x1 Kn Ke0 Kr h) : wpC none Try.prog 21 n7_c1 (Q2 Kn Ke0 Kr) g h := by
  obtain ⟨hg1, hds⟩ := hg
  refine wpC_of_wpx (by kernel_rfl) (by kernel_rfl) (g' := (⟨g.v, []⟩ : Env).upd (some 1) (S x1)) (by rw [env_ds hds, upd_self hg1]) ?_
  have e : (n8 x1 Kn Ke0 Kr h) = wpx none Try.prog 21 n7_c1 (Q2 Kn Ke0 Kr) ((⟨g.v, []⟩ : Env).upd (some 1) (S x1)) h := by kernel_rfl
  exact e ▸ hS
noncomputable def n9_c1 : Code := cFst n7_c2
noncomputable def n9_c2 : Code := cSnd n7_c2
abbrev T6 := (List UInt8) → Int → Bool → H → Prop
def E6 (g : Env) (x1 : List UInt8) (x5 : Int) (x11 : Bool) : Prop := g.v 1 = (S x1) ∧ g.v 5 = (.int .u8 x5) ∧ g.v 11 = (.bool x11) ∧ g.ds = []
def D6 (K : T6) (g : Env) (h : H) : Prop := nilDs g.ds (vStr (g.v 1) fun s42 => vInt .u8 (g.v 5) fun i43 => vBool (g.v 11) fun b44 => K s42 i43 b44 h)
theorem D6_ok {K : T6} {g : Env} {h : H} (hq : D6 K g h) : ∃ (x1 : List UInt8) (x5 : Int) (x11 : Bool), E6 g x1 x5 x11 ∧ K x1 x5 x11 h := by
  obtain ⟨hd, hq⟩ := nilDs_ok hq
  obtain ⟨y46, e45, q47⟩ := vStr_ok hq
  obtain ⟨y49, e48, q50⟩ := vInt_ok q47
  obtain ⟨y52, e51, q53⟩ := vBool_ok q50
  exact ⟨y46, y49, y52, ⟨e45, e48, e51, hd⟩, q53⟩
abbrev n10 (x1 : List UInt8) (x5 : Int) (x11 : Bool) (Kn : T2) (Ke0 : T2) (Kr : T0) (h : H) : Prop :=
  cond x11 (newx h #[(S ([97, 110, 110, 111, 116, 97, 116, 105, 111, 110, 45, 120, 109, 108] : List UInt8)), (S ([109, 105] : List UInt8)), (S ([109, 110] : List UInt8)), (S ([109, 111] : List UInt8)), (S ([109, 115] : List UInt8)), (S ([109, 116, 101, 120, 116] : List UInt8))] 9 fun a54 h55 => HCalls Try.prog 31 ⟨[(.slice (some a54) 6 6), (S x1)]⟩ h55 fun v56 h57 => vBool v56 fun b58 => cond b58 (Kr true h57) (Kr false h57)) (Spl (x5 = (1 : Int)) (newx h #[(S ([100, 101, 115, 99] : List UInt8)), (S ([102, 111, 114, 101, 105, 103, 110, 79, 98, 106, 101, 99, 116] : List UInt8)), (S ([116, 105, 116, 108, 101] : List UInt8))] 9 fun a59 h60 => HCalls Try.prog 31 ⟨[(.slice (some a59) 3 3), (S x1)]⟩ h60 fun v61 h62 => vBool v61 fun b63 => cond b63 (Kr true h62) (Kr false h62)) (Kn h))
theorem n10_ok (x1 : List UInt8) (x5 : Int) (x11 : Bool) (Kn : T2) (Ke0 : T2) (Kr : T0) (g : Env) (hg : E6 g x1 x5 x11) (h : H) (hS : n10 x1 x5 x11 Kn Ke0 Kr h) : wpC none Try.prog 21 n9_c2 (Q2 Kn Ke0 Kr) g h := by
  obtain ⟨hg1, hg5, hg11, hds⟩ := hg
  refine wpC_of_wpx (by kernel_rfl) (by kernel_rfl) (g' := (((⟨g.v, []⟩ : Env).upd (some 1) (S x1)).upd (some 5) (.int .u8 x5)).upd (some 11) (.bool x11)) (by rw [env_ds hds, upd_self hg1, upd_self hg5, upd_self hg11]) ?_
  have e : (n10 x1 x5 x11 Kn Ke0 Kr h) = wpx none Try.prog 21 n9_c2 (Q2 Kn Ke0 Kr) ((((⟨g.v, []⟩ : Env).upd (some 1) (S x1)).upd (some 5) (.int .u8 x5)).upd (some 11) (.bool x11)) h := by kernel_rfl
  exact e ▸ hS
def Q3 (Kn : T6) (Ke0 : T2) (Kr : T0) : XPost
  | .normal, g, h => D6 Kn g h
  | .ret, g, h => D0 Kr g h
  | .exit id, g, h => cond (Nat.beq id 0) (D2 Ke0 g h) (False)
  | _, _, _ => False
abbrev n9 (x1 : List UInt8) (x5 : Int) (Kn : T2) (Ke0 : T2) (Kr : T0) (h : H) : Prop :=
  Spl (x5 = (2 : Int)) (n10 x1 x5 true Kn Ke0 Kr h) (n10 x1 x5 false Kn Ke0 Kr h)
theorem n9_ok (x1 : List UInt8) (x5 : Int) (Kn : T2) (Ke0 : T2) (Kr : T0) (g : Env) (hg : E3 g x1 x5) (h : H) (hS : n9 x1 x5 Kn Ke0 Kr h) : wpC none Try.prog 21 n7_c2 (Q2 Kn Ke0 Kr) g h := by
  obtain ⟨hg1, hg5, hds⟩ := hg
  refine wpC_seq' (x := n9_c1) (y := n9_c2) (Q' := (Q3 (fun z1 z5 z11 h => n10 z1 z5 z11 Kn Ke0 Kr h) Ke0 Kr)) (by kernel_rfl) ?_ ?_
  · refine wpC_of_wpx (by kernel_rfl) (by kernel_rfl) (g' := ((⟨g.v, []⟩ : Env).upd (some 1) (S x1)).upd (some 5) (.int .u8 x5)) (by rw [env_ds hds, upd_self hg1, upd_self hg5]) ?_
    have e : (n9 x1 x5 Kn Ke0 Kr h) = wpx none Try.prog 21 n9_c1 (Q3 (fun z1 z5 z11 h => n10 z1 z5 z11 Kn Ke0 Kr h) Ke0 Kr) (((⟨g.v, []⟩ : Env).upd (some 1) (S x1)).upd (some 5) (.int .u8 x5)) h := by kernel_rfl
    exact e ▸ hS
  · intro e g' h' hq
    cases e with
    | normal =>
      have hq : D6 (fun z1 z5 z11 h => n10 z1 z5 z11 Kn Ke0 Kr h) g' h' := hq
      obtain ⟨y1, y5, y11, hg', hq⟩ := D6_ok hq
      exact n10_ok y1 y5 y11 Kn Ke0 Kr g' hg' h' hq
    | _ => exact hq
abbrev n7 (x1 : List UInt8) (x5 : Int) (x6 : Bool) (Kn : T2) (Ke0 : T2) (Kr : T0) (h : H) : Prop := cond x6 (n8 x1 Kn Ke0 Kr h) (n9 x1 x5 Kn Ke0 Kr h)
theorem n7_ok (x1 : List UInt8) (x5 : Int) (x6 : Bool) (Kn : T2) (Ke0 : T2) (Kr : T0) (g : Env) (hg : E4 g x1 x5 x6) (h : H) (hS : n7 x1 x5 x6 Kn Ke0 Kr h) : wpC none Try.prog 21 n6_c2 (Q2 Kn Ke0 Kr) g h := by
  obtain ⟨hg1, hg5, hg6, hds⟩ := hg
  have hx : evalE 21 g (.tmp 6) = .bool x6 := by
    show cond (Nat.blt 6 21) (g.v 6) undef = _
    rw [hg6]; rfl
  unfold n7 at hS
  refine wpC_cond' (o := .tmp 6) (x := n7_c1) (y := n7_c2) (by kernel_rfl) hx (fun hb => ?_) (fun hb => ?_)
  · subst hb
    exact n8_ok x1 Kn Ke0 Kr g ⟨hg1, hds⟩ h hS
  · subst hb
    exact n9_ok x1 x5 Kn Ke0 Kr g ⟨hg1, hg5, hds⟩ h hS
def Q4 (Kn : T4) (Ke0 : T2) (Kr : T0) : XPost
  | .normal, g, h => D4 Kn g h
  | .ret, g, h => D0 Kr g h
  | .exit id, g, h => cond (Nat.beq id 0) (D2 Ke0 g h) (False)
  | _, _, _ => False
abbrev n6 (x1 : List UInt8) (x5 : Int) (Kn : T2) (Ke0 : T2) (Kr : T0) (h : H) : Prop :=
  Spl (x5 = (0 : Int)) (n7 x1 x5 true Kn Ke0 Kr h) (n7 x1 x5 false Kn Ke0 Kr h)
theorem n6_ok (x1 : List UInt8) (x5 : Int) (Kn : T2) (Ke0 : T2) (Kr : T0) (g : Env) (hg : E3 g x1 x5) (h : H) (hS : n6 x1 x5 Kn Ke0 Kr h) : wpC none Try.prog 21 n5_c1 (Q2 Kn Ke0 Kr) g h := by
  obtain ⟨hg1, hg5, hds⟩ := hg
  refine wpC_seq' (x := n6_c1) (y := n6_c2) (Q' := (Q4 (fun z1 z5 z6 h => n7 z1 z5 z6 Kn Ke0 Kr h) Ke0 Kr)) (by kernel_rfl) ?_ ?_
  · refine wpC_of_wpx (by kernel_rfl) (by kernel_rfl) (g' := ((⟨g.v, []⟩ : Env).upd (some 1) (S x1)).upd (some 5) (.int .u8 x5)) (by rw [env_ds hds, upd_self hg1, upd_self hg5]) ?_
    have e : (n6 x1 x5 Kn Ke0 Kr h) = wpx none Try.prog 21 n6_c1 (Q4 (fun z1 z5 z6 h => n7 z1 z5 z6 Kn Ke0 Kr h) Ke0 Kr) (((⟨g.v, []⟩ : Env).upd (some 1) (S x1)).upd (some 5) (.int .u8 x5)) h := by kernel_rfl
    exact e ▸ hS
  · intro e g' h' hq
    cases e with
    | normal =>
      have hq : D4 (fun z1 z5 z6 h => n7 z1 z5 z6 Kn Ke0 Kr h) g' h' := hq
      obtain ⟨y1, y5, y6, hg', hq⟩ := D4_ok hq
      exact n7_ok y1 y5 y6 Kn Ke0 Kr g' hg' h' hq
    | _ => exact hq
abbrev n5 (x1 : List UInt8) (x5 : Int) (Kn : T2) (Kr : T0) (h : H) : Prop := n6 x1 x5 Kn Kn Kr h
theorem n5_ok (x1 : List UInt8) (x5 : Int) (Kn : T2) (Kr : T0) (g : Env) (hg : E3 g x1 x5) (h : H) (hS : n5 x1 x5 Kn Kr h) : wpC none Try.prog 21 n4_c2 (Q1 Kn Kr) g h := by
  refine wpC_block' (id := 0) (x := n5_c1) (by kernel_rfl) (n6_ok x1 x5 Kn Kn Kr g hg h hS) ?_
  intro e g' h' hq
  cases e <;> exact hq
def Q5 (Kn : T3) (Kr : T0) : XPost
  | .normal, g, h => D3 Kn g h
  | .ret, g, h => D0 Kr g h
  | _, _, _ => False
abbrev n4 (x0 : Int) (x1 : List UInt8) (Kn : T2) (Kr : T0) (h : H) : Prop :=
  n5 x1 x0 Kn Kr h
theorem n4_ok (x0 : Int) (x1 : List UInt8) (Kn : T2) (Kr : T0) (g : Env) (hg : E1 g x0 x1) (h : H) (hS : n4 x0 x1 Kn Kr h) : wpC none Try.prog 21 n2_c1 (Q1 Kn Kr) g h := by
  obtain ⟨hg0, hg1, hds⟩ := hg
  refine wpC_seq' (x := n4_c1) (y := n4_c2) (Q' := (Q5 (fun z1 z5 h => n5 z1 z5 Kn Kr h) Kr)) (by kernel_rfl) ?_ ?_
  · refine wpC_of_wpx (by kernel_rfl) (by kernel_rfl) (g' := ((⟨g.v, []⟩ : Env).upd (some 0) (.int .u8 x0)).upd (some 1) (S x1)) (by rw [env_ds hds, upd_self hg0, upd_self hg1]) ?_
    have e : (n4 x0 x1 Kn Kr h) = wpx none Try.prog 21 n4_c1 (Q5 (fun z1 z5 h => n5 z1 z5 Kn Kr h) Kr) (((⟨g.v, []⟩ : Env).upd (some 0) (.int .u8 x0)).upd (some 1) (S x1)) h := by kernel_rfl
    exact e ▸ hS
  · intro e g' h' hq
    cases e with
    | normal =>
      have hq : D3 (fun z1 z5 h => n5 z1 z5 Kn Kr h) g' h' := hq
      obtain ⟨y1, y5, hg', hq⟩ := D3_ok hq
      exact n5_ok y1 y5 Kn Kr g' hg' h' hq
    | _ => exact hq
abbrev n2 (x0 : Int) (x1 : List UInt8) (Kn : T0) (Kr : T0) (h : H) : Prop := n4 x0 x1 (fun  h => n3 Kn Kr h) Kr h
theorem n2_ok (x0 : Int) (x1 : List UInt8) (Kn : T0) (Kr : T0) (g : Env) (hg : E1 g x0 x1) (h : H) (hS : n2 x0 x1 Kn Kr h) : wpC none Try.prog 21 n1_c2 (Q0 Kn Kr) g h := by
  refine wpC_seq' (x := n2_c1) (y := n2_c2) (by kernel_rfl) (n4_ok x0 x1 (fun  h => n3 Kn Kr h) Kr g hg h hS) ?_
  intro e g' h' hq
  cases e with
  | normal =>
    have hq : D2 (fun  h => n3 Kn Kr h) g' h' := hq
    obtain ⟨hg', hq⟩ := D2_ok hq
    exact n3_ok  Kn Kr g' hg' h' hq
  | _ => exact hq
def Q6 (Kn : T1) (Kr : T0) : XPost
  | .normal, g, h => D1 Kn g h
  | .ret, g, h => D0 Kr g h
  | _, _, _ => False
abbrev n1 (x0 : Int) (x1 : List UInt8) (Kn : T0) (Kr : T0) (h : H) : Prop :=
  n2 x0 x1 Kn Kr h
theorem n1_ok (x0 : Int) (x1 : List UInt8) (Kn : T0) (Kr : T0) (g : Env) (hg : E1 g x0 x1) (h : H) (hS : n1 x0 x1 Kn Kr h) : wpC none Try.prog 21 code (Q0 Kn Kr) g h := by
  obtain ⟨hg0, hg1, hds⟩ := hg
  refine wpC_seq' (x := n1_c1) (y := n1_c2) (Q' := (Q6 (fun z0 z1 h => n2 z0 z1 Kn Kr h) Kr)) (by kernel_rfl) ?_ ?_
  · refine wpC_of_wpx (by kernel_rfl) (by kernel_rfl) (g' := ((⟨g.v, []⟩ : Env).upd (some 0) (.int .u8 x0)).upd (some 1) (S x1)) (by rw [env_ds hds, upd_self hg0, upd_self hg1]) ?_
    have e : (n1 x0 x1 Kn Kr h) = wpx none Try.prog 21 n1_c1 (Q6 (fun z0 z1 h => n2 z0 z1 Kn Kr h) Kr) (((⟨g.v, []⟩ : Env).upd (some 0) (.int .u8 x0)).upd (some 1) (S x1)) h := by kernel_rfl
    exact e ▸ hS
  · intro e g' h' hq
    cases e with
    | normal =>
      have hq : D1 (fun z0 z1 h => n2 z0 z1 Kn Kr h) g' h' := hq
      obtain ⟨y0, y1, hg', hq⟩ := D1_ok hq
      exact n2_ok y0 y1 Kn Kr g' hg' h' hq
    | _ => exact hq
/-- WHAT tympan/tympanref11.Special ASKS -/
abbrev asks (x0 : Int) (x1 : List UInt8) (K : Value → H → Prop) (h : H) : Prop := n1 x0 x1 (fun y4 h => K (.bool y4) h) (fun y4 h => K (.bool y4) h) h
theorem ok (x0 : Int) (x1 : List UInt8) (K : Value → H → Prop) (h : H) (hS : asks x0 x1 K h) : HCalls Try.prog 13 ⟨[(.int .u8 x0), (S x1)]⟩ h K := by
  refine calls_of_wpC (c := code) Try.func13 (by kernel_rfl) (Nat.le_of_ble_eq_true (by kernel_rfl)) ?_
  refine (n1_ok x0 x1 (fun y4 h => K (.bool y4) h) (fun y4 h => K (.bool y4) h) (env0 [(.int .u8 x0), (S x1)]) ⟨rfl, rfl, rfl⟩ h hS).mono ?_
  intro e g' h' hq
  cases e with
  | normal =>
    have hq : D0 (fun y4 h => K (.bool y4) h) g' h' := hq
    obtain ⟨y4, ⟨hg4, hd⟩, hq⟩ := D0_ok hq
    show leaveX g'.ds h' _
    rw [hd]
    show K (g'.v 4) h'
    rw [hg4]
    exact hq
  | ret =>
    have hq : D0 (fun y4 h => K (.bool y4) h) g' h' := hq
    obtain ⟨y4, ⟨hg4, hd⟩, hq⟩ := D0_ok hq
    show leaveX g'.ds h' _
    rw [hd]
    show K (g'.v 4) h'
    rw [hg4]
    exact hq
  | _ => exact hq
end Sx.r11_Special

/-! ### tympan/open.Formatting -/
namespace Sx.open_Formatting
noncomputable def code : Code := bodyOf Try.f14
abbrev T0 := Bool → H → Prop
def E0 (g : Env) (x2 : Bool) : Prop := g.v 2 = (.bool x2) ∧ g.ds = []
def D0 (K : T0) (g : Env) (h : H) : Prop := nilDs g.ds (vBool (g.v 2) fun b1 => K b1 h)
theorem D0_ok {K : T0} {g : Env} {h : H} (hq : D0 K g h) : ∃ (x2 : Bool), E0 g x2 ∧ K x2 h := by
  obtain ⟨hd, hq⟩ := nilDs_ok hq
  obtain ⟨y3, e2, q4⟩ := vBool_ok hq
  exact ⟨y3, ⟨e2, hd⟩, q4⟩
def Q0 (Kn : T0) (Kr : T0) : XPost
  | .normal, g, h => D0 Kn g h
  | .ret, g, h => D0 Kr g h
  | _, _, _ => False
abbrev T1 := (List UInt8) → H → Prop
def E1 (g : Env) (x0 : List UInt8) : Prop := g.v 0 = (S x0) ∧ g.ds = []
def D1 (K : T1) (g : Env) (h : H) : Prop := nilDs g.ds (vStr (g.v 0) fun s5 => K s5 h)
theorem D1_ok {K : T1} {g : Env} {h : H} (hq : D1 K g h) : ∃ (x0 : List UInt8), E1 g x0 ∧ K x0 h := by
  obtain ⟨hd, hq⟩ := nilDs_ok hq
  obtain ⟨y7, e6, q8⟩ := vStr_ok hq
  exact ⟨y7, ⟨e6, hd⟩, q8⟩
abbrev n1 (x0 : List UInt8) (Kn : T0) (Kr : T0) (h : H) : Prop :=
  HCalls Try.prog 30 ⟨[(S ([32, 97, 32, 98, 32, 98, 105, 103, 32, 99, 111, 100, 101, 32, 101, 109, 32, 102, 111, 110, 116, 32, 105, 32, 110, 111, 98, 114, 32, 115, 32, 115, 109, 97, 108, 108, 32, 115, 116, 114, 105, 107, 101, 32, 115, 116, 114, 111, 110, 103, 32, 116, 116, 32, 117, 32] : List UInt8)), (S x0)]⟩ h fun v9 h10 => vBool v9 fun b11 => cond b11 (Kr true h10) (Kr false h10)
theorem n1_ok (x0 : List UInt8) (Kn : T0) (Kr : T0) (g : Env) (hg : E1 g x0) (h : H) (hS : n1 x0 Kn Kr h) : wpC none Try.prog 5 code (Q0 Kn Kr) g h := by
  obtain ⟨hg0, hds⟩ := hg
  refine wpC_of_wpx (by kernel_rfl) (by kernel_rfl) (g' := (⟨g.v, []⟩ : Env).upd (some 0) (S x0)) (by rw [env_ds hds, upd_self hg0]) ?_
  have e : (n1 x0 Kn Kr h) = wpx none Try.prog 5 code (Q0 Kn Kr) ((⟨g.v, []⟩ : Env).upd (some 0) (S x0)) h := by kernel_rfl
  exact e ▸ hS
/-- WHAT tympan/open.Formatting ASKS -/
abbrev asks (x0 : List UInt8) (K : Value → H → Prop) (h : H) : Prop := n1 x0 (fun y2 h => K (.bool y2) h) (fun y2 h => K (.bool y2) h) h
theorem ok (x0 : List UInt8) (K : Value → H → Prop) (h : H) (hS : asks x0 K h) : HCalls Try.prog 14 ⟨[(S x0)]⟩ h K := by
  refine calls_of_wpC (c := code) Try.func14 (by kernel_rfl) (Nat.le_of_ble_eq_true (by kernel_rfl)) ?_
  refine (n1_ok x0 (fun y2 h => K (.bool y2) h) (fun y2 h => K (.bool y2) h) (env0 [(S x0)]) ⟨rfl, rfl⟩ h hS).mono ?_
  intro e g' h' hq
  cases e with
  | normal =>
    have hq : D0 (fun y2 h => K (.bool y2) h) g' h' := hq
    obtain ⟨y2, ⟨hg2, hd⟩, hq⟩ := D0_ok hq
    show leaveX g'.ds h' _
    rw [hd]
    show K (g'.v 2) h'
    rw [hg2]
    exact hq
  | ret =>
    have hq : D0 (fun y2 h => K (.bool y2) h) g' h' := hq
    obtain ⟨y2, ⟨hg2, hd⟩, hq⟩ := D0_ok hq
    show leaveX g'.ds h' _
    rw [hd]
    show K (g'.v 2) h'
    rw [hg2]
    exact hq
  | _ => exact hq
end Sx.open_Formatting

/-! ### tympan/tympanref11.Formatting -/
namespace Sx.r11_Formatting
noncomputable def code : Code := bodyOf Try.f15
abbrev T0 := Bool → H → Prop
def E0 (g : Env) (x2 : Bool) : Prop := g.v 2 = (.bool x2) ∧ g.ds = []
def D0 (K : T0) (g : Env) (h : H) : Prop := nilDs g.ds (vBool (g.v 2) fun b1 => K b1 h)
theorem D0_ok {K : T0} {g : Env} {h : H} (hq : D0 K g h) : ∃ (x2 : Bool), E0 g x2 ∧ K x2 h := by
  obtain ⟨hd, hq⟩ := nilDs_ok hq
  obtain ⟨y3, e2, q4⟩ := vBool_ok hq
  exact ⟨y3, ⟨e2, hd⟩, q4⟩
def Q0 (Kn : T0) (Kr : T0) : XPost
  | .normal, g, h => D0 Kn g h
  | .ret, g, h => D0 Kr g h
  | _, _, _ => False
abbrev T1 := (List UInt8) → H → Prop
def E1 (g : Env) (x0 : List UInt8) : Prop := g.v 0 = (S x0) ∧ g.ds = []
def D1 (K : T1) (g : Env) (h : H) : Prop := nilDs g.ds (vStr (g.v 0) fun s5 => K s5 h)
theorem D1_ok {K : T1} {g : Env} {h : H} (hq : D1 K g h) : ∃ (x0 : List UInt8), E1 g x0 ∧ K x0 h := by
  obtain ⟨hd, hq⟩ := nilDs_ok hq
  obtain ⟨y7, e6, q8⟩ := vStr_ok hq
  exact ⟨y7, ⟨e6, hd⟩, q8⟩
abbrev n1 (x0 : List UInt8) (Kn : T0) (Kr : T0) (h : H) : Prop :=
  newx h #[(S ([97] : List UInt8)), (S ([98] : List UInt8)), (S ([98, 105, 103] : List UInt8)), (S ([99, 111, 100, 101] : List UInt8)), (S ([101, 109] : List UInt8)), (S ([102, 111, 110, 116] : List UInt8)), (S ([105] : List UInt8)), (S ([110, 111, 98, 114] : List UInt8)), (S ([115] : List UInt8)), (S ([115, 109, 97, 108, 108] : List UInt8)), (S ([115, 116, 114, 105, 107, 101] : List UInt8)), (S ([115, 116, 114, 111, 110, 103] : List UInt8)), (S ([116, 116] : List UInt8)), (S ([117] : List UInt8))] 9 fun a9 h10 => HCalls Try.prog 31 ⟨[(.slice (some a9) 14 14), (S x0)]⟩ h10 fun v11 h12 => vBool v11 fun b13 => cond b13 (Kr true h12) (Kr false h12)
theorem n1_ok (x0 : List UInt8) (Kn : T0) (Kr : T0) (g : Env) (hg : E1 g x0) (h : H) (hS : n1 x0 Kn Kr h) : wpC none Try.prog 6 code (Q0 Kn Kr) g h := by
  obtain ⟨hg0, hds⟩ := hg
  refine wpC_of_wpx (by kernel_rfl) (by kernel_rfl) (g' := (⟨g.v, []⟩ : Env).upd (some 0) (S x0)) (by rw [env_ds hds, upd_self hg0]) ?_
  have e : (n1 x0 Kn Kr h) = wpx none Try.prog 6 code (Q0 Kn Kr) ((⟨g.v, []⟩ : Env).upd (some 0) (S x0)) h := by kernel_rfl
  exact e ▸ hS
/-- WHAT tympan/tympanref11.Formatting ASKS -/
abbrev asks (x0 : List UInt8) (K : Value → H → Prop) (h : H) : Prop := n1 x0 (fun y2 h => K (.bool y2) h) (fun y2 h => K (.bool y2) h) h
theorem ok (x0 : List UInt8) (K : Value → H → Prop) (h : H) (hS : asks x0 K h) : HCalls Try.prog 15 ⟨[(S x0)]⟩ h K := by
  refine calls_of_wpC (c := code) Try.func15 (by kernel_rfl) (Nat.le_of_ble_eq_true (by kernel_rfl)) ?_
  refine (n1_ok x0 (fun y2 h => K (.bool y2) h) (fun y2 h => K (.bool y2) h) (env0 [(S x0)]) ⟨rfl, rfl⟩ h hS).mono ?_
  intro e g' h' hq
  cases e with
  | normal =>
    have hq : D0 (fun y2 h => K (.bool y2) h) g' h' := hq
    obtain ⟨y2, ⟨hg2, hd⟩, hq⟩ := D0_ok hq
    show leaveX g'.ds h' _
    rw [hd]
    show K (g'.v 2) h'
    rw [hg2]
    exact hq
  | ret =>
    have hq : D0 (fun y2 h => K (.bool y2) h) g' h' := hq
    obtain ⟨y2, ⟨hg2, hd⟩, hq⟩ := D0_ok hq
    show leaveX g'.ds h' _
    rw [hd]
    show K (g'.v 2) h'
    rw [hg2]
    exact hq
  | _ => exact hq
end Sx.r11_Formatting

/-! ### tympan/open.Implied -/
namespace Sx.open_Implied
noncomputable def code : Code := bodyOf Try.f16
abbrev T0 := Addr → (List Deferred) → H → Prop
def E0 (g : Env) (x4 : Addr) (ds : List Deferred) : Prop := g.v 4 = (.pointer (some x4)) ∧ g.ds = ds
def D0 (K : T0) (g : Env) (h : H) : Prop := vAddr (g.v 4) fun a1 => K a1 g.ds h
theorem D0_ok {K : T0} {g : Env} {h : H} (hq : D0 K g h) : ∃ (x4 : Addr) (ds : List Deferred), E0 g x4 ds ∧ K x4 ds h := by
  obtain ⟨y3, e2, q4⟩ := vAddr_ok hq
  exact ⟨y3, g.ds, ⟨e2, rfl⟩, q4⟩
theorem D0_mk {K : T0} {g : Env} {h : H} {x4 : Addr} {ds : List Deferred} (hg : E0 g x4 ds) (hk : K x4 ds h) : D0 K g h := by
  obtain ⟨hg4, hds⟩ := hg
  unfold D0
  rw [hg4, hds]
  exact hk
def Q0 (Kn : T0) (Kr : T0) : XPost
  | .normal, g, h => D0 Kn g h
  | .ret, g, h => D0 Kr g h
  | _, _, _ => False
abbrev T1 := (Option Addr) → Nat → Nat → (List UInt8) → (List Deferred) → H → Prop
def E1 (g : Env) (x0b : Option Addr) (x0n : Nat) (x0c : Nat) (x1 : List UInt8) (ds : List Deferred) : Prop := g.v 0 = (.slice x0b x0n x0c) ∧ g.v 1 = (S x1) ∧ g.ds = ds
def D1 (K : T1) (g : Env) (h : H) : Prop := vSlice (g.v 0) fun s5b s5n s5c => vStr (g.v 1) fun s6 => K s5b s5n s5c s6 g.ds h
theorem D1_ok {K : T1} {g : Env} {h : H} (hq : D1 K g h) : ∃ (x0b : Option Addr) (x0n : Nat) (x0c : Nat) (x1 : List UInt8) (ds : List Deferred), E1 g x0b x0n x0c x1 ds ∧ K x0b x0n x0c x1 ds h := by
  obtain ⟨y8b, y8n, y8c, e7, q9⟩ := vSlice_ok hq
  obtain ⟨y11, e10, q12⟩ := vStr_ok q9
  exact ⟨y8b, y8n, y8c, y11, g.ds, ⟨e7, e10, rfl⟩, q12⟩
theorem D1_mk {K : T1} {g : Env} {h : H} {x0b : Option Addr} {x0n : Nat} {x0c : Nat} {x1 : List UInt8} {ds : List Deferred} (hg : E1 g x0b x0n x0c x1 ds) (hk : K x0b x0n x0c x1 ds h) : D1 K g h := by
  obtain ⟨hg0, hg1, hds⟩ := hg
  unfold D1
  rw [hg0, hg1, hds]
  exact hk
noncomputable def n1_c1 : Code := cFst code
noncomputable def n1_c2 : Code := cSnd code
abbrev T2 := (Option Addr) → Nat → Nat → Addr → Addr → (List Deferred) → H → Prop
def E2 (g : Env) (x0b : Option Addr) (x0n : Nat) (x0c : Nat) (x3 : Addr) (x4 : Addr) (ds : List Deferred) : Prop := g.v 0 = (.slice x0b x0n x0c) ∧ g.v 3 = (.pointer (some x3)) ∧ g.v 4 = (.pointer (some x4)) ∧ g.ds = ds
def D2 (K : T2) (g : Env) (h : H) : Prop := vSlice (g.v 0) fun s13b s13n s13c => vAddr (g.v 3) fun a14 => vAddr (g.v 4) fun a15 => K s13b s13n s13c a14 a15 g.ds h
theorem D2_ok {K : T2} {g : Env} {h : H} (hq : D2 K g h) : ∃ (x0b : Option Addr) (x0n : Nat) (x0c : Nat) (x3 : Addr) (x4 : Addr) (ds : List Deferred), E2 g x0b x0n x0c x3 x4 ds ∧ K x0b x0n x0c x3 x4 ds h := by
  obtain ⟨y17b, y17n, y17c, e16, q18⟩ := vSlice_ok hq
  obtain ⟨y20, e19, q21⟩ := vAddr_ok q18
  obtain ⟨y23, e22, q24⟩ := vAddr_ok q21
  exact ⟨y17b, y17n, y17c, y20, y23, g.ds, ⟨e16, e19, e22, rfl⟩, q24⟩
theorem D2_mk {K : T2} {g : Env} {h : H} {x0b : Option Addr} {x0n : Nat} {x0c : Nat} {x3 : Addr} {x4 : Addr} {ds : List Deferred} (hg : E2 g x0b x0n x0c x3 x4 ds) (hk : K x0b x0n x0c x3 x4 ds h) : D2 K g h := by
  obtain ⟨hg0, hg3, hg4, hds⟩ := hg
  unfold D2
  rw [hg0, hg3, hg4, hds]
  exact hk
noncomputable def n2_c1 : Code := cFst n1_c2
noncomputable def n2_c2 : Code := cSnd n1_c2
abbrev n3 (x4 : Addr) (ds : List Deferred) (Kn : T0) (Kr : T0) (h : H) : Prop :=
  stL x4 [(.int .i64 (0 : Int))] 0 h fun h25 => Kr x4 ds h25
theorem n3_ok (x4 : Addr) (ds : List Deferred) (Kn : T0) (Kr : T0) (g : Env) (hg : E0 g x4 ds) (h : H) (hS : n3 x4 ds Kn Kr h) : wpC none Try.prog 28 n2_c2 (Q0 Kn Kr) g h := by
  obtain ⟨hg4, hds⟩ := hg
  refine wpC_of_wpx (by kernel_rfl) (by kernel_rfl) (g' := (⟨g.v, ds⟩ : Env).upd (some 4) (.pointer (some x4))) (by rw [env_ds hds, upd_self hg4]) ?_
  have e : (n3 x4 ds Kn Kr h) = wpx none Try.prog 28 n2_c2 (Q0 Kn Kr) ((⟨g.v, ds⟩ : Env).upd (some 4) (.pointer (some x4))) h := by kernel_rfl
  exact e ▸ hS
noncomputable def n4_c1 : Code := cFst n2_c1
noncomputable def n4_c2 : Code := cSnd n2_c1
abbrev T3 := Addr → Addr → Value → (List Deferred) → H → Prop
def E3 (g : Env) (x3 : Addr) (x4 : Addr) (x8 : Value) (ds : List Deferred) : Prop := g.v 3 = (.pointer (some x3)) ∧ g.v 4 = (.pointer (some x4)) ∧ g.v 8 = x8 ∧ g.ds = ds
def D3 (K : T3) (g : Env) (h : H) : Prop := vAddr (g.v 3) fun a26 => vAddr (g.v 4) fun a27 => K a26 a27 (g.v 8) g.ds h
theorem D3_ok {K : T3} {g : Env} {h : H} (hq : D3 K g h) : ∃ (x3 : Addr) (x4 : Addr) (x8 : Value) (ds : List Deferred), E3 g x3 x4 x8 ds ∧ K x3 x4 x8 ds h := by
  obtain ⟨y29, e28, q30⟩ := vAddr_ok hq
  obtain ⟨y32, e31, q33⟩ := vAddr_ok q30
  exact ⟨y29, y32, (g.v 8), g.ds, ⟨e28, e31, rfl, rfl⟩, q33⟩
theorem D3_mk {K : T3} {g : Env} {h : H} {x3 : Addr} {x4 : Addr} {x8 : Value} {ds : List Deferred} (hg : E3 g x3 x4 x8 ds) (hk : K x3 x4 x8 ds h) : D3 K g h := by
  obtain ⟨hg3, hg4, hg8, hds⟩ := hg
  unfold D3
  rw [hg3, hg4, hg8, hds]
  exact hk
noncomputable def n5_c1 : Code := cFst n4_c2
def Q1 (Kn : T0) (Ke0 : T0) (Kr : T0) : XPost
  | .normal, g, h => D0 Kn g h
  | .ret, g, h => D0 Kr g h
  | .exit id, g, h => cond (Nat.beq id 0) (D0 Ke0 g h) (False)
  | _, _, _ => False
noncomputable def n6_c1 : Code := cFst n5_c1
noncomputable def n6_c2 : Code := cSnd n5_c1
def n6_rd (x3 : Addr) (x4 : Addr) (x8 : Value) (ds : List Deferred) (Kn : T0) (Ke0 : T0) (Kr : T0) (h : H) (p9 : Int) (p10_0 : Int) (p10_1 : Int) (p10_2 : List UInt8) (p10_3 : Int) (Mid : H → (H → Prop) → Prop) (Kc : H → H → Prop) (Fin : H → H → (H → Prop) → Prop) (h1 : H) : Prop :=
  newx h1 ⟨[(.int .i64 (0 : Int)), (.int .u8 (0 : Int)), (S ([] : List UInt8)), (.int .u8 (0 : Int))]⟩ 37 fun a34 h35 => stL a34 [(.int .i64 p10_0), (.int .u8 p10_1), (S p10_2), (.int .u8 p10_3)] 0 h35 fun h36 => Mid h36 fun hb37 => ∃ i38, cell hb37 (a34.add 1) = some (.int .u8 i38) ∧ (Spl (i38 = (0 : Int)) (∃ s39, cell hb37 (a34.add 2) = some (S s39) ∧ (∃ s40, cell hb37 x3 = some (S s40) ∧ (Spl (s39 = s40) (Rng .i64 (p9 + (1 : Int)) ∧ (stL x4 [(.int .i64 (p9 + (1 : Int)))] 0 hb37 fun h41 => Fin hb37 h41 fun h42 => Kr x4 (markD h.size :: ds) h42)) (∃ s43, cell hb37 (a34.add 2) = some (S s43) ∧ (HCalls Try.prog 30 ⟨[(S ([32, 100, 100, 32, 100, 116, 32, 108, 105, 32, 111, 112, 116, 103, 114, 111, 117, 112, 32, 111, 112, 116, 105, 111, 110, 32, 112, 32, 114, 98, 32, 114, 112, 32, 114, 116, 32, 114, 116, 99, 32] : List UInt8)), (S s43)]⟩ hb37 fun v44 h45 => vBool v44 fun b46 => cond b46 (Kc hb37 h45) (Rng .i64 (p9 + (1 : Int)) ∧ (stL x4 [(.int .i64 (p9 + (1 : Int)))] 0 h45 fun h47 => Fin hb37 h47 fun h48 => Kr x4 (markD h.size :: ds) h48))))))) (Rng .i64 (p9 + (1 : Int)) ∧ (stL x4 [(.int .i64 (p9 + (1 : Int)))] 0 hb37 fun h49 => Fin hb37 h49 fun h50 => Kr x4 (markD h.size :: ds) h50)))
abbrev n6 (x3 : Addr) (x4 : Addr) (x8 : Value) (ds : List Deferred) (Kn : T0) (Ke0 : T0) (Kr : T0) (h : H) : Prop := Ranges Try.prog x8 2 h (fun l51 Mid Kc Fin h1 => uncons l51 fun e52 l53 => vInt .i64 e52 fun i54 => uncons l53 fun e55 l56 => vAgg e55 fun l57 => uncons l57 fun e58 l59 => vInt .i64 e58 fun i60 => uncons l59 fun e61 l62 => vInt .u8 e61 fun i63 => uncons l62 fun e64 l65 => vStr e64 fun s66 => uncons l65 fun e67 l68 => vInt .u8 e67 fun i69 => unnil l68 (unnil l56 (n6_rd x3 x4 x8 ds Kn Ke0 Kr h i54 i60 i63 s66 i69 Mid Kc Fin h1))) (fun h4 => Kn x4 (markD h.size :: ds) h4)
theorem n6_ok (x3 : Addr) (x4 : Addr) (x8 : Value) (ds : List Deferred) (Kn : T0) (Ke0 : T0) (Kr : T0) (g : Env) (hg : E3 g x3 x4 x8 ds) (h : H) (hS : n6 x3 x4 x8 ds Kn Ke0 Kr h) : wpC none Try.prog 28 n5_c1 (Q1 Kn Ke0 Kr) g h := by
  obtain ⟨hg3, hg4, hg8, hds⟩ := hg
  subst hds
  have ho : ((((⟨g.v, g.ds⟩ : Env).upd (some 3) (.pointer (some x3))).upd (some 4) (.pointer (some x4))).upd (some 8) x8 : Env) = g := by rw [env_ds rfl, upd_self hg3, upd_self hg4, upd_self hg8]
  have hc : n5_c1 = .rangeFunc (.tmp 8) #[9, 10] n6_c1 n6_c2 := by kernel_rfl
  rw [hc]
  refine wpC_range (f := x8) (rd := (fun l51 Mid Kc Fin h1 => uncons l51 fun e52 l53 => vInt .i64 e52 fun i54 => uncons l53 fun e55 l56 => vAgg e55 fun l57 => uncons l57 fun e58 l59 => vInt .i64 e58 fun i60 => uncons l59 fun e61 l62 => vInt .u8 e61 fun i63 => uncons l62 fun e64 l65 => vStr e64 fun s66 => uncons l65 fun e67 l68 => vInt .u8 e67 fun i69 => unnil l68 (unnil l56 (n6_rd x3 x4 x8 g.ds Kn Ke0 Kr h i54 i60 i63 s66 i69 Mid Kc Fin h1)))) (done := (fun h4 => Kn x4 (markD h.size :: g.ds) h4)) ?_ hS ?_ ?_
  · rw [← ho]; kernel_rfl
  · intro h4 hd
    have e : (Kn x4 (markD h.size :: g.ds) h4) = (Q1 Kn Ke0 Kr) .normal ⟨((((⟨g.v, g.ds⟩ : Env).upd (some 3) (.pointer (some x3))).upd (some 4) (.pointer (some x4))).upd (some 8) x8).v, markD h.size :: g.ds⟩ h4 := by kernel_rfl
    rw [ho] at e
    exact e ▸ hd
  · intro L x Mid Kc Fin h1 hM hx
    obtain ⟨u70, l71, rfl, q72⟩ := uncons_ok hx
    obtain ⟨y73, rfl, q74⟩ := vInt_ok q72
    obtain ⟨u75, l76, rfl, q77⟩ := uncons_ok q74
    obtain ⟨l78, rfl, q79⟩ := vAgg_ok q77
    obtain ⟨u80, l81, rfl, q82⟩ := uncons_ok q79
    obtain ⟨y83, rfl, q84⟩ := vInt_ok q82
    obtain ⟨u85, l86, rfl, q87⟩ := uncons_ok q84
    obtain ⟨y88, rfl, q89⟩ := vInt_ok q87
    obtain ⟨u90, l91, rfl, q92⟩ := uncons_ok q89
    obtain ⟨y93, rfl, q94⟩ := vStr_ok q92
    obtain ⟨u95, l96, rfl, q97⟩ := uncons_ok q94
    obtain ⟨y98, rfl, q99⟩ := vInt_ok q97
    obtain ⟨rfl, q100⟩ := unnil_ok q99
    obtain ⟨rfl, q101⟩ := unnil_ok q100
    have e : (n6_rd x3 x4 x8 g.ds Kn Ke0 Kr h y73 y83 y88 y93 y98 Mid Kc Fin h1) = wpx (some L) Try.prog 28 n6_c1 (thenX (fun g1 he => Mid he fun hb => wpx (some L) Try.prog 28 n6_c2 (rpost Kc Fin (Q1 Kn Ke0 Kr) ⟨((((⟨g.v, g.ds⟩ : Env).upd (some 3) (.pointer (some x3))).upd (some 4) (.pointer (some x4))).upd (some 8) x8).v, markD h.size :: g.ds⟩ hb) g1 hb) fun _ _ _ => False) (setps ((((⟨g.v, g.ds⟩ : Env).upd (some 3) (.pointer (some x3))).upd (some 4) (.pointer (some x4))).upd (some 8) x8) [9, 10] [(.int .i64 y73), (.agg ⟨[(.int .i64 y83), (.int .u8 y88), (S y93), (.int .u8 y98)]⟩)]) h1 := by kernel_rfl
    rw [ho] at e
    exact (wpx_ok (by kernel_rfl) _ _ _ _ (by kernel_rfl) (e ▸ q101)).mono (thenX_mono fun g1 he hm => hM he _ _ (fun hb => wpx_ok (by kernel_rfl) _ _ _ _ (by kernel_rfl)) hm)
abbrev n5 (x3 : Addr) (x4 : Addr) (x8 : Value) (ds : List Deferred) (Kn : T0) (Kr : T0) (h : H) : Prop := n6 x3 x4 x8 ds Kn Kn Kr h
theorem n5_ok (x3 : Addr) (x4 : Addr) (x8 : Value) (ds : List Deferred) (Kn : T0) (Kr : T0) (g : Env) (hg : E3 g x3 x4 x8 ds) (h : H) (hS : n5 x3 x4 x8 ds Kn Kr h) : wpC none Try.prog 28 n4_c2 (Q0 Kn Kr) g h := by
  refine wpC_block' (id := 0) (x := n5_c1) (by kernel_rfl) (n6_ok x3 x4 x8 ds Kn Kn Kr g hg h hS) ?_
  intro e g' h' hq
  cases e <;> exact hq
def Q2 (Kn : T3) (Kr : T0) : XPost
  | .normal, g, h => D3 Kn g h
  | .ret, g, h => D0 Kr g h
  | _, _, _ => False
abbrev n4 (x0b : Option Addr) (x0n : Nat) (x0c : Nat) (x3 : Addr) (x4 : Addr) (ds : List Deferred) (Kn : T0) (Kr : T0) (h : H) : Prop :=
  HCalls Try.prog 25 ⟨[(.slice x0b x0n x0c)]⟩ h fun v102 h103 => n5 x3 x4 v102 ds Kn Kr h103
theorem n4_ok (x0b : Option Addr) (x0n : Nat) (x0c : Nat) (x3 : Addr) (x4 : Addr) (ds : List Deferred) (Kn : T0) (Kr : T0) (g : Env) (hg : E2 g x0b x0n x0c x3 x4 ds) (h : H) (hS : n4 x0b x0n x0c x3 x4 ds Kn Kr h) : wpC none Try.prog 28 n2_c1 (Q0 Kn Kr) g h := by
  obtain ⟨hg0, hg3, hg4, hds⟩ := hg
  refine wpC_seq' (x := n4_c1) (y := n4_c2) (Q' := (Q2 (fun z3 z4 z8 zds h => n5 z3 z4 z8 zds Kn Kr h) Kr)) (by kernel_rfl) ?_ ?_
  · refine wpC_of_wpx (by kernel_rfl) (by kernel_rfl) (g' := (((⟨g.v, ds⟩ : Env).upd (some 0) (.slice x0b x0n x0c)).upd (some 3) (.pointer (some x3))).upd (some 4) (.pointer (some x4))) (by rw [env_ds hds, upd_self hg0, upd_self hg3, upd_self hg4]) ?_
    have e : (n4 x0b x0n x0c x3 x4 ds Kn Kr h) = wpx none Try.prog 28 n4_c1 (Q2 (fun z3 z4 z8 zds h => n5 z3 z4 z8 zds Kn Kr h) Kr) ((((⟨g.v, ds⟩ : Env).upd (some 0) (.slice x0b x0n x0c)).upd (some 3) (.pointer (some x3))).upd (some 4) (.pointer (some x4))) h := by kernel_rfl
    exact e ▸ hS
  · intro e g' h' hq
    cases e with
    | normal =>
      have hq : D3 (fun z3 z4 z8 zds h => n5 z3 z4 z8 zds Kn Kr h) g' h' := hq
      obtain ⟨y3, y4, y8, yds, hg', hq⟩ := D3_ok hq
      exact n5_ok y3 y4 y8 yds Kn Kr g' hg' h' hq
    | _ => exact hq
abbrev n2 (x0b : Option Addr) (x0n : Nat) (x0c : Nat) (x3 : Addr) (x4 : Addr) (ds : List Deferred) (Kn : T0) (Kr : T0) (h : H) : Prop := n4 x0b x0n x0c x3 x4 ds (fun z4 zds h => n3 z4 zds Kn Kr h) Kr h
theorem n2_ok (x0b : Option Addr) (x0n : Nat) (x0c : Nat) (x3 : Addr) (x4 : Addr) (ds : List Deferred) (Kn : T0) (Kr : T0) (g : Env) (hg : E2 g x0b x0n x0c x3 x4 ds) (h : H) (hS : n2 x0b x0n x0c x3 x4 ds Kn Kr h) : wpC none Try.prog 28 n1_c2 (Q0 Kn Kr) g h := by
  refine wpC_seq' (x := n2_c1) (y := n2_c2) (by kernel_rfl) (n4_ok x0b x0n x0c x3 x4 ds (fun z4 zds h => n3 z4 zds Kn Kr h) Kr g hg h hS) ?_
  intro e g' h' hq
  cases e with
  | normal =>
    have hq : D0 (fun z4 zds h => n3 z4 zds Kn Kr h) g' h' := hq
    obtain ⟨y4, yds, hg', hq⟩ := D0_ok hq
    exact n3_ok y4 yds Kn Kr g' hg' h' hq
  | _ => exact hq
def Q3 (Kn : T2) (Kr : T0) : XPost
  | .normal, g, h => D2 Kn g h
  | .ret, g, h => D0 Kr g h
  | _, _, _ => False
abbrev n1 (x0b : Option Addr) (x0n : Nat) (x0c : Nat) (x1 : List UInt8) (ds : List Deferred) (Kn : T0) (Kr : T0) (h : H) : Prop :=
  newx h #[(S x1)] 9 fun a104 h105 => newx h105 #[(.int .i64 (0 : Int))] 3 fun a106 h107 => n2 x0b x0n x0c a104 a106 ds Kn Kr h107
theorem n1_ok (x0b : Option Addr) (x0n : Nat) (x0c : Nat) (x1 : List UInt8) (ds : List Deferred) (Kn : T0) (Kr : T0) (g : Env) (hg : E1 g x0b x0n x0c x1 ds) (h : H) (hS : n1 x0b x0n x0c x1 ds Kn Kr h) : wpC none Try.prog 28 code (Q0 Kn Kr) g h := by
  obtain ⟨hg0, hg1, hds⟩ := hg
  refine wpC_seq' (x := n1_c1) (y := n1_c2) (Q' := (Q3 (fun z0b z0n z0c z3 z4 zds h => n2 z0b z0n z0c z3 z4 zds Kn Kr h) Kr)) (by kernel_rfl) ?_ ?_
  · refine wpC_of_wpx (by kernel_rfl) (by kernel_rfl) (g' := ((⟨g.v, ds⟩ : Env).upd (some 0) (.slice x0b x0n x0c)).upd (some 1) (S x1)) (by rw [env_ds hds, upd_self hg0, upd_self hg1]) ?_
    have e : (n1 x0b x0n x0c x1 ds Kn Kr h) = wpx none Try.prog 28 n1_c1 (Q3 (fun z0b z0n z0c z3 z4 zds h => n2 z0b z0n z0c z3 z4 zds Kn Kr h) Kr) (((⟨g.v, ds⟩ : Env).upd (some 0) (.slice x0b x0n x0c)).upd (some 1) (S x1)) h := by kernel_rfl
    exact e ▸ hS
  · intro e g' h' hq
    cases e with
    | normal =>
      have hq : D2 (fun z0b z0n z0c z3 z4 zds h => n2 z0b z0n z0c z3 z4 zds Kn Kr h) g' h' := hq
      obtain ⟨y0b, y0n, y0c, y3, y4, yds, hg', hq⟩ := D2_ok hq
      exact n2_ok y0b y0n y0c y3 y4 yds Kn Kr g' hg' h' hq
    | _ => exact hq
/-- WHAT tympan/open.Implied ASKS -/
abbrev asks (x0b : Option Addr) (x0n : Nat) (x0c : Nat) (x1 : List UInt8) (K : Value → H → Prop) (h : H) : Prop := n1 x0b x0n x0c x1 [] (fun y4 ds h => leaveX ds h fun h => ∃ i108, cell h y4 = some (.int .i64 i108) ∧ (K (.int .i64 i108) h)) (fun y4 ds h => leaveX ds h fun h => ∃ i108, cell h y4 = some (.int .i64 i108) ∧ (K (.int .i64 i108) h)) h
theorem ok (x0b : Option Addr) (x0n : Nat) (x0c : Nat) (x1 : List UInt8) (K : Value → H → Prop) (h : H) (hS : asks x0b x0n x0c x1 K h) : HCalls Try.prog 16 ⟨[(.slice x0b x0n x0c), (S x1)]⟩ h K := by
  refine calls_of_wpC (c := code) Try.func16 (by kernel_rfl) (Nat.le_of_ble_eq_true (by kernel_rfl)) ?_
  refine (n1_ok x0b x0n x0c x1 [] (fun y4 ds h => leaveX ds h fun h => ∃ i108, cell h y4 = some (.int .i64 i108) ∧ (K (.int .i64 i108) h)) (fun y4 ds h => leaveX ds h fun h => ∃ i108, cell h y4 = some (.int .i64 i108) ∧ (K (.int .i64 i108) h)) (env0 [(.slice x0b x0n x0c), (S x1)]) ⟨rfl, rfl, rfl⟩ h hS).mono ?_
  intro e g' h' hq
  cases e with
  | normal =>
    have hq : D0 (fun y4 ds h => leaveX ds h fun h => ∃ i108, cell h y4 = some (.int .i64 i108) ∧ (K (.int .i64 i108) h)) g' h' := hq
    obtain ⟨y4, ds, ⟨hg4, hd⟩, hq⟩ := D0_ok hq
    show leaveX g'.ds h' _
    rw [hd]
    show leaveX ds h' fun h => vAddr (g'.v 4) fun a109 => ldx Try.prog 3 a109 h fun v110 => K v110 h
    rw [hg4]
    exact hq
  | ret =>
    have hq : D0 (fun y4 ds h => leaveX ds h fun h => ∃ i108, cell h y4 = some (.int .i64 i108) ∧ (K (.int .i64 i108) h)) g' h' := hq
    obtain ⟨y4, ds, ⟨hg4, hd⟩, hq⟩ := D0_ok hq
    show leaveX g'.ds h' _
    rw [hd]
    show leaveX ds h' fun h => vAddr (g'.v 4) fun a109 => ldx Try.prog 3 a109 h fun v110 => K v110 h
    rw [hg4]
    exact hq
  | _ => exact hq
end Sx.open_Implied

/-! ### tympan/tympanref11.Implied -/
namespace Sx.r11_Implied
noncomputable def code : Code := bodyOf Try.f17
abbrev T0 := Int → H → Prop
def E0 (g : Env) (x4 : Int) : Prop := g.v 4 = (.int .i64 x4) ∧ g.ds = []
def D0 (K : T0) (g : Env) (h : H) : Prop := nilDs g.ds (vInt .i64 (g.v 4) fun i1 => K i1 h)
theorem D0_ok {K : T0} {g : Env} {h : H} (hq : D0 K g h) : ∃ (x4 : Int), E0 g x4 ∧ K x4 h := by
  obtain ⟨hd, hq⟩ := nilDs_ok hq
  obtain ⟨y3, e2, q4⟩ := vInt_ok hq
  exact ⟨y3, ⟨e2, hd⟩, q4⟩
def Q0 (Kn : T0) (Kr : T0) : XPost
  | .normal, g, h => D0 Kn g h
  | .ret, g, h => D0 Kr g h
  | _, _, _ => False
abbrev T1 := (Option Addr) → Nat → Nat → (List UInt8) → H → Prop
def E1 (g : Env) (x0b : Option Addr) (x0n : Nat) (x0c : Nat) (x1 : List UInt8) : Prop := g.v 0 = (.slice x0b x0n x0c) ∧ g.v 1 = (S x1) ∧ g.ds = []
def D1 (K : T1) (g : Env) (h : H) : Prop := nilDs g.ds (vSlice (g.v 0) fun s5b s5n s5c => vStr (g.v 1) fun s6 => K s5b s5n s5c s6 h)
theorem D1_ok {K : T1} {g : Env} {h : H} (hq : D1 K g h) : ∃ (x0b : Option Addr) (x0n : Nat) (x0c : Nat) (x1 : List UInt8), E1 g x0b x0n x0c x1 ∧ K x0b x0n x0c x1 h := by
  obtain ⟨hd, hq⟩ := nilDs_ok hq
  obtain ⟨y8b, y8n, y8c, e7, q9⟩ := vSlice_ok hq
  obtain ⟨y11, e10, q12⟩ := vStr_ok q9
  exact ⟨y8b, y8n, y8c, y11, ⟨e7, e10, hd⟩, q12⟩
noncomputable def n1_c1 : Code := cFst code
noncomputable def n1_c2 : Code := cSnd code
noncomputable def n2_c1 : Code := cFst n1_c2
noncomputable def n2_c2 : Code := cSnd n1_c2
abbrev T2 := (Option Addr) → Nat → Nat → (List UInt8) → Int → H → Prop
def E2 (g : Env) (x0b : Option Addr) (x0n : Nat) (x0c : Nat) (x1 : List UInt8) (x5 : Int) : Prop := g.v 0 = (.slice x0b x0n x0c) ∧ g.v 1 = (S x1) ∧ g.v 5 = (.int .i64 x5) ∧ g.ds = []
def D2 (K : T2) (g : Env) (h : H) : Prop := nilDs g.ds (vSlice (g.v 0) fun s13b s13n s13c => vStr (g.v 1) fun s14 => vInt .i64 (g.v 5) fun i15 => K s13b s13n s13c s14 i15 h)
theorem D2_ok {K : T2} {g : Env} {h : H} (hq : D2 K g h) : ∃ (x0b : Option Addr) (x0n : Nat) (x0c : Nat) (x1 : List UInt8) (x5 : Int), E2 g x0b x0n x0c x1 x5 ∧ K x0b x0n x0c x1 x5 h := by
  obtain ⟨hd, hq⟩ := nilDs_ok hq
  obtain ⟨y17b, y17n, y17c, e16, q18⟩ := vSlice_ok hq
  obtain ⟨y20, e19, q21⟩ := vStr_ok q18
  obtain ⟨y23, e22, q24⟩ := vInt_ok q21
  exact ⟨y17b, y17n, y17c, y20, y23, ⟨e16, e19, e22, hd⟩, q24⟩
noncomputable def n3_c1 : Code := cFst n2_c2
noncomputable def n3_c2 : Code := cSnd n2_c2
abbrev T3 := Int → H → Prop
def E3 (g : Env) (x5 : Int) : Prop := g.v 5 = (.int .i64 x5) ∧ g.ds = []
def D3 (K : T3) (g : Env) (h : H) : Prop := nilDs g.ds (vInt .i64 (g.v 5) fun i25 => K i25 h)
theorem D3_ok {K : T3} {g : Env} {h : H} (hq : D3 K g h) : ∃ (x5 : Int), E3 g x5 ∧ K x5 h := by
  obtain ⟨hd, hq⟩ := nilDs_ok hq
  obtain ⟨y27, e26, q28⟩ := vInt_ok hq
  exact ⟨y27, ⟨e26, hd⟩, q28⟩
abbrev n4 (x5 : Int) (Kn : T0) (Kr : T0) (h : H) : Prop :=
  Kr x5 h
theorem n4_ok (x5 : Int) (Kn : T0) (Kr : T0) (g : Env) (hg : E3 g x5) (h : H) (hS : n4 x5 Kn Kr h) : wpC none Try.prog 32 n3_c2 (Q0 Kn Kr) g h := by
  obtain ⟨hg5, hds⟩ := hg
  refine wpC_of_wpx (by kernel_rfl) (by kernel_rfl) (g' := (⟨g.v, []⟩ : Env).upd (some 5) (.int .i64 x5)) (by rw [env_ds hds, upd_self hg5]) ?_
  have e : (n4 x5 Kn Kr h) = wpx none Try.prog 32 n3_c2 (Q0 Kn Kr) ((⟨g.v, []⟩ : Env).upd (some 5) (.int .i64 x5)) h := by kernel_rfl
  exact e ▸ hS
def Q1 (Kn : T3) (Kr : T0) : XPost
  | .normal, g, h => D3 Kn g h
  | .ret, g, h => D0 Kr g h
  | _, _, _ => False
noncomputable def n5_c1 : Code := cFst n3_c1
def Q2 (Kn : T3) (Ke0 : T3) (Kr : T0) : XPost
  | .normal, g, h => D3 Kn g h
  | .ret, g, h => D0 Kr g h
  | .exit id, g, h => cond (Nat.beq id 0) (D3 Ke0 g h) (False)
  | _, _, _ => False
noncomputable def n6_c1 : Code := cFst n5_c1
def Q3 (Kn : T2) (Ke0 : T3) (Kr : T0) : XPost
  | .normal, g, h => D2 Kn g h
  | .ret, g, h => D0 Kr g h
  | .exit id, g, h => cond (Nat.beq id 0) (D3 Ke0 g h) (False)
  | _, _, _ => False
def n6_L (Kn : T3) (Ke0 : T3) (Kr : T0) : Nat → (Option Addr) → Nat → Nat → (List UInt8) → Int → H → Prop
  | 0 => fun _ _ _ _ _ _ => False
  | N + 1 => fun x0b x0n x0c x1 x5 h => Spl (x5 > (0 : Int)) (Rng .i64 (x5 - (1 : Int)) ∧ ((0 ≤ (x5 - (1 : Int)) ∧ (x5 - (1 : Int)) < (x0n : Int)) ∧ (vSome x0b fun a29 => ∃ s30, cell h ((a29.add (Int.toNat (x5 - (1 : Int)) * 4)).add 2) = some (S s30) ∧ (Spl (s30 = x1) (Ke0 x5 h) (Rng .i64 (x5 - (1 : Int)) ∧ ((0 ≤ (x5 - (1 : Int)) ∧ (x5 - (1 : Int)) < (x0n : Int)) ∧ (vSome x0b fun a31 => ∃ i32, cell h (((a31.add (Int.toNat (x5 - (1 : Int)) * 4))).add 0) = some (.int .i64 i32) ∧ (∃ i33, cell h (((a31.add (Int.toNat (x5 - (1 : Int)) * 4))).add 1) = some (.int .u8 i33) ∧ (∃ s34, cell h (((a31.add (Int.toNat (x5 - (1 : Int)) * 4))).add 2) = some (S s34) ∧ (∃ i35, cell h (((a31.add (Int.toNat (x5 - (1 : Int)) * 4))).add 3) = some (.int .u8 i35) ∧ (newx h #[(S ([100, 100] : List UInt8)), (S ([100, 116] : List UInt8)), (S ([108, 105] : List UInt8)), (S ([111, 112, 116, 103, 114, 111, 117, 112] : List UInt8)), (S ([111, 112, 116, 105, 111, 110] : List UInt8)), (S ([112] : List UInt8)), (S ([114, 98] : List UInt8)), (S ([114, 112] : List UInt8)), (S ([114, 116] : List UInt8)), (S ([114, 116, 99] : List UInt8))] 9 fun a36 h37 => HCalls Try.prog 28 ⟨[(.agg ⟨[(.int .i64 i32), (.int .u8 i33), (S s34), (.int .u8 i35)]⟩), (.slice (some a36) 10 10)]⟩ h37 fun v38 h39 => vBool v38 fun b40 => cond b40 (Rng .i64 (x5 - (1 : Int)) ∧ (n6_L Kn Ke0 Kr N x0b x0n x0c x1 (x5 - (1 : Int)) h39)) (Ke0 x5 h39)))))))))))) (Ke0 x5 h)
abbrev n6 (x0b : Option Addr) (x0n : Nat) (x0c : Nat) (x1 : List UInt8) (x5 : Int) (Kn : T3) (Ke0 : T3) (Kr : T0) (h : H) : Prop := ∃ N, n6_L Kn Ke0 Kr N x0b x0n x0c x1 x5 h
theorem n6_ok (x0b : Option Addr) (x0n : Nat) (x0c : Nat) (x1 : List UInt8) (x5 : Int) (Kn : T3) (Ke0 : T3) (Kr : T0) (g : Env) (hg : E2 g x0b x0n x0c x1 x5) (h : H) (hS : n6 x0b x0n x0c x1 x5 Kn Ke0 Kr h) : wpC none Try.prog 32 n5_c1 (Q2 Kn Ke0 Kr) g h := by
  obtain ⟨N0, hS⟩ := hS
  refine wpC_loop' (x := n6_c1) (by kernel_rfl) (fun k g h => ∃ (x0b : Option Addr) (x0n : Nat) (x0c : Nat) (x1 : List UInt8) (x5 : Int), E2 g x0b x0n x0c x1 x5 ∧ n6_L Kn Ke0 Kr k x0b x0n x0c x1 x5 h) (fun g h hr => ?_) (fun N g h hr => ?_) N0 ⟨x0b, x0n, x0c, x1, x5, hg, hS⟩
  · obtain ⟨x0b, x0n, x0c, x1, x5, hg, hS⟩ := hr
    exact hS.elim
  · obtain ⟨x0b, x0n, x0c, x1, x5, hg, hS⟩ := hr
    have hw : wpC none Try.prog 32 n6_c1 (Q3 (fun z0b z0n z0c z1 z5 h => n6_L Kn Ke0 Kr N z0b z0n z0c z1 z5 h) Ke0 Kr) g h := by
      obtain ⟨hg0, hg1, hg5, hds⟩ := hg
      refine wpC_of_wpx (by kernel_rfl) (by kernel_rfl) (g' := (((⟨g.v, []⟩ : Env).upd (some 0) (.slice x0b x0n x0c)).upd (some 1) (S x1)).upd (some 5) (.int .i64 x5)) (by rw [env_ds hds, upd_self hg0, upd_self hg1, upd_self hg5]) ?_
      have e : (n6_L Kn Ke0 Kr (N + 1) x0b x0n x0c x1 x5 h) = wpx none Try.prog 32 n6_c1 (Q3 (fun z0b z0n z0c z1 z5 h => n6_L Kn Ke0 Kr N z0b z0n z0c z1 z5 h) Ke0 Kr) ((((⟨g.v, []⟩ : Env).upd (some 0) (.slice x0b x0n x0c)).upd (some 1) (S x1)).upd (some 5) (.int .i64 x5)) h := by kernel_rfl
      exact e ▸ hS
    refine hw.mono ?_
    intro e g' h' hq
    cases e with
    | normal => exact D2_ok (K := (fun z0b z0n z0c z1 z5 h => n6_L Kn Ke0 Kr N z0b z0n z0c z1 z5 h)) hq
    | _ => exact hq
abbrev n5 (x0b : Option Addr) (x0n : Nat) (x0c : Nat) (x1 : List UInt8) (x5 : Int) (Kn : T3) (Kr : T0) (h : H) : Prop := n6 x0b x0n x0c x1 x5 Kn Kn Kr h
theorem n5_ok (x0b : Option Addr) (x0n : Nat) (x0c : Nat) (x1 : List UInt8) (x5 : Int) (Kn : T3) (Kr : T0) (g : Env) (hg : E2 g x0b x0n x0c x1 x5) (h : H) (hS : n5 x0b x0n x0c x1 x5 Kn Kr h) : wpC none Try.prog 32 n3_c1 (Q1 Kn Kr) g h := by
  refine wpC_block' (id := 0) (x := n5_c1) (by kernel_rfl) (n6_ok x0b x0n x0c x1 x5 Kn Kn Kr g hg h hS) ?_
  intro e g' h' hq
  cases e <;> exact hq
abbrev n3 (x0b : Option Addr) (x0n : Nat) (x0c : Nat) (x1 : List UInt8) (x5 : Int) (Kn : T0) (Kr : T0) (h : H) : Prop := n5 x0b x0n x0c x1 x5 (fun z5 h => n4 z5 Kn Kr h) Kr h
theorem n3_ok (x0b : Option Addr) (x0n : Nat) (x0c : Nat) (x1 : List UInt8) (x5 : Int) (Kn : T0) (Kr : T0) (g : Env) (hg : E2 g x0b x0n x0c x1 x5) (h : H) (hS : n3 x0b x0n x0c x1 x5 Kn Kr h) : wpC none Try.prog 32 n2_c2 (Q0 Kn Kr) g h := by
  refine wpC_seq' (x := n3_c1) (y := n3_c2) (by kernel_rfl) (n5_ok x0b x0n x0c x1 x5 (fun z5 h => n4 z5 Kn Kr h) Kr g hg h hS) ?_
  intro e g' h' hq
  cases e with
  | normal =>
    have hq : D3 (fun z5 h => n4 z5 Kn Kr h) g' h' := hq
    obtain ⟨y5, hg', hq⟩ := D3_ok hq
    exact n4_ok y5 Kn Kr g' hg' h' hq
  | _ => exact hq
def Q4 (Kn : T2) (Kr : T0) : XPost
  | .normal, g, h => D2 Kn g h
  | .ret, g, h => D0 Kr g h
  | _, _, _ => False
abbrev n2 (x0b : Option Addr) (x0n : Nat) (x0c : Nat) (x1 : List UInt8) (Kn : T0) (Kr : T0) (h : H) : Prop :=
  n3 x0b x0n x0c x1 (x0n : Int) Kn Kr h
theorem n2_ok (x0b : Option Addr) (x0n : Nat) (x0c : Nat) (x1 : List UInt8) (Kn : T0) (Kr : T0) (g : Env) (hg : E1 g x0b x0n x0c x1) (h : H) (hS : n2 x0b x0n x0c x1 Kn Kr h) : wpC none Try.prog 32 n1_c2 (Q0 Kn Kr) g h := by
  obtain ⟨hg0, hg1, hds⟩ := hg
  refine wpC_seq' (x := n2_c1) (y := n2_c2) (Q' := (Q4 (fun z0b z0n z0c z1 z5 h => n3 z0b z0n z0c z1 z5 Kn Kr h) Kr)) (by kernel_rfl) ?_ ?_
  · refine wpC_of_wpx (by kernel_rfl) (by kernel_rfl) (g' := ((⟨g.v, []⟩ : Env).upd (some 0) (.slice x0b x0n x0c)).upd (some 1) (S x1)) (by rw [env_ds hds, upd_self hg0, upd_self hg1]) ?_
    have e : (n2 x0b x0n x0c x1 Kn Kr h) = wpx none Try.prog 32 n2_c1 (Q4 (fun z0b z0n z0c z1 z5 h => n3 z0b z0n z0c z1 z5 Kn Kr h) Kr) (((⟨g.v, []⟩ : Env).upd (some 0) (.slice x0b x0n x0c)).upd (some 1) (S x1)) h := by kernel_rfl
    exact e ▸ hS
  · intro e g' h' hq
    cases e with
    | normal =>
      have hq : D2 (fun z0b z0n z0c z1 z5 h => n3 z0b z0n z0c z1 z5 Kn Kr h) g' h' := hq
      obtain ⟨y0b, y0n, y0c, y1, y5, hg', hq⟩ := D2_ok hq
      exact n3_ok y0b y0n y0c y1 y5 Kn Kr g' hg' h' hq
    | _ => exact hq
def Q5 (Kn : T1) (Kr : T0) : XPost
  | .normal, g, h => D1 Kn g h
  | .ret, g, h => D0 Kr g h
  | _, _, _ => False
abbrev n1 (x0b : Option Addr) (x0n : Nat) (x0c : Nat) (x1 : List UInt8) (Kn : T0) (Kr : T0) (h : H) : Prop :=
  n2 x0b x0n x0c x1 Kn Kr h
theorem n1_ok (x0b : Option Addr) (x0n : Nat) (x0c : Nat) (x1 : List UInt8) (Kn : T0) (Kr : T0) (g : Env) (hg : E1 g x0b x0n x0c x1) (h : H) (hS : n1 x0b x0n x0c x1 Kn Kr h) : wpC none Try.prog 32 code (Q0 Kn Kr) g h := by
  obtain ⟨hg0, hg1, hds⟩ := hg
  refine wpC_seq' (x := n1_c1) (y := n1_c2) (Q' := (Q5 (fun z0b z0n z0c z1 h => n2 z0b z0n z0c z1 Kn Kr h) Kr)) (by kernel_rfl) ?_ ?_
  · refine wpC_of_wpx (by kernel_rfl) (by kernel_rfl) (g' := ((⟨g.v, []⟩ : Env).upd (some 0) (.slice x0b x0n x0c)).upd (some 1) (S x1)) (by rw [env_ds hds, upd_self hg0, upd_self hg1]) ?_
    have e : (n1 x0b x0n x0c x1 Kn Kr h) = wpx none Try.prog 32 n1_c1 (Q5 (fun z0b z0n z0c z1 h => n2 z0b z0n z0c z1 Kn Kr h) Kr) (((⟨g.v, []⟩ : Env).upd (some 0) (.slice x0b x0n x0c)).upd (some 1) (S x1)) h := by kernel_rfl
    exact e ▸ hS
  · intro e g' h' hq
    cases e with
    | normal =>
      have hq : D1 (fun z0b z0n z0c z1 h => n2 z0b z0n z0c z1 Kn Kr h) g' h' := hq
      obtain ⟨y0b, y0n, y0c, y1, hg', hq⟩ := D1_ok hq
      exact n2_ok y0b y0n y0c y1 Kn Kr g' hg' h' hq
    | _ => exact hq
/-- WHAT tympan/tympanref11.Implied ASKS -/
abbrev asks (x0b : Option Addr) (x0n : Nat) (x0c : Nat) (x1 : List UInt8) (K : Value → H → Prop) (h : H) : Prop := n1 x0b x0n x0c x1 (fun y4 h => K (.int .i64 y4) h) (fun y4 h => K (.int .i64 y4) h) h
theorem ok (x0b : Option Addr) (x0n : Nat) (x0c : Nat) (x1 : List UInt8) (K : Value → H → Prop) (h : H) (hS : asks x0b x0n x0c x1 K h) : HCalls Try.prog 17 ⟨[(.slice x0b x0n x0c), (S x1)]⟩ h K := by
  refine calls_of_wpC (c := code) Try.func17 (by kernel_rfl) (Nat.le_of_ble_eq_true (by kernel_rfl)) ?_
  refine (n1_ok x0b x0n x0c x1 (fun y4 h => K (.int .i64 y4) h) (fun y4 h => K (.int .i64 y4) h) (env0 [(.slice x0b x0n x0c), (S x1)]) ⟨rfl, rfl, rfl⟩ h hS).mono ?_
  intro e g' h' hq
  cases e with
  | normal =>
    have hq : D0 (fun y4 h => K (.int .i64 y4) h) g' h' := hq
    obtain ⟨y4, ⟨hg4, hd⟩, hq⟩ := D0_ok hq
    show leaveX g'.ds h' _
    rw [hd]
    show K (g'.v 4) h'
    rw [hg4]
    exact hq
  | ret =>
    have hq : D0 (fun y4 h => K (.int .i64 y4) h) g' h' := hq
    obtain ⟨y4, ⟨hg4, hd⟩, hq⟩ := D0_ok hq
    show leaveX g'.ds h' _
    rw [hd]
    show K (g'.v 4) h'
    rw [hg4]
    exact hq
  | _ => exact hq
end Sx.r11_Implied

/-! ### tympan/open.Until -/
namespace Sx.open_Until
noncomputable def code : Code := bodyOf Try.f18
abbrev T0 := Addr → (List Deferred) → H → Prop
def E0 (g : Env) (x4 : Addr) (ds : List Deferred) : Prop := g.v 4 = (.pointer (some x4)) ∧ g.ds = ds
def D0 (K : T0) (g : Env) (h : H) : Prop := vAddr (g.v 4) fun a1 => K a1 g.ds h
theorem D0_ok {K : T0} {g : Env} {h : H} (hq : D0 K g h) : ∃ (x4 : Addr) (ds : List Deferred), E0 g x4 ds ∧ K x4 ds h := by
  obtain ⟨y3, e2, q4⟩ := vAddr_ok hq
  exact ⟨y3, g.ds, ⟨e2, rfl⟩, q4⟩
theorem D0_mk {K : T0} {g : Env} {h : H} {x4 : Addr} {ds : List Deferred} (hg : E0 g x4 ds) (hk : K x4 ds h) : D0 K g h := by
  obtain ⟨hg4, hds⟩ := hg
  unfold D0
  rw [hg4, hds]
  exact hk
def Q0 (Kn : T0) (Kr : T0) : XPost
  | .normal, g, h => D0 Kn g h
  | .ret, g, h => D0 Kr g h
  | _, _, _ => False
abbrev T1 := (Option Addr) → Nat → Nat → (Option Addr) → Nat → Nat → (List Deferred) → H → Prop
def E1 (g : Env) (x0b : Option Addr) (x0n : Nat) (x0c : Nat) (x1b : Option Addr) (x1n : Nat) (x1c : Nat) (ds : List Deferred) : Prop := g.v 0 = (.slice x0b x0n x0c) ∧ g.v 1 = (.slice x1b x1n x1c) ∧ g.ds = ds
def D1 (K : T1) (g : Env) (h : H) : Prop := vSlice (g.v 0) fun s5b s5n s5c => vSlice (g.v 1) fun s6b s6n s6c => K s5b s5n s5c s6b s6n s6c g.ds h
theorem D1_ok {K : T1} {g : Env} {h : H} (hq : D1 K g h) : ∃ (x0b : Option Addr) (x0n : Nat) (x0c : Nat) (x1b : Option Addr) (x1n : Nat) (x1c : Nat) (ds : List Deferred), E1 g x0b x0n x0c x1b x1n x1c ds ∧ K x0b x0n x0c x1b x1n x1c ds h := by
  obtain ⟨y8b, y8n, y8c, e7, q9⟩ := vSlice_ok hq
  obtain ⟨y11b, y11n, y11c, e10, q12⟩ := vSlice_ok q9
  exact ⟨y8b, y8n, y8c, y11b, y11n, y11c, g.ds, ⟨e7, e10, rfl⟩, q12⟩
theorem D1_mk {K : T1} {g : Env} {h : H} {x0b : Option Addr} {x0n : Nat} {x0c : Nat} {x1b : Option Addr} {x1n : Nat} {x1c : Nat} {ds : List Deferred} (hg : E1 g x0b x0n x0c x1b x1n x1c ds) (hk : K x0b x0n x0c x1b x1n x1c ds h) : D1 K g h := by
  obtain ⟨hg0, hg1, hds⟩ := hg
  unfold D1
  rw [hg0, hg1, hds]
  exact hk
noncomputable def n1_c1 : Code := cFst code
noncomputable def n1_c2 : Code := cSnd code
abbrev T2 := (Option Addr) → Nat → Nat → Addr → Addr → (List Deferred) → H → Prop
def E2 (g : Env) (x0b : Option Addr) (x0n : Nat) (x0c : Nat) (x3 : Addr) (x4 : Addr) (ds : List Deferred) : Prop := g.v 0 = (.slice x0b x0n x0c) ∧ g.v 3 = (.pointer (some x3)) ∧ g.v 4 = (.pointer (some x4)) ∧ g.ds = ds
def D2 (K : T2) (g : Env) (h : H) : Prop := vSlice (g.v 0) fun s13b s13n s13c => vAddr (g.v 3) fun a14 => vAddr (g.v 4) fun a15 => K s13b s13n s13c a14 a15 g.ds h
theorem D2_ok {K : T2} {g : Env} {h : H} (hq : D2 K g h) : ∃ (x0b : Option Addr) (x0n : Nat) (x0c : Nat) (x3 : Addr) (x4 : Addr) (ds : List Deferred), E2 g x0b x0n x0c x3 x4 ds ∧ K x0b x0n x0c x3 x4 ds h := by
  obtain ⟨y17b, y17n, y17c, e16, q18⟩ := vSlice_ok hq
  obtain ⟨y20, e19, q21⟩ := vAddr_ok q18
  obtain ⟨y23, e22, q24⟩ := vAddr_ok q21
  exact ⟨y17b, y17n, y17c, y20, y23, g.ds, ⟨e16, e19, e22, rfl⟩, q24⟩
theorem D2_mk {K : T2} {g : Env} {h : H} {x0b : Option Addr} {x0n : Nat} {x0c : Nat} {x3 : Addr} {x4 : Addr} {ds : List Deferred} (hg : E2 g x0b x0n x0c x3 x4 ds) (hk : K x0b x0n x0c x3 x4 ds h) : D2 K g h := by
  obtain ⟨hg0, hg3, hg4, hds⟩ := hg
  unfold D2
  rw [hg0, hg3, hg4, hds]
  exact hk
noncomputable def n2_c1 : Code := cFst n1_c2
noncomputable def n2_c2 : Code := cSnd n1_c2
abbrev n3 (x4 : Addr) (ds : List Deferred) (Kn : T0) (Kr : T0) (h : H) : Prop :=
  stL x4 [(.int .i64 (-1 : Int))] 0 h fun h25 => Kr x4 ds h25
theorem n3_ok (x4 : Addr) (ds : List Deferred) (Kn : T0) (Kr : T0) (g : Env) (hg : E0 g x4 ds) (h : H) (hS : n3 x4 ds Kn Kr h) : wpC none Try.prog 15 n2_c2 (Q0 Kn Kr) g h := by
  obtain ⟨hg4, hds⟩ := hg
  refine wpC_of_wpx (by kernel_rfl) (by kernel_rfl) (g' := (⟨g.v, ds⟩ : Env).upd (some 4) (.pointer (some x4))) (by rw [env_ds hds, upd_self hg4]) ?_
  have e : (n3 x4 ds Kn Kr h) = wpx none Try.prog 15 n2_c2 (Q0 Kn Kr) ((⟨g.v, ds⟩ : Env).upd (some 4) (.pointer (some x4))) h := by kernel_rfl
  exact e ▸ hS
noncomputable def n4_c1 : Code := cFst n2_c1
noncomputable def n4_c2 : Code := cSnd n2_c1
abbrev T3 := Addr → Addr → Value → (List Deferred) → H → Prop
def E3 (g : Env) (x3 : Addr) (x4 : Addr) (x8 : Value) (ds : List Deferred) : Prop := g.v 3 = (.pointer (some x3)) ∧ g.v 4 = (.pointer (some x4)) ∧ g.v 8 = x8 ∧ g.ds = ds
def D3 (K : T3) (g : Env) (h : H) : Prop := vAddr (g.v 3) fun a26 => vAddr (g.v 4) fun a27 => K a26 a27 (g.v 8) g.ds h
theorem D3_ok {K : T3} {g : Env} {h : H} (hq : D3 K g h) : ∃ (x3 : Addr) (x4 : Addr) (x8 : Value) (ds : List Deferred), E3 g x3 x4 x8 ds ∧ K x3 x4 x8 ds h := by
  obtain ⟨y29, e28, q30⟩ := vAddr_ok hq
  obtain ⟨y32, e31, q33⟩ := vAddr_ok q30
  exact ⟨y29, y32, (g.v 8), g.ds, ⟨e28, e31, rfl, rfl⟩, q33⟩
theorem D3_mk {K : T3} {g : Env} {h : H} {x3 : Addr} {x4 : Addr} {x8 : Value} {ds : List Deferred} (hg : E3 g x3 x4 x8 ds) (hk : K x3 x4 x8 ds h) : D3 K g h := by
  obtain ⟨hg3, hg4, hg8, hds⟩ := hg
  unfold D3
  rw [hg3, hg4, hg8, hds]
  exact hk
noncomputable def n5_c1 : Code := cFst n4_c2
def Q1 (Kn : T0) (Ke0 : T0) (Kr : T0) : XPost
  | .normal, g, h => D0 Kn g h
  | .ret, g, h => D0 Kr g h
  | .exit id, g, h => cond (Nat.beq id 0) (D0 Ke0 g h) (False)
  | _, _, _ => False
noncomputable def n6_c1 : Code := cFst n5_c1
noncomputable def n6_c2 : Code := cSnd n5_c1
def n6_rd (x3 : Addr) (x4 : Addr) (x8 : Value) (ds : List Deferred) (Kn : T0) (Ke0 : T0) (Kr : T0) (h : H) (p9 : Int) (p10_0 : Int) (p10_1 : Int) (p10_2 : List UInt8) (p10_3 : Int) (Mid : H → (H → Prop) → Prop) (Kc : H → H → Prop) (Fin : H → H → (H → Prop) → Prop) (h1 : H) : Prop :=
  newx h1 ⟨[(.int .i64 (0 : Int)), (.int .u8 (0 : Int)), (S ([] : List UInt8)), (.int .u8 (0 : Int))]⟩ 37 fun a34 h35 => stL a34 [(.int .i64 p10_0), (.int .u8 p10_1), (S p10_2), (.int .u8 p10_3)] 0 h35 fun h36 => Mid h36 fun hb37 => ∃ i38, cell hb37 ((a34).add 0) = some (.int .i64 i38) ∧ (∃ i39, cell hb37 ((a34).add 1) = some (.int .u8 i39) ∧ (∃ s40, cell hb37 ((a34).add 2) = some (S s40) ∧ (∃ i41, cell hb37 ((a34).add 3) = some (.int .u8 i41) ∧ (∃ s42b s42n s42c, cell hb37 x3 = some (.slice s42b s42n s42c) ∧ (HCalls Try.prog 26 ⟨[(.agg ⟨[(.int .i64 i38), (.int .u8 i39), (S s40), (.int .u8 i41)]⟩), (.slice s42b s42n s42c)]⟩ hb37 fun v43 h44 => vBool v43 fun b45 => cond b45 (stL x4 [(.int .i64 p9)] 0 h44 fun h46 => Fin hb37 h46 fun h47 => Kr x4 (markD h.size :: ds) h47) (Kc hb37 h44))))))
abbrev n6 (x3 : Addr) (x4 : Addr) (x8 : Value) (ds : List Deferred) (Kn : T0) (Ke0 : T0) (Kr : T0) (h : H) : Prop := Ranges Try.prog x8 2 h (fun l48 Mid Kc Fin h1 => uncons l48 fun e49 l50 => vInt .i64 e49 fun i51 => uncons l50 fun e52 l53 => vAgg e52 fun l54 => uncons l54 fun e55 l56 => vInt .i64 e55 fun i57 => uncons l56 fun e58 l59 => vInt .u8 e58 fun i60 => uncons l59 fun e61 l62 => vStr e61 fun s63 => uncons l62 fun e64 l65 => vInt .u8 e64 fun i66 => unnil l65 (unnil l53 (n6_rd x3 x4 x8 ds Kn Ke0 Kr h i51 i57 i60 s63 i66 Mid Kc Fin h1))) (fun h4 => Kn x4 (markD h.size :: ds) h4)
theorem n6_ok (x3 : Addr) (x4 : Addr) (x8 : Value) (ds : List Deferred) (Kn : T0) (Ke0 : T0) (Kr : T0) (g : Env) (hg : E3 g x3 x4 x8 ds) (h : H) (hS : n6 x3 x4 x8 ds Kn Ke0 Kr h) : wpC none Try.prog 15 n5_c1 (Q1 Kn Ke0 Kr) g h := by
  obtain ⟨hg3, hg4, hg8, hds⟩ := hg
  subst hds
  have ho : ((((⟨g.v, g.ds⟩ : Env).upd (some 3) (.pointer (some x3))).upd (some 4) (.pointer (some x4))).upd (some 8) x8 : Env) = g := by rw [env_ds rfl, upd_self hg3, upd_self hg4, upd_self hg8]
  have hc : n5_c1 = .rangeFunc (.tmp 8) #[9, 10] n6_c1 n6_c2 := by kernel_rfl
  rw [hc]
  refine wpC_range (f := x8) (rd := (fun l48 Mid Kc Fin h1 => uncons l48 fun e49 l50 => vInt .i64 e49 fun i51 => uncons l50 fun e52 l53 => vAgg e52 fun l54 => uncons l54 fun e55 l56 => vInt .i64 e55 fun i57 => uncons l56 fun e58 l59 => vInt .u8 e58 fun i60 => uncons l59 fun e61 l62 => vStr e61 fun s63 => uncons l62 fun e64 l65 => vInt .u8 e64 fun i66 => unnil l65 (unnil l53 (n6_rd x3 x4 x8 g.ds Kn Ke0 Kr h i51 i57 i60 s63 i66 Mid Kc Fin h1)))) (done := (fun h4 => Kn x4 (markD h.size :: g.ds) h4)) ?_ hS ?_ ?_
  · rw [← ho]; kernel_rfl
  · intro h4 hd
    have e : (Kn x4 (markD h.size :: g.ds) h4) = (Q1 Kn Ke0 Kr) .normal ⟨((((⟨g.v, g.ds⟩ : Env).upd (some 3) (.pointer (some x3))).upd (some 4) (.pointer (some x4))).upd (some 8) x8).v, markD h.size :: g.ds⟩ h4 := by kernel_rfl
    rw [ho] at e
    exact e ▸ hd
  · intro L x Mid Kc Fin h1 hM hx
    obtain ⟨u67, l68, rfl, q69⟩ := uncons_ok hx
    obtain ⟨y70, rfl, q71⟩ := vInt_ok q69
    obtain ⟨u72, l73, rfl, q74⟩ := uncons_ok q71
    obtain ⟨l75, rfl, q76⟩ := vAgg_ok q74
    obtain ⟨u77, l78, rfl, q79⟩ := uncons_ok q76
    obtain ⟨y80, rfl, q81⟩ := vInt_ok q79
    obtain ⟨u82, l83, rfl, q84⟩ := uncons_ok q81
    obtain ⟨y85, rfl, q86⟩ := vInt_ok q84
    obtain ⟨u87, l88, rfl, q89⟩ := uncons_ok q86
    obtain ⟨y90, rfl, q91⟩ := vStr_ok q89
    obtain ⟨u92, l93, rfl, q94⟩ := uncons_ok q91
    obtain ⟨y95, rfl, q96⟩ := vInt_ok q94
    obtain ⟨rfl, q97⟩ := unnil_ok q96
    obtain ⟨rfl, q98⟩ := unnil_ok q97
    have e : (n6_rd x3 x4 x8 g.ds Kn Ke0 Kr h y70 y80 y85 y90 y95 Mid Kc Fin h1) = wpx (some L) Try.prog 15 n6_c1 (thenX (fun g1 he => Mid he fun hb => wpx (some L) Try.prog 15 n6_c2 (rpost Kc Fin (Q1 Kn Ke0 Kr) ⟨((((⟨g.v, g.ds⟩ : Env).upd (some 3) (.pointer (some x3))).upd (some 4) (.pointer (some x4))).upd (some 8) x8).v, markD h.size :: g.ds⟩ hb) g1 hb) fun _ _ _ => False) (setps ((((⟨g.v, g.ds⟩ : Env).upd (some 3) (.pointer (some x3))).upd (some 4) (.pointer (some x4))).upd (some 8) x8) [9, 10] [(.int .i64 y70), (.agg ⟨[(.int .i64 y80), (.int .u8 y85), (S y90), (.int .u8 y95)]⟩)]) h1 := by kernel_rfl
    rw [ho] at e
    exact (wpx_ok (by kernel_rfl) _ _ _ _ (by kernel_rfl) (e ▸ q98)).mono (thenX_mono fun g1 he hm => hM he _ _ (fun hb => wpx_ok (by kernel_rfl) _ _ _ _ (by kernel_rfl)) hm)
abbrev n5 (x3 : Addr) (x4 : Addr) (x8 : Value) (ds : List Deferred) (Kn : T0) (Kr : T0) (h : H) : Prop := n6 x3 x4 x8 ds Kn Kn Kr h
theorem n5_ok (x3 : Addr) (x4 : Addr) (x8 : Value) (ds : List Deferred) (Kn : T0) (Kr : T0) (g : Env) (hg : E3 g x3 x4 x8 ds) (h : H) (hS : n5 x3 x4 x8 ds Kn Kr h) : wpC none Try.prog 15 n4_c2 (Q0 Kn Kr) g h := by
  refine wpC_block' (id := 0) (x := n5_c1) (by kernel_rfl) (n6_ok x3 x4 x8 ds Kn Kn Kr g hg h hS) ?_
  intro e g' h' hq
  cases e <;> exact hq
def Q2 (Kn : T3) (Kr : T0) : XPost
  | .normal, g, h => D3 Kn g h
  | .ret, g, h => D0 Kr g h
  | _, _, _ => False
abbrev n4 (x0b : Option Addr) (x0n : Nat) (x0c : Nat) (x3 : Addr) (x4 : Addr) (ds : List Deferred) (Kn : T0) (Kr : T0) (h : H) : Prop :=
  HCalls Try.prog 25 ⟨[(.slice x0b x0n x0c)]⟩ h fun v99 h100 => n5 x3 x4 v99 ds Kn Kr h100
theorem n4_ok (x0b : Option Addr) (x0n : Nat) (x0c : Nat) (x3 : Addr) (x4 : Addr) (ds : List Deferred) (Kn : T0) (Kr : T0) (g : Env) (hg : E2 g x0b x0n x0c x3 x4 ds) (h : H) (hS : n4 x0b x0n x0c x3 x4 ds Kn Kr h) : wpC none Try.prog 15 n2_c1 (Q0 Kn Kr) g h := by
  obtain ⟨hg0, hg3, hg4, hds⟩ := hg
  refine wpC_seq' (x := n4_c1) (y := n4_c2) (Q' := (Q2 (fun z3 z4 z8 zds h => n5 z3 z4 z8 zds Kn Kr h) Kr)) (by kernel_rfl) ?_ ?_
  · refine wpC_of_wpx (by kernel_rfl) (by kernel_rfl) (g' := (((⟨g.v, ds⟩ : Env).upd (some 0) (.slice x0b x0n x0c)).upd (some 3) (.pointer (some x3))).upd (some 4) (.pointer (some x4))) (by rw [env_ds hds, upd_self hg0, upd_self hg3, upd_self hg4]) ?_
    have e : (n4 x0b x0n x0c x3 x4 ds Kn Kr h) = wpx none Try.prog 15 n4_c1 (Q2 (fun z3 z4 z8 zds h => n5 z3 z4 z8 zds Kn Kr h) Kr) ((((⟨g.v, ds⟩ : Env).upd (some 0) (.slice x0b x0n x0c)).upd (some 3) (.pointer (some x3))).upd (some 4) (.pointer (some x4))) h := by kernel_rfl
    exact e ▸ hS
  · intro e g' h' hq
    cases e with
    | normal =>
      have hq : D3 (fun z3 z4 z8 zds h => n5 z3 z4 z8 zds Kn Kr h) g' h' := hq
      obtain ⟨y3, y4, y8, yds, hg', hq⟩ := D3_ok hq
      exact n5_ok y3 y4 y8 yds Kn Kr g' hg' h' hq
    | _ => exact hq
abbrev n2 (x0b : Option Addr) (x0n : Nat) (x0c : Nat) (x3 : Addr) (x4 : Addr) (ds : List Deferred) (Kn : T0) (Kr : T0) (h : H) : Prop := n4 x0b x0n x0c x3 x4 ds (fun z4 zds h => n3 z4 zds Kn Kr h) Kr h
theorem n2_ok (x0b : Option Addr) (x0n : Nat) (x0c : Nat) (x3 : Addr) (x4 : Addr) (ds : List Deferred) (Kn : T0) (Kr : T0) (g : Env) (hg : E2 g x0b x0n x0c x3 x4 ds) (h : H) (hS : n2 x0b x0n x0c x3 x4 ds Kn Kr h) : wpC none Try.prog 15 n1_c2 (Q0 Kn Kr) g h := by
  refine wpC_seq' (x := n2_c1) (y := n2_c2) (by kernel_rfl) (n4_ok x0b x0n x0c x3 x4 ds (fun z4 zds h => n3 z4 zds Kn Kr h) Kr g hg h hS) ?_
  intro e g' h' hq
  cases e with
  | normal =>
    have hq : D0 (fun z4 zds h => n3 z4 zds Kn Kr h) g' h' := hq
    obtain ⟨y4, yds, hg', hq⟩ := D0_ok hq
    exact n3_ok y4 yds Kn Kr g' hg' h' hq
  | _ => exact hq
def Q3 (Kn : T2) (Kr : T0) : XPost
  | .normal, g, h => D2 Kn g h
  | .ret, g, h => D0 Kr g h
  | _, _, _ => False
abbrev n1 (x0b : Option Addr) (x0n : Nat) (x0c : Nat) (x1b : Option Addr) (x1n : Nat) (x1c : Nat) (ds : List Deferred) (Kn : T0) (Kr : T0) (h : H) : Prop :=
  newx h #[(.slice x1b x1n x1c)] 23 fun a101 h102 => newx h102 #[(.int .i64 (0 : Int))] 3 fun a103 h104 => n2 x0b x0n x0c a101 a103 ds Kn Kr h104
theorem n1_ok (x0b : Option Addr) (x0n : Nat) (x0c : Nat) (x1b : Option Addr) (x1n : Nat) (x1c : Nat) (ds : List Deferred) (Kn : T0) (Kr : T0) (g : Env) (hg : E1 g x0b x0n x0c x1b x1n x1c ds) (h : H) (hS : n1 x0b x0n x0c x1b x1n x1c ds Kn Kr h) : wpC none Try.prog 15 code (Q0 Kn Kr) g h := by
  obtain ⟨hg0, hg1, hds⟩ := hg
  refine wpC_seq' (x := n1_c1) (y := n1_c2) (Q' := (Q3 (fun z0b z0n z0c z3 z4 zds h => n2 z0b z0n z0c z3 z4 zds Kn Kr h) Kr)) (by kernel_rfl) ?_ ?_
  · refine wpC_of_wpx (by kernel_rfl) (by kernel_rfl) (g' := ((⟨g.v, ds⟩ : Env).upd (some 0) (.slice x0b x0n x0c)).upd (some 1) (.slice x1b x1n x1c)) (by rw [env_ds hds, upd_self hg0, upd_self hg1]) ?_
    have e : (n1 x0b x0n x0c x1b x1n x1c ds Kn Kr h) = wpx none Try.prog 15 n1_c1 (Q3 (fun z0b z0n z0c z3 z4 zds h => n2 z0b z0n z0c z3 z4 zds Kn Kr h) Kr) (((⟨g.v, ds⟩ : Env).upd (some 0) (.slice x0b x0n x0c)).upd (some 1) (.slice x1b x1n x1c)) h := by kernel_rfl
    exact e ▸ hS
  · intro e g' h' hq
    cases e with
    | normal =>
      have hq : D2 (fun z0b z0n z0c z3 z4 zds h => n2 z0b z0n z0c z3 z4 zds Kn Kr h) g' h' := hq
      obtain ⟨y0b, y0n, y0c, y3, y4, yds, hg', hq⟩ := D2_ok hq
      exact n2_ok y0b y0n y0c y3 y4 yds Kn Kr g' hg' h' hq
    | _ => exact hq
/-- WHAT tympan/open.Until ASKS -/
abbrev asks (x0b : Option Addr) (x0n : Nat) (x0c : Nat) (x1b : Option Addr) (x1n : Nat) (x1c : Nat) (K : Value → H → Prop) (h : H) : Prop := n1 x0b x0n x0c x1b x1n x1c [] (fun y4 ds h => leaveX ds h fun h => ∃ i105, cell h y4 = some (.int .i64 i105) ∧ (K (.int .i64 i105) h)) (fun y4 ds h => leaveX ds h fun h => ∃ i105, cell h y4 = some (.int .i64 i105) ∧ (K (.int .i64 i105) h)) h
theorem ok (x0b : Option Addr) (x0n : Nat) (x0c : Nat) (x1b : Option Addr) (x1n : Nat) (x1c : Nat) (K : Value → H → Prop) (h : H) (hS : asks x0b x0n x0c x1b x1n x1c K h) : HCalls Try.prog 18 ⟨[(.slice x0b x0n x0c), (.slice x1b x1n x1c)]⟩ h K := by
  refine calls_of_wpC (c := code) Try.func18 (by kernel_rfl) (Nat.le_of_ble_eq_true (by kernel_rfl)) ?_
  refine (n1_ok x0b x0n x0c x1b x1n x1c [] (fun y4 ds h => leaveX ds h fun h => ∃ i105, cell h y4 = some (.int .i64 i105) ∧ (K (.int .i64 i105) h)) (fun y4 ds h => leaveX ds h fun h => ∃ i105, cell h y4 = some (.int .i64 i105) ∧ (K (.int .i64 i105) h)) (env0 [(.slice x0b x0n x0c), (.slice x1b x1n x1c)]) ⟨rfl, rfl, rfl⟩ h hS).mono ?_
  intro e g' h' hq
  cases e with
  | normal =>
    have hq : D0 (fun y4 ds h => leaveX ds h fun h => ∃ i105, cell h y4 = some (.int .i64 i105) ∧ (K (.int .i64 i105) h)) g' h' := hq
    obtain ⟨y4, ds, ⟨hg4, hd⟩, hq⟩ := D0_ok hq
    show leaveX g'.ds h' _
    rw [hd]
    show leaveX ds h' fun h => vAddr (g'.v 4) fun a106 => ldx Try.prog 3 a106 h fun v107 => K v107 h
    rw [hg4]
    exact hq
  | ret =>
    have hq : D0 (fun y4 ds h => leaveX ds h fun h => ∃ i105, cell h y4 = some (.int .i64 i105) ∧ (K (.int .i64 i105) h)) g' h' := hq
    obtain ⟨y4, ds, ⟨hg4, hd⟩, hq⟩ := D0_ok hq
    show leaveX g'.ds h' _
    rw [hd]
    show leaveX ds h' fun h => vAddr (g'.v 4) fun a106 => ldx Try.prog 3 a106 h fun v107 => K v107 h
    rw [hg4]
    exact hq
  | _ => exact hq
end Sx.open_Until

/-! ### tympan/tympanref11.Until -/
namespace Sx.r11_Until
noncomputable def code : Code := bodyOf Try.f19
abbrev T0 := Int → H → Prop
def E0 (g : Env) (x4 : Int) : Prop := g.v 4 = (.int .i64 x4) ∧ g.ds = []
def D0 (K : T0) (g : Env) (h : H) : Prop := nilDs g.ds (vInt .i64 (g.v 4) fun i1 => K i1 h)
theorem D0_ok {K : T0} {g : Env} {h : H} (hq : D0 K g h) : ∃ (x4 : Int), E0 g x4 ∧ K x4 h := by
  obtain ⟨hd, hq⟩ := nilDs_ok hq
  obtain ⟨y3, e2, q4⟩ := vInt_ok hq
  exact ⟨y3, ⟨e2, hd⟩, q4⟩
def Q0 (Kn : T0) (Kr : T0) : XPost
  | .normal, g, h => D0 Kn g h
  | .ret, g, h => D0 Kr g h
  | _, _, _ => False
abbrev T1 := (Option Addr) → Nat → Nat → (Option Addr) → Nat → Nat → H → Prop
def E1 (g : Env) (x0b : Option Addr) (x0n : Nat) (x0c : Nat) (x1b : Option Addr) (x1n : Nat) (x1c : Nat) : Prop := g.v 0 = (.slice x0b x0n x0c) ∧ g.v 1 = (.slice x1b x1n x1c) ∧ g.ds = []
def D1 (K : T1) (g : Env) (h : H) : Prop := nilDs g.ds (vSlice (g.v 0) fun s5b s5n s5c => vSlice (g.v 1) fun s6b s6n s6c => K s5b s5n s5c s6b s6n s6c h)
theorem D1_ok {K : T1} {g : Env} {h : H} (hq : D1 K g h) : ∃ (x0b : Option Addr) (x0n : Nat) (x0c : Nat) (x1b : Option Addr) (x1n : Nat) (x1c : Nat), E1 g x0b x0n x0c x1b x1n x1c ∧ K x0b x0n x0c x1b x1n x1c h := by
  obtain ⟨hd, hq⟩ := nilDs_ok hq
  obtain ⟨y8b, y8n, y8c, e7, q9⟩ := vSlice_ok hq
  obtain ⟨y11b, y11n, y11c, e10, q12⟩ := vSlice_ok q9
  exact ⟨y8b, y8n, y8c, y11b, y11n, y11c, ⟨e7, e10, hd⟩, q12⟩
noncomputable def n1_c1 : Code := cFst code
noncomputable def n1_c2 : Code := cSnd code
noncomputable def n2_c1 : Code := cFst n1_c2
noncomputable def n2_c2 : Code := cSnd n1_c2
abbrev T2 := H → Prop
def E2 (g : Env)  : Prop := g.ds = []
def D2 (K : T2) (g : Env) (h : H) : Prop := nilDs g.ds (K h)
theorem D2_ok {K : T2} {g : Env} {h : H} (hq : D2 K g h) : E2 g  ∧ K  h := by
  obtain ⟨hd, hq⟩ := nilDs_ok hq
  skip
  exact ⟨hd, hq⟩
abbrev n3  (Kn : T0) (Kr : T0) (h : H) : Prop :=
  Kr (-1 : Int) h
theorem n3_ok  (Kn : T0) (Kr : T0) (g : Env) (hg : E2 g ) (h : H) (hS : n3  Kn Kr h) : wpC none Try.prog 20 n2_c2 (Q0 Kn Kr) g h := by
  have hds : g.ds = [] := hg
  refine wpC_of_wpx (by kernel_rfl) (by kernel_rfl) (g' := ⟨g.v, []⟩) (by rw [env_ds hds]) ?_
  have e : (n3  Kn Kr h) = wpx none Try.prog 20 n2_c2 (Q0 Kn Kr) (⟨g.v, []⟩) h := by kernel_rfl
  exact e ▸ hS
def Q1 (Kn : T2) (Kr : T0) : XPost
  | .normal, g, h => D2 Kn g h
  | .ret, g, h => D0 Kr g h
  | _, _, _ => False
noncomputable def n4_c1 : Code := cFst n2_c1
noncomputable def n4_c2 : Code := cSnd n2_c1
abbrev T3 := (Option Addr) → Nat → Nat → (Option Addr) → Nat → Nat → Int → H → Prop
def E3 (g : Env) (x0b : Option Addr) (x0n : Nat) (x0c : Nat) (x1b : Option Addr) (x1n : Nat) (x1c : Nat) (x5 : Int) : Prop := g.v 0 = (.slice x0b x0n x0c) ∧ g.v 1 = (.slice x1b x1n x1c) ∧ g.v 5 = (.int .i64 x5) ∧ g.ds = []
def D3 (K : T3) (g : Env) (h : H) : Prop := nilDs g.ds (vSlice (g.v 0) fun s13b s13n s13c => vSlice (g.v 1) fun s14b s14n s14c => vInt .i64 (g.v 5) fun i15 => K s13b s13n s13c s14b s14n s14c i15 h)
theorem D3_ok {K : T3} {g : Env} {h : H} (hq : D3 K g h) : ∃ (x0b : Option Addr) (x0n : Nat) (x0c : Nat) (x1b : Option Addr) (x1n : Nat) (x1c : Nat) (x5 : Int), E3 g x0b x0n x0c x1b x1n x1c x5 ∧ K x0b x0n x0c x1b x1n x1c x5 h := by
  obtain ⟨hd, hq⟩ := nilDs_ok hq
  obtain ⟨y17b, y17n, y17c, e16, q18⟩ := vSlice_ok hq
  obtain ⟨y20b, y20n, y20c, e19, q21⟩ := vSlice_ok q18
  obtain ⟨y23, e22, q24⟩ := vInt_ok q21
  exact ⟨y17b, y17n, y17c, y20b, y20n, y20c, y23, ⟨e16, e19, e22, hd⟩, q24⟩
noncomputable def n5_c1 : Code := cFst n4_c2
def Q2 (Kn : T2) (Ke0 : T2) (Kr : T0) : XPost
  | .normal, g, h => D2 Kn g h
  | .ret, g, h => D0 Kr g h
  | .exit id, g, h => cond (Nat.beq id 0) (D2 Ke0 g h) (False)
  | _, _, _ => False
noncomputable def n6_c1 : Code := cFst n5_c1
def Q3 (Kn : T3) (Ke0 : T2) (Kr : T0) : XPost
  | .normal, g, h => D3 Kn g h
  | .ret, g, h => D0 Kr g h
  | .exit id, g, h => cond (Nat.beq id 0) (D2 Ke0 g h) (False)
  | _, _, _ => False
def n6_L (Kn : T2) (Ke0 : T2) (Kr : T0) : Nat → (Option Addr) → Nat → Nat → (Option Addr) → Nat → Nat → Int → H → Prop
  | 0 => fun _ _ _ _ _ _ _ _ => False
  | N + 1 => fun x0b x0n x0c x1b x1n x1c x5 h => Spl (x5 ≥ (0 : Int)) ((0 ≤ x5 ∧ x5 < (x0n : Int)) ∧ (vSome x0b fun a25 => ∃ i26, cell h (((a25.add (Int.toNat x5 * 4))).add 0) = some (.int .i64 i26) ∧ (∃ i27, cell h (((a25.add (Int.toNat x5 * 4))).add 1) = some (.int .u8 i27) ∧ (∃ s28, cell h (((a25.add (Int.toNat x5 * 4))).add 2) = some (S s28) ∧ (∃ i29, cell h (((a25.add (Int.toNat x5 * 4))).add 3) = some (.int .u8 i29) ∧ (HCalls Try.prog 28 ⟨[(.agg ⟨[(.int .i64 i26), (.int .u8 i27), (S s28), (.int .u8 i29)]⟩), (.slice x1b x1n x1c)]⟩ h fun v30 h31 => vBool v30 fun b32 => cond b32 (Kr x5 h31) (Rng .i64 (x5 - (1 : Int)) ∧ (n6_L Kn Ke0 Kr N x0b x0n x0c x1b x1n x1c (x5 - (1 : Int)) h31)))))))) (Ke0 h)
abbrev n6 (x0b : Option Addr) (x0n : Nat) (x0c : Nat) (x1b : Option Addr) (x1n : Nat) (x1c : Nat) (x5 : Int) (Kn : T2) (Ke0 : T2) (Kr : T0) (h : H) : Prop := ∃ N, n6_L Kn Ke0 Kr N x0b x0n x0c x1b x1n x1c x5 h
theorem n6_ok (x0b : Option Addr) (x0n : Nat) (x0c : Nat) (x1b : Option Addr) (x1n : Nat) (x1c : Nat) (x5 : Int) (Kn : T2) (Ke0 : T2) (Kr : T0) (g : Env) (hg : E3 g x0b x0n x0c x1b x1n x1c x5) (h : H) (hS : n6 x0b x0n x0c x1b x1n x1c x5 Kn Ke0 Kr h) : wpC none Try.prog 20 n5_c1 (Q2 Kn Ke0 Kr) g h := by
  obtain ⟨N0, hS⟩ := hS
  refine wpC_loop' (x := n6_c1) (by kernel_rfl) (fun k g h => ∃ (x0b : Option Addr) (x0n : Nat) (x0c : Nat) (x1b : Option Addr) (x1n : Nat) (x1c : Nat) (x5 : Int), E3 g x0b x0n x0c x1b x1n x1c x5 ∧ n6_L Kn Ke0 Kr k x0b x0n x0c x1b x1n x1c x5 h) (fun g h hr => ?_) (fun N g h hr => ?_) N0 ⟨x0b, x0n, x0c, x1b, x1n, x1c, x5, hg, hS⟩
  · obtain ⟨x0b, x0n, x0c, x1b, x1n, x1c, x5, hg, hS⟩ := hr
    exact hS.elim
  · obtain ⟨x0b, x0n, x0c, x1b, x1n, x1c, x5, hg, hS⟩ := hr
    have hw : wpC none Try.prog 20 n6_c1 (Q3 (fun z0b z0n z0c z1b z1n z1c z5 h => n6_L Kn Ke0 Kr N z0b z0n z0c z1b z1n z1c z5 h) Ke0 Kr) g h := by
      obtain ⟨hg0, hg1, hg5, hds⟩ := hg
      refine wpC_of_wpx (by kernel_rfl) (by kernel_rfl) (g' := (((⟨g.v, []⟩ : Env).upd (some 0) (.slice x0b x0n x0c)).upd (some 1) (.slice x1b x1n x1c)).upd (some 5) (.int .i64 x5)) (by rw [env_ds hds, upd_self hg0, upd_self hg1, upd_self hg5]) ?_
      have e : (n6_L Kn Ke0 Kr (N + 1) x0b x0n x0c x1b x1n x1c x5 h) = wpx none Try.prog 20 n6_c1 (Q3 (fun z0b z0n z0c z1b z1n z1c z5 h => n6_L Kn Ke0 Kr N z0b z0n z0c z1b z1n z1c z5 h) Ke0 Kr) ((((⟨g.v, []⟩ : Env).upd (some 0) (.slice x0b x0n x0c)).upd (some 1) (.slice x1b x1n x1c)).upd (some 5) (.int .i64 x5)) h := by kernel_rfl
      exact e ▸ hS
    refine hw.mono ?_
    intro e g' h' hq
    cases e with
    | normal => exact D3_ok (K := (fun z0b z0n z0c z1b z1n z1c z5 h => n6_L Kn Ke0 Kr N z0b z0n z0c z1b z1n z1c z5 h)) hq
    | _ => exact hq
abbrev n5 (x0b : Option Addr) (x0n : Nat) (x0c : Nat) (x1b : Option Addr) (x1n : Nat) (x1c : Nat) (x5 : Int) (Kn : T2) (Kr : T0) (h : H) : Prop := n6 x0b x0n x0c x1b x1n x1c x5 Kn Kn Kr h
theorem n5_ok (x0b : Option Addr) (x0n : Nat) (x0c : Nat) (x1b : Option Addr) (x1n : Nat) (x1c : Nat) (x5 : Int) (Kn : T2) (Kr : T0) (g : Env) (hg : E3 g x0b x0n x0c x1b x1n x1c x5) (h : H) (hS : n5 x0b x0n x0c x1b x1n x1c x5 Kn Kr h) : wpC none Try.prog 20 n4_c2 (Q1 Kn Kr) g h := by
  refine wpC_block' (id := 0) (x := n5_c1) (by kernel_rfl) (n6_ok x0b x0n x0c x1b x1n x1c x5 Kn Kn Kr g hg h hS) ?_
  intro e g' h' hq
  cases e <;> exact hq
def Q4 (Kn : T3) (Kr : T0) : XPost
  | .normal, g, h => D3 Kn g h
  | .ret, g, h => D0 Kr g h
  | _, _, _ => False
abbrev n4 (x0b : Option Addr) (x0n : Nat) (x0c : Nat) (x1b : Option Addr) (x1n : Nat) (x1c : Nat) (Kn : T2) (Kr : T0) (h : H) : Prop :=
  Rng .i64 ((x0n : Int) - (1 : Int)) ∧ (n5 x0b x0n x0c x1b x1n x1c ((x0n : Int) - (1 : Int)) Kn Kr h)
theorem n4_ok (x0b : Option Addr) (x0n : Nat) (x0c : Nat) (x1b : Option Addr) (x1n : Nat) (x1c : Nat) (Kn : T2) (Kr : T0) (g : Env) (hg : E1 g x0b x0n x0c x1b x1n x1c) (h : H) (hS : n4 x0b x0n x0c x1b x1n x1c Kn Kr h) : wpC none Try.prog 20 n2_c1 (Q1 Kn Kr) g h := by
  obtain ⟨hg0, hg1, hds⟩ := hg
  refine wpC_seq' (x := n4_c1) (y := n4_c2) (Q' := (Q4 (fun z0b z0n z0c z1b z1n z1c z5 h => n5 z0b z0n z0c z1b z1n z1c z5 Kn Kr h) Kr)) (by kernel_rfl) ?_ ?_
  · refine wpC_of_wpx (by kernel_rfl) (by kernel_rfl) (g' := ((⟨g.v, []⟩ : Env).upd (some 0) (.slice x0b x0n x0c)).upd (some 1) (.slice x1b x1n x1c)) (by rw [env_ds hds, upd_self hg0, upd_self hg1]) ?_
    have e : (n4 x0b x0n x0c x1b x1n x1c Kn Kr h) = wpx none Try.prog 20 n4_c1 (Q4 (fun z0b z0n z0c z1b z1n z1c z5 h => n5 z0b z0n z0c z1b z1n z1c z5 Kn Kr h) Kr) (((⟨g.v, []⟩ : Env).upd (some 0) (.slice x0b x0n x0c)).upd (some 1) (.slice x1b x1n x1c)) h := by kernel_rfl
    exact e ▸ hS
  · intro e g' h' hq
    cases e with
    | normal =>
      have hq : D3 (fun z0b z0n z0c z1b z1n z1c z5 h => n5 z0b z0n z0c z1b z1n z1c z5 Kn Kr h) g' h' := hq
      obtain ⟨y0b, y0n, y0c, y1b, y1n, y1c, y5, hg', hq⟩ := D3_ok hq
      exact n5_ok y0b y0n y0c y1b y1n y1c y5 Kn Kr g' hg' h' hq
    | _ => exact hq
abbrev n2 (x0b : Option Addr) (x0n : Nat) (x0c : Nat) (x1b : Option Addr) (x1n : Nat) (x1c : Nat) (Kn : T0) (Kr : T0) (h : H) : Prop := n4 x0b x0n x0c x1b x1n x1c (fun  h => n3 Kn Kr h) Kr h
theorem n2_ok (x0b : Option Addr) (x0n : Nat) (x0c : Nat) (x1b : Option Addr) (x1n : Nat) (x1c : Nat) (Kn : T0) (Kr : T0) (g : Env) (hg : E1 g x0b x0n x0c x1b x1n x1c) (h : H) (hS : n2 x0b x0n x0c x1b x1n x1c Kn Kr h) : wpC none Try.prog 20 n1_c2 (Q0 Kn Kr) g h := by
  refine wpC_seq' (x := n2_c1) (y := n2_c2) (by kernel_rfl) (n4_ok x0b x0n x0c x1b x1n x1c (fun  h => n3 Kn Kr h) Kr g hg h hS) ?_
  intro e g' h' hq
  cases e with
  | normal =>
    have hq : D2 (fun  h => n3 Kn Kr h) g' h' := hq
    obtain ⟨hg', hq⟩ := D2_ok hq
    exact n3_ok  Kn Kr g' hg' h' hq
  | _ => exact hq
def Q5 (Kn : T1) (Kr : T0) : XPost
  | .normal, g, h => D1 Kn g h
  | .ret, g, h => D0 Kr g h
  | _, _, _ => False
abbrev n1 (x0b : Option Addr) (x0n : Nat) (x0c : Nat) (x1b : Option Addr) (x1n : Nat) (x1c : Nat) (Kn : T0) (Kr : T0) (h : H) : Prop :=
  n2 x0b x0n x0c x1b x1n x1c Kn Kr h
theorem n1_ok (x0b : Option Addr) (x0n : Nat) (x0c : Nat) (x1b : Option Addr) (x1n : Nat) (x1c : Nat) (Kn : T0) (Kr : T0) (g : Env) (hg : E1 g x0b x0n x0c x1b x1n x1c) (h : H) (hS : n1 x0b x0n x0c x1b x1n x1c Kn Kr h) : wpC none Try.prog 20 code (Q0 Kn Kr) g h := by
  obtain ⟨hg0, hg1, hds⟩ := hg
  refine wpC_seq' (x := n1_c1) (y := n1_c2) (Q' := (Q5 (fun z0b z0n z0c z1b z1n z1c h => n2 z0b z0n z0c z1b z1n z1c Kn Kr h) Kr)) (by kernel_rfl) ?_ ?_
  · refine wpC_of_wpx (by kernel_rfl) (by kernel_rfl) (g' := ((⟨g.v, []⟩ : Env).upd (some 0) (.slice x0b x0n x0c)).upd (some 1) (.slice x1b x1n x1c)) (by rw [env_ds hds, upd_self hg0, upd_self hg1]) ?_
    have e : (n1 x0b x0n x0c x1b x1n x1c Kn Kr h) = wpx none Try.prog 20 n1_c1 (Q5 (fun z0b z0n z0c z1b z1n z1c h => n2 z0b z0n z0c z1b z1n z1c Kn Kr h) Kr) (((⟨g.v, []⟩ : Env).upd (some 0) (.slice x0b x0n x0c)).upd (some 1) (.slice x1b x1n x1c)) h := by kernel_rfl
    exact e ▸ hS
  · intro e g' h' hq
    cases e with
    | normal =>
      have hq : D1 (fun z0b z0n z0c z1b z1n z1c h => n2 z0b z0n z0c z1b z1n z1c Kn Kr h) g' h' := hq
      obtain ⟨y0b, y0n, y0c, y1b, y1n, y1c, hg', hq⟩ := D1_ok hq
      exact n2_ok y0b y0n y0c y1b y1n y1c Kn Kr g' hg' h' hq
    | _ => exact hq
/-- WHAT tympan/tympanref11.Until ASKS -/
abbrev asks (x0b : Option Addr) (x0n : Nat) (x0c : Nat) (x1b : Option Addr) (x1n : Nat) (x1c : Nat) (K : Value → H → Prop) (h : H) : Prop := n1 x0b x0n x0c x1b x1n x1c (fun y4 h => K (.int .i64 y4) h) (fun y4 h => K (.int .i64 y4) h) h
theorem ok (x0b : Option Addr) (x0n : Nat) (x0c : Nat) (x1b : Option Addr) (x1n : Nat) (x1c : Nat) (K : Value → H → Prop) (h : H) (hS : asks x0b x0n x0c x1b x1n x1c K h) : HCalls Try.prog 19 ⟨[(.slice x0b x0n x0c), (.slice x1b x1n x1c)]⟩ h K := by
  refine calls_of_wpC (c := code) Try.func19 (by kernel_rfl) (Nat.le_of_ble_eq_true (by kernel_rfl)) ?_
  refine (n1_ok x0b x0n x0c x1b x1n x1c (fun y4 h => K (.int .i64 y4) h) (fun y4 h => K (.int .i64 y4) h) (env0 [(.slice x0b x0n x0c), (.slice x1b x1n x1c)]) ⟨rfl, rfl, rfl⟩ h hS).mono ?_
  intro e g' h' hq
  cases e with
  | normal =>
    have hq : D0 (fun y4 h => K (.int .i64 y4) h) g' h' := hq
    obtain ⟨y4, ⟨hg4, hd⟩, hq⟩ := D0_ok hq
    show leaveX g'.ds h' _
    rw [hd]
    show K (g'.v 4) h'
    rw [hg4]
    exact hq
  | ret =>
    have hq : D0 (fun y4 h => K (.int .i64 y4) h) g' h' := hq
    obtain ⟨y4, ⟨hg4, hd⟩, hq⟩ := D0_ok hq
    show leaveX g'.ds h' _
    rw [hd]
    show K (g'.v 4) h'
    rw [hg4]
    exact hq
  | _ => exact hq
end Sx.r11_Until

/-! ### tympan/open.Clear -/
namespace Sx.open_Clear
noncomputable def code : Code := bodyOf Try.f20
abbrev T0 := Addr → (List Deferred) → H → Prop
def E0 (g : Env) (x4 : Addr) (ds : List Deferred) : Prop := g.v 4 = (.pointer (some x4)) ∧ g.ds = ds
def D0 (K : T0) (g : Env) (h : H) : Prop := vAddr (g.v 4) fun a1 => K a1 g.ds h
theorem D0_ok {K : T0} {g : Env} {h : H} (hq : D0 K g h) : ∃ (x4 : Addr) (ds : List Deferred), E0 g x4 ds ∧ K x4 ds h := by
  obtain ⟨y3, e2, q4⟩ := vAddr_ok hq
  exact ⟨y3, g.ds, ⟨e2, rfl⟩, q4⟩
theorem D0_mk {K : T0} {g : Env} {h : H} {x4 : Addr} {ds : List Deferred} (hg : E0 g x4 ds) (hk : K x4 ds h) : D0 K g h := by
  obtain ⟨hg4, hds⟩ := hg
  unfold D0
  rw [hg4, hds]
  exact hk
def Q0 (Kn : T0) (Kr : T0) : XPost
  | .normal, g, h => D0 Kn g h
  | .ret, g, h => D0 Kr g h
  | _, _, _ => False
abbrev T1 := (Option Addr) → Nat → Nat → (Option Addr) → Nat → Nat → (List Deferred) → H → Prop
def E1 (g : Env) (x0b : Option Addr) (x0n : Nat) (x0c : Nat) (x1b : Option Addr) (x1n : Nat) (x1c : Nat) (ds : List Deferred) : Prop := g.v 0 = (.slice x0b x0n x0c) ∧ g.v 1 = (.slice x1b x1n x1c) ∧ g.ds = ds
def D1 (K : T1) (g : Env) (h : H) : Prop := vSlice (g.v 0) fun s5b s5n s5c => vSlice (g.v 1) fun s6b s6n s6c => K s5b s5n s5c s6b s6n s6c g.ds h
theorem D1_ok {K : T1} {g : Env} {h : H} (hq : D1 K g h) : ∃ (x0b : Option Addr) (x0n : Nat) (x0c : Nat) (x1b : Option Addr) (x1n : Nat) (x1c : Nat) (ds : List Deferred), E1 g x0b x0n x0c x1b x1n x1c ds ∧ K x0b x0n x0c x1b x1n x1c ds h := by
  obtain ⟨y8b, y8n, y8c, e7, q9⟩ := vSlice_ok hq
  obtain ⟨y11b, y11n, y11c, e10, q12⟩ := vSlice_ok q9
  exact ⟨y8b, y8n, y8c, y11b, y11n, y11c, g.ds, ⟨e7, e10, rfl⟩, q12⟩
theorem D1_mk {K : T1} {g : Env} {h : H} {x0b : Option Addr} {x0n : Nat} {x0c : Nat} {x1b : Option Addr} {x1n : Nat} {x1c : Nat} {ds : List Deferred} (hg : E1 g x0b x0n x0c x1b x1n x1c ds) (hk : K x0b x0n x0c x1b x1n x1c ds h) : D1 K g h := by
  obtain ⟨hg0, hg1, hds⟩ := hg
  unfold D1
  rw [hg0, hg1, hds]
  exact hk
noncomputable def n1_c1 : Code := cFst code
noncomputable def n1_c2 : Code := cSnd code
abbrev T2 := (Option Addr) → Nat → Nat → Addr → Addr → (List Deferred) → H → Prop
def E2 (g : Env) (x0b : Option Addr) (x0n : Nat) (x0c : Nat) (x3 : Addr) (x4 : Addr) (ds : List Deferred) : Prop := g.v 0 = (.slice x0b x0n x0c) ∧ g.v 3 = (.pointer (some x3)) ∧ g.v 4 = (.pointer (some x4)) ∧ g.ds = ds
def D2 (K : T2) (g : Env) (h : H) : Prop := vSlice (g.v 0) fun s13b s13n s13c => vAddr (g.v 3) fun a14 => vAddr (g.v 4) fun a15 => K s13b s13n s13c a14 a15 g.ds h
theorem D2_ok {K : T2} {g : Env} {h : H} (hq : D2 K g h) : ∃ (x0b : Option Addr) (x0n : Nat) (x0c : Nat) (x3 : Addr) (x4 : Addr) (ds : List Deferred), E2 g x0b x0n x0c x3 x4 ds ∧ K x0b x0n x0c x3 x4 ds h := by
  obtain ⟨y17b, y17n, y17c, e16, q18⟩ := vSlice_ok hq
  obtain ⟨y20, e19, q21⟩ := vAddr_ok q18
  obtain ⟨y23, e22, q24⟩ := vAddr_ok q21
  exact ⟨y17b, y17n, y17c, y20, y23, g.ds, ⟨e16, e19, e22, rfl⟩, q24⟩
theorem D2_mk {K : T2} {g : Env} {h : H} {x0b : Option Addr} {x0n : Nat} {x0c : Nat} {x3 : Addr} {x4 : Addr} {ds : List Deferred} (hg : E2 g x0b x0n x0c x3 x4 ds) (hk : K x0b x0n x0c x3 x4 ds h) : D2 K g h := by
  obtain ⟨hg0, hg3, hg4, hds⟩ := hg
  unfold D2
  rw [hg0, hg3, hg4, hds]
  exact hk
noncomputable def n2_c1 : Code := cFst n1_c2
noncomputable def n2_c2 : Code := cSnd n1_c2
abbrev n3 (x4 : Addr) (ds : List Deferred) (Kn : T0) (Kr : T0) (h : H) : Prop :=
  stL x4 [(.int .i64 (0 : Int))] 0 h fun h25 => Kr x4 ds h25
theorem n3_ok (x4 : Addr) (ds : List Deferred) (Kn : T0) (Kr : T0) (g : Env) (hg : E0 g x4 ds) (h : H) (hS : n3 x4 ds Kn Kr h) : wpC none Try.prog 21 n2_c2 (Q0 Kn Kr) g h := by
  obtain ⟨hg4, hds⟩ := hg
  refine wpC_of_wpx (by kernel_rfl) (by kernel_rfl) (g' := (⟨g.v, ds⟩ : Env).upd (some 4) (.pointer (some x4))) (by rw [env_ds hds, upd_self hg4]) ?_
  have e : (n3 x4 ds Kn Kr h) = wpx none Try.prog 21 n2_c2 (Q0 Kn Kr) ((⟨g.v, ds⟩ : Env).upd (some 4) (.pointer (some x4))) h := by kernel_rfl
  exact e ▸ hS
noncomputable def n4_c1 : Code := cFst n2_c1
noncomputable def n4_c2 : Code := cSnd n2_c1
abbrev T3 := Addr → Addr → Value → (List Deferred) → H → Prop
def E3 (g : Env) (x3 : Addr) (x4 : Addr) (x8 : Value) (ds : List Deferred) : Prop := g.v 3 = (.pointer (some x3)) ∧ g.v 4 = (.pointer (some x4)) ∧ g.v 8 = x8 ∧ g.ds = ds
def D3 (K : T3) (g : Env) (h : H) : Prop := vAddr (g.v 3) fun a26 => vAddr (g.v 4) fun a27 => K a26 a27 (g.v 8) g.ds h
theorem D3_ok {K : T3} {g : Env} {h : H} (hq : D3 K g h) : ∃ (x3 : Addr) (x4 : Addr) (x8 : Value) (ds : List Deferred), E3 g x3 x4 x8 ds ∧ K x3 x4 x8 ds h := by
  obtain ⟨y29, e28, q30⟩ := vAddr_ok hq
  obtain ⟨y32, e31, q33⟩ := vAddr_ok q30
  exact ⟨y29, y32, (g.v 8), g.ds, ⟨e28, e31, rfl, rfl⟩, q33⟩
theorem D3_mk {K : T3} {g : Env} {h : H} {x3 : Addr} {x4 : Addr} {x8 : Value} {ds : List Deferred} (hg : E3 g x3 x4 x8 ds) (hk : K x3 x4 x8 ds h) : D3 K g h := by
  obtain ⟨hg3, hg4, hg8, hds⟩ := hg
  unfold D3
  rw [hg3, hg4, hg8, hds]
  exact hk
noncomputable def n5_c1 : Code := cFst n4_c2
def Q1 (Kn : T0) (Ke0 : T0) (Kr : T0) : XPost
  | .normal, g, h => D0 Kn g h
  | .ret, g, h => D0 Kr g h
  | .exit id, g, h => cond (Nat.beq id 0) (D0 Ke0 g h) (False)
  | _, _, _ => False
noncomputable def n6_c1 : Code := cFst n5_c1
noncomputable def n6_c2 : Code := cSnd n5_c1
def n6_rd (x3 : Addr) (x4 : Addr) (x8 : Value) (ds : List Deferred) (Kn : T0) (Ke0 : T0) (Kr : T0) (h : H) (p9 : Int) (p10_0 : Int) (p10_1 : Int) (p10_2 : List UInt8) (p10_3 : Int) (Mid : H → (H → Prop) → Prop) (Kc : H → H → Prop) (Fin : H → H → (H → Prop) → Prop) (h1 : H) : Prop :=
  newx h1 ⟨[(.int .i64 (0 : Int)), (.int .u8 (0 : Int)), (S ([] : List UInt8)), (.int .u8 (0 : Int))]⟩ 37 fun a34 h35 => stL a34 [(.int .i64 p10_0), (.int .u8 p10_1), (S p10_2), (.int .u8 p10_3)] 0 h35 fun h36 => Mid h36 fun hb37 => ∃ i38, cell hb37 ((a34).add 0) = some (.int .i64 i38) ∧ (∃ i39, cell hb37 ((a34).add 1) = some (.int .u8 i39) ∧ (∃ s40, cell hb37 ((a34).add 2) = some (S s40) ∧ (∃ i41, cell hb37 ((a34).add 3) = some (.int .u8 i41) ∧ (∃ s42b s42n s42c, cell hb37 x3 = some (.slice s42b s42n s42c) ∧ (HCalls Try.prog 26 ⟨[(.agg ⟨[(.int .i64 i38), (.int .u8 i39), (S s40), (.int .u8 i41)]⟩), (.slice s42b s42n s42c)]⟩ hb37 fun v43 h44 => vBool v43 fun b45 => cond b45 (Rng .i64 (p9 + (1 : Int)) ∧ (stL x4 [(.int .i64 (p9 + (1 : Int)))] 0 h44 fun h46 => Fin hb37 h46 fun h47 => Kr x4 (markD h.size :: ds) h47)) (∃ i48, cell h44 ((a34).add 0) = some (.int .i64 i48) ∧ (∃ i49, cell h44 ((a34).add 1) = some (.int .u8 i49) ∧ (∃ s50, cell h44 ((a34).add 2) = some (S s50) ∧ (∃ i51, cell h44 ((a34).add 3) = some (.int .u8 i51) ∧ (newx h44 #[(S ([104, 116, 109, 108] : List UInt8)), (S ([116, 101, 109, 112, 108, 97, 116, 101] : List UInt8))] 9 fun a52 h53 => HCalls Try.prog 26 ⟨[(.agg ⟨[(.int .i64 i48), (.int .u8 i49), (S s50), (.int .u8 i51)]⟩), (.slice (some a52) 2 2)]⟩ h53 fun v54 h55 => vBool v54 fun b56 => cond b56 (Rng .i64 (p9 + (1 : Int)) ∧ (stL x4 [(.int .i64 (p9 + (1 : Int)))] 0 h55 fun h57 => Fin hb37 h57 fun h58 => Kr x4 (markD h.size :: ds) h58)) (Kc hb37 h55)))))))))))
abbrev n6 (x3 : Addr) (x4 : Addr) (x8 : Value) (ds : List Deferred) (Kn : T0) (Ke0 : T0) (Kr : T0) (h : H) : Prop := Ranges Try.prog x8 2 h (fun l59 Mid Kc Fin h1 => uncons l59 fun e60 l61 => vInt .i64 e60 fun i62 => uncons l61 fun e63 l64 => vAgg e63 fun l65 => uncons l65 fun e66 l67 => vInt .i64 e66 fun i68 => uncons l67 fun e69 l70 => vInt .u8 e69 fun i71 => uncons l70 fun e72 l73 => vStr e72 fun s74 => uncons l73 fun e75 l76 => vInt .u8 e75 fun i77 => unnil l76 (unnil l64 (n6_rd x3 x4 x8 ds Kn Ke0 Kr h i62 i68 i71 s74 i77 Mid Kc Fin h1))) (fun h4 => Kn x4 (markD h.size :: ds) h4)
theorem n6_ok (x3 : Addr) (x4 : Addr) (x8 : Value) (ds : List Deferred) (Kn : T0) (Ke0 : T0) (Kr : T0) (g : Env) (hg : E3 g x3 x4 x8 ds) (h : H) (hS : n6 x3 x4 x8 ds Kn Ke0 Kr h) : wpC none Try.prog 21 n5_c1 (Q1 Kn Ke0 Kr) g h := by
  obtain ⟨hg3, hg4, hg8, hds⟩ := hg
  subst hds
  have ho : ((((⟨g.v, g.ds⟩ : Env).upd (some 3) (.pointer (some x3))).upd (some 4) (.pointer (some x4))).upd (some 8) x8 : Env) = g := by rw [env_ds rfl, upd_self hg3, upd_self hg4, upd_self hg8]
  have hc : n5_c1 = .rangeFunc (.tmp 8) #[9, 10] n6_c1 n6_c2 := by kernel_rfl
  rw [hc]
  refine wpC_range (f := x8) (rd := (fun l59 Mid Kc Fin h1 => uncons l59 fun e60 l61 => vInt .i64 e60 fun i62 => uncons l61 fun e63 l64 => vAgg e63 fun l65 => uncons l65 fun e66 l67 => vInt .i64 e66 fun i68 => uncons l67 fun e69 l70 => vInt .u8 e69 fun i71 => uncons l70 fun e72 l73 => vStr e72 fun s74 => uncons l73 fun e75 l76 => vInt .u8 e75 fun i77 => unnil l76 (unnil l64 (n6_rd x3 x4 x8 g.ds Kn Ke0 Kr h i62 i68 i71 s74 i77 Mid Kc Fin h1)))) (done := (fun h4 => Kn x4 (markD h.size :: g.ds) h4)) ?_ hS ?_ ?_
  · rw [← ho]; kernel_rfl
  · intro h4 hd
    have e : (Kn x4 (markD h.size :: g.ds) h4) = (Q1 Kn Ke0 Kr) .normal ⟨((((⟨g.v, g.ds⟩ : Env).upd (some 3) (.pointer (some x3))).upd (some 4) (.pointer (some x4))).upd (some 8) x8).v, markD h.size :: g.ds⟩ h4 := by kernel_rfl
    rw [ho] at e
    exact e ▸ hd
  · intro L x Mid Kc Fin h1 hM hx
    obtain ⟨u78, l79, rfl, q80⟩ := uncons_ok hx
    obtain ⟨y81, rfl, q82⟩ := vInt_ok q80
    obtain ⟨u83, l84, rfl, q85⟩ := uncons_ok q82
    obtain ⟨l86, rfl, q87⟩ := vAgg_ok q85
    obtain ⟨u88, l89, rfl, q90⟩ := uncons_ok q87
    obtain ⟨y91, rfl, q92⟩ := vInt_ok q90
    obtain ⟨u93, l94, rfl, q95⟩ := uncons_ok q92
    obtain ⟨y96, rfl, q97⟩ := vInt_ok q95
    obtain ⟨u98, l99, rfl, q100⟩ := uncons_ok q97
    obtain ⟨y101, rfl, q102⟩ := vStr_ok q100
    obtain ⟨u103, l104, rfl, q105⟩ := uncons_ok q102
    obtain ⟨y106, rfl, q107⟩ := vInt_ok q105
    obtain ⟨rfl, q108⟩ := unnil_ok q107
    obtain ⟨rfl, q109⟩ := unnil_ok q108
    have e : (n6_rd x3 x4 x8 g.ds Kn Ke0 Kr h y81 y91 y96 y101 y106 Mid Kc Fin h1) = wpx (some L) Try.prog 21 n6_c1 (thenX (fun g1 he => Mid he fun hb => wpx (some L) Try.prog 21 n6_c2 (rpost Kc Fin (Q1 Kn Ke0 Kr) ⟨((((⟨g.v, g.ds⟩ : Env).upd (some 3) (.pointer (some x3))).upd (some 4) (.pointer (some x4))).upd (some 8) x8).v, markD h.size :: g.ds⟩ hb) g1 hb) fun _ _ _ => False) (setps ((((⟨g.v, g.ds⟩ : Env).upd (some 3) (.pointer (some x3))).upd (some 4) (.pointer (some x4))).upd (some 8) x8) [9, 10] [(.int .i64 y81), (.agg ⟨[(.int .i64 y91), (.int .u8 y96), (S y101), (.int .u8 y106)]⟩)]) h1 := by kernel_rfl
    rw [ho] at e
    exact (wpx_ok (by kernel_rfl) _ _ _ _ (by kernel_rfl) (e ▸ q109)).mono (thenX_mono fun g1 he hm => hM he _ _ (fun hb => wpx_ok (by kernel_rfl) _ _ _ _ (by kernel_rfl)) hm)
abbrev n5 (x3 : Addr) (x4 : Addr) (x8 : Value) (ds : List Deferred) (Kn : T0) (Kr : T0) (h : H) : Prop := n6 x3 x4 x8 ds Kn Kn Kr h
theorem n5_ok (x3 : Addr) (x4 : Addr) (x8 : Value) (ds : List Deferred) (Kn : T0) (Kr : T0) (g : Env) (hg : E3 g x3 x4 x8 ds) (h : H) (hS : n5 x3 x4 x8 ds Kn Kr h) : wpC none Try.prog 21 n4_c2 (Q0 Kn Kr) g h := by
  refine wpC_block' (id := 0) (x := n5_c1) (by kernel_rfl) (n6_ok x3 x4 x8 ds Kn Kn Kr g hg h hS) ?_
  intro e g' h' hq
  cases e <;> exact hq
def Q2 (Kn : T3) (Kr : T0) : XPost
  | .normal, g, h => D3 Kn g h
  | .ret, g, h => D0 Kr g h
  | _, _, _ => False
abbrev n4 (x0b : Option Addr) (x0n : Nat) (x0c : Nat) (x3 : Addr) (x4 : Addr) (ds : List Deferred) (Kn : T0) (Kr : T0) (h : H) : Prop :=
  HCalls Try.prog 25 ⟨[(.slice x0b x0n x0c)]⟩ h fun v110 h111 => n5 x3 x4 v110 ds Kn Kr h111
theorem n4_ok (x0b : Option Addr) (x0n : Nat) (x0c : Nat) (x3 : Addr) (x4 : Addr) (ds : List Deferred) (Kn : T0) (Kr : T0) (g : Env) (hg : E2 g x0b x0n x0c x3 x4 ds) (h : H) (hS : n4 x0b x0n x0c x3 x4 ds Kn Kr h) : wpC none Try.prog 21 n2_c1 (Q0 Kn Kr) g h := by
  obtain ⟨hg0, hg3, hg4, hds⟩ := hg
  refine wpC_seq' (x := n4_c1) (y := n4_c2) (Q' := (Q2 (fun z3 z4 z8 zds h => n5 z3 z4 z8 zds Kn Kr h) Kr)) (by kernel_rfl) ?_ ?_
  · refine wpC_of_wpx (by kernel_rfl) (by kernel_rfl) (g' := (((⟨g.v, ds⟩ : Env).upd (some 0) (.slice x0b x0n x0c)).upd (some 3) (.pointer (some x3))).upd (some 4) (.pointer (some x4))) (by rw [env_ds hds, upd_self hg0, upd_self hg3, upd_self hg4]) ?_
    have e : (n4 x0b x0n x0c x3 x4 ds Kn Kr h) = wpx none Try.prog 21 n4_c1 (Q2 (fun z3 z4 z8 zds h => n5 z3 z4 z8 zds Kn Kr h) Kr) ((((⟨g.v, ds⟩ : Env).upd (some 0) (.slice x0b x0n x0c)).upd (some 3) (.pointer (some x3))).upd (some 4) (.pointer (some x4))) h := by kernel_rfl
    exact e ▸ hS
  · intro e g' h' hq
    cases e with
    | normal =>
      have hq : D3 (fun z3 z4 z8 zds h => n5 z3 z4 z8 zds Kn Kr h) g' h' := hq
      obtain ⟨y3, y4, y8, yds, hg', hq⟩ := D3_ok hq
      exact n5_ok y3 y4 y8 yds Kn Kr g' hg' h' hq
    | _ => exact hq
abbrev n2 (x0b : Option Addr) (x0n : Nat) (x0c : Nat) (x3 : Addr) (x4 : Addr) (ds : List Deferred) (Kn : T0) (Kr : T0) (h : H) : Prop := n4 x0b x0n x0c x3 x4 ds (fun z4 zds h => n3 z4 zds Kn Kr h) Kr h
theorem n2_ok (x0b : Option Addr) (x0n : Nat) (x0c : Nat) (x3 : Addr) (x4 : Addr) (ds : List Deferred) (Kn : T0) (Kr : T0) (g : Env) (hg : E2 g x0b x0n x0c x3 x4 ds) (h : H) (hS : n2 x0b x0n x0c x3 x4 ds Kn Kr h) : wpC none Try.prog 21 n1_c2 (Q0 Kn Kr) g h := by
  refine wpC_seq' (x := n2_c1) (y := n2_c2) (by kernel_rfl) (n4_ok x0b x0n x0c x3 x4 ds (fun z4 zds h => n3 z4 zds Kn Kr h) Kr g hg h hS) ?_
  intro e g' h' hq
  cases e with
  | normal =>
    have hq : D0 (fun z4 zds h => n3 z4 zds Kn Kr h) g' h' := hq
    obtain ⟨y4, yds, hg', hq⟩ := D0_ok hq
    exact n3_ok y4 yds Kn Kr g' hg' h' hq
  | _ => exact hq
def Q3 (Kn : T2) (Kr : T0) : XPost
  | .normal, g, h => D2 Kn g h
  | .ret, g, h => D0 Kr g h
  | _, _, _ => False
abbrev n1 (x0b : Option Addr) (x0n : Nat) (x0c : Nat) (x1b : Option Addr) (x1n : Nat) (x1c : Nat) (ds : List Deferred) (Kn : T0) (Kr : T0) (h : H) : Prop :=
  newx h #[(.slice x1b x1n x1c)] 23 fun a112 h113 => newx h113 #[(.int .i64 (0 : Int))] 3 fun a114 h115 => n2 x0b x0n x0c a112 a114 ds Kn Kr h115
theorem n1_ok (x0b : Option Addr) (x0n : Nat) (x0c : Nat) (x1b : Option Addr) (x1n : Nat) (x1c : Nat) (ds : List Deferred) (Kn : T0) (Kr : T0) (g : Env) (hg : E1 g x0b x0n x0c x1b x1n x1c ds) (h : H) (hS : n1 x0b x0n x0c x1b x1n x1c ds Kn Kr h) : wpC none Try.prog 21 code (Q0 Kn Kr) g h := by
  obtain ⟨hg0, hg1, hds⟩ := hg
  refine wpC_seq' (x := n1_c1) (y := n1_c2) (Q' := (Q3 (fun z0b z0n z0c z3 z4 zds h => n2 z0b z0n z0c z3 z4 zds Kn Kr h) Kr)) (by kernel_rfl) ?_ ?_
  · refine wpC_of_wpx (by kernel_rfl) (by kernel_rfl) (g' := ((⟨g.v, ds⟩ : Env).upd (some 0) (.slice x0b x0n x0c)).upd (some 1) (.slice x1b x1n x1c)) (by rw [env_ds hds, upd_self hg0, upd_self hg1]) ?_
    have e : (n1 x0b x0n x0c x1b x1n x1c ds Kn Kr h) = wpx none Try.prog 21 n1_c1 (Q3 (fun z0b z0n z0c z3 z4 zds h => n2 z0b z0n z0c z3 z4 zds Kn Kr h) Kr) (((⟨g.v, ds⟩ : Env).upd (some 0) (.slice x0b x0n x0c)).upd (some 1) (.slice x1b x1n x1c)) h := by kernel_rfl
    exact e ▸ hS
  · intro e g' h' hq
    cases e with
    | normal =>
      have hq : D2 (fun z0b z0n z0c z3 z4 zds h => n2 z0b z0n z0c z3 z4 zds Kn Kr h) g' h' := hq
      obtain ⟨y0b, y0n, y0c, y3, y4, yds, hg', hq⟩ := D2_ok hq
      exact n2_ok y0b y0n y0c y3 y4 yds Kn Kr g' hg' h' hq
    | _ => exact hq
/-- WHAT tympan/open.Clear ASKS -/
abbrev asks (x0b : Option Addr) (x0n : Nat) (x0c : Nat) (x1b : Option Addr) (x1n : Nat) (x1c : Nat) (K : Value → H → Prop) (h : H) : Prop := n1 x0b x0n x0c x1b x1n x1c [] (fun y4 ds h => leaveX ds h fun h => ∃ i116, cell h y4 = some (.int .i64 i116) ∧ (K (.int .i64 i116) h)) (fun y4 ds h => leaveX ds h fun h => ∃ i116, cell h y4 = some (.int .i64 i116) ∧ (K (.int .i64 i116) h)) h
theorem ok (x0b : Option Addr) (x0n : Nat) (x0c : Nat) (x1b : Option Addr) (x1n : Nat) (x1c : Nat) (K : Value → H → Prop) (h : H) (hS : asks x0b x0n x0c x1b x1n x1c K h) : HCalls Try.prog 20 ⟨[(.slice x0b x0n x0c), (.slice x1b x1n x1c)]⟩ h K := by
  refine calls_of_wpC (c := code) Try.func20 (by kernel_rfl) (Nat.le_of_ble_eq_true (by kernel_rfl)) ?_
  refine (n1_ok x0b x0n x0c x1b x1n x1c [] (fun y4 ds h => leaveX ds h fun h => ∃ i116, cell h y4 = some (.int .i64 i116) ∧ (K (.int .i64 i116) h)) (fun y4 ds h => leaveX ds h fun h => ∃ i116, cell h y4 = some (.int .i64 i116) ∧ (K (.int .i64 i116) h)) (env0 [(.slice x0b x0n x0c), (.slice x1b x1n x1c)]) ⟨rfl, rfl, rfl⟩ h hS).mono ?_
  intro e g' h' hq
  cases e with
  | normal =>
    have hq : D0 (fun y4 ds h => leaveX ds h fun h => ∃ i116, cell h y4 = some (.int .i64 i116) ∧ (K (.int .i64 i116) h)) g' h' := hq
    obtain ⟨y4, ds, ⟨hg4, hd⟩, hq⟩ := D0_ok hq
    show leaveX g'.ds h' _
    rw [hd]
    show leaveX ds h' fun h => vAddr (g'.v 4) fun a117 => ldx Try.prog 3 a117 h fun v118 => K v118 h
    rw [hg4]
    exact hq
  | ret =>
    have hq : D0 (fun y4 ds h => leaveX ds h fun h => ∃ i116, cell h y4 = some (.int .i64 i116) ∧ (K (.int .i64 i116) h)) g' h' := hq
    obtain ⟨y4, ds, ⟨hg4, hd⟩, hq⟩ := D0_ok hq
    show leaveX g'.ds h' _
    rw [hd]
    show leaveX ds h' fun h => vAddr (g'.v 4) fun a117 => ldx Try.prog 3 a117 h fun v118 => K v118 h
    rw [hg4]
    exact hq
  | _ => exact hq
end Sx.open_Clear

/-! ### tympan/tympanref11.Clear -/
namespace Sx.r11_Clear
noncomputable def code : Code := bodyOf Try.f21
abbrev T0 := Int → H → Prop
def E0 (g : Env) (x4 : Int) : Prop := g.v 4 = (.int .i64 x4) ∧ g.ds = []
def D0 (K : T0) (g : Env) (h : H) : Prop := nilDs g.ds (vInt .i64 (g.v 4) fun i1 => K i1 h)
theorem D0_ok {K : T0} {g : Env} {h : H} (hq : D0 K g h) : ∃ (x4 : Int), E0 g x4 ∧ K x4 h := by
  obtain ⟨hd, hq⟩ := nilDs_ok hq
  obtain ⟨y3, e2, q4⟩ := vInt_ok hq
  exact ⟨y3, ⟨e2, hd⟩, q4⟩
def Q0 (Kn : T0) (Kr : T0) : XPost
  | .normal, g, h => D0 Kn g h
  | .ret, g, h => D0 Kr g h
  | _, _, _ => False
abbrev T1 := (Option Addr) → Nat → Nat → (Option Addr) → Nat → Nat → H → Prop
def E1 (g : Env) (x0b : Option Addr) (x0n : Nat) (x0c : Nat) (x1b : Option Addr) (x1n : Nat) (x1c : Nat) : Prop := g.v 0 = (.slice x0b x0n x0c) ∧ g.v 1 = (.slice x1b x1n x1c) ∧ g.ds = []
def D1 (K : T1) (g : Env) (h : H) : Prop := nilDs g.ds (vSlice (g.v 0) fun s5b s5n s5c => vSlice (g.v 1) fun s6b s6n s6c => K s5b s5n s5c s6b s6n s6c h)
theorem D1_ok {K : T1} {g : Env} {h : H} (hq : D1 K g h) : ∃ (x0b : Option Addr) (x0n : Nat) (x0c : Nat) (x1b : Option Addr) (x1n : Nat) (x1c : Nat), E1 g x0b x0n x0c x1b x1n x1c ∧ K x0b x0n x0c x1b x1n x1c h := by
  obtain ⟨hd, hq⟩ := nilDs_ok hq
  obtain ⟨y8b, y8n, y8c, e7, q9⟩ := vSlice_ok hq
  obtain ⟨y11b, y11n, y11c, e10, q12⟩ := vSlice_ok q9
  exact ⟨y8b, y8n, y8c, y11b, y11n, y11c, ⟨e7, e10, hd⟩, q12⟩
noncomputable def n1_c1 : Code := cFst code
noncomputable def n1_c2 : Code := cSnd code
noncomputable def n2_c1 : Code := cFst n1_c2
noncomputable def n2_c2 : Code := cSnd n1_c2
abbrev T2 := (Option Addr) → Nat → Nat → (Option Addr) → Nat → Nat → Int → H → Prop
def E2 (g : Env) (x0b : Option Addr) (x0n : Nat) (x0c : Nat) (x1b : Option Addr) (x1n : Nat) (x1c : Nat) (x5 : Int) : Prop := g.v 0 = (.slice x0b x0n x0c) ∧ g.v 1 = (.slice x1b x1n x1c) ∧ g.v 5 = (.int .i64 x5) ∧ g.ds = []
def D2 (K : T2) (g : Env) (h : H) : Prop := nilDs g.ds (vSlice (g.v 0) fun s13b s13n s13c => vSlice (g.v 1) fun s14b s14n s14c => vInt .i64 (g.v 5) fun i15 => K s13b s13n s13c s14b s14n s14c i15 h)
theorem D2_ok {K : T2} {g : Env} {h : H} (hq : D2 K g h) : ∃ (x0b : Option Addr) (x0n : Nat) (x0c : Nat) (x1b : Option Addr) (x1n : Nat) (x1c : Nat) (x5 : Int), E2 g x0b x0n x0c x1b x1n x1c x5 ∧ K x0b x0n x0c x1b x1n x1c x5 h := by
  obtain ⟨hd, hq⟩ := nilDs_ok hq
  obtain ⟨y17b, y17n, y17c, e16, q18⟩ := vSlice_ok hq
  obtain ⟨y20b, y20n, y20c, e19, q21⟩ := vSlice_ok q18
  obtain ⟨y23, e22, q24⟩ := vInt_ok q21
  exact ⟨y17b, y17n, y17c, y20b, y20n, y20c, y23, ⟨e16, e19, e22, hd⟩, q24⟩
noncomputable def n3_c1 : Code := cFst n2_c2
noncomputable def n3_c2 : Code := cSnd n2_c2
abbrev T3 := Int → H → Prop
def E3 (g : Env) (x5 : Int) : Prop := g.v 5 = (.int .i64 x5) ∧ g.ds = []
def D3 (K : T3) (g : Env) (h : H) : Prop := nilDs g.ds (vInt .i64 (g.v 5) fun i25 => K i25 h)
theorem D3_ok {K : T3} {g : Env} {h : H} (hq : D3 K g h) : ∃ (x5 : Int), E3 g x5 ∧ K x5 h := by
  obtain ⟨hd, hq⟩ := nilDs_ok hq
  obtain ⟨y27, e26, q28⟩ := vInt_ok hq
  exact ⟨y27, ⟨e26, hd⟩, q28⟩
abbrev n4 (x5 : Int) (Kn : T0) (Kr : T0) (h : H) : Prop :=
  Kr x5 h
theorem n4_ok (x5 : Int) (Kn : T0) (Kr : T0) (g : Env) (hg : E3 g x5) (h : H) (hS : n4 x5 Kn Kr h) : wpC none Try.prog 33 n3_c2 (Q0 Kn Kr) g h := by
  obtain ⟨hg5, hds⟩ := hg
  refine wpC_of_wpx (by kernel_rfl) (by kernel_rfl) (g' := (⟨g.v, []⟩ : Env).upd (some 5) (.int .i64 x5)) (by rw [env_ds hds, upd_self hg5]) ?_
  have e : (n4 x5 Kn Kr h) = wpx none Try.prog 33 n3_c2 (Q0 Kn Kr) ((⟨g.v, []⟩ : Env).upd (some 5) (.int .i64 x5)) h := by kernel_rfl
  exact e ▸ hS
def Q1 (Kn : T3) (Kr : T0) : XPost
  | .normal, g, h => D3 Kn g h
  | .ret, g, h => D0 Kr g h
  | _, _, _ => False
noncomputable def n5_c1 : Code := cFst n3_c1
def Q2 (Kn : T3) (Ke0 : T3) (Kr : T0) : XPost
  | .normal, g, h => D3 Kn g h
  | .ret, g, h => D0 Kr g h
  | .exit id, g, h => cond (Nat.beq id 0) (D3 Ke0 g h) (False)
  | _, _, _ => False
noncomputable def n6_c1 : Code := cFst n5_c1
def Q3 (Kn : T2) (Ke0 : T3) (Kr : T0) : XPost
  | .normal, g, h => D2 Kn g h
  | .ret, g, h => D0 Kr g h
  | .exit id, g, h => cond (Nat.beq id 0) (D3 Ke0 g h) (False)
  | _, _, _ => False
def n6_L (Kn : T3) (Ke0 : T3) (Kr : T0) : Nat → (Option Addr) → Nat → Nat → (Option Addr) → Nat → Nat → Int → H → Prop
  | 0 => fun _ _ _ _ _ _ _ _ => False
  | N + 1 => fun x0b x0n x0c x1b x1n x1c x5 h => Spl (x5 > (0 : Int)) (Rng .i64 (x5 - (1 : Int)) ∧ ((0 ≤ (x5 - (1 : Int)) ∧ (x5 - (1 : Int)) < (x0n : Int)) ∧ (vSome x0b fun a29 => ∃ i30, cell h (((a29.add (Int.toNat (x5 - (1 : Int)) * 4))).add 0) = some (.int .i64 i30) ∧ (∃ i31, cell h (((a29.add (Int.toNat (x5 - (1 : Int)) * 4))).add 1) = some (.int .u8 i31) ∧ (∃ s32, cell h (((a29.add (Int.toNat (x5 - (1 : Int)) * 4))).add 2) = some (S s32) ∧ (∃ i33, cell h (((a29.add (Int.toNat (x5 - (1 : Int)) * 4))).add 3) = some (.int .u8 i33) ∧ (HCalls Try.prog 28 ⟨[(.agg ⟨[(.int .i64 i30), (.int .u8 i31), (S s32), (.int .u8 i33)]⟩), (.slice x1b x1n x1c)]⟩ h fun v34 h35 => vBool v34 fun b36 => cond b36 (Ke0 x5 h35) (Rng .i64 (x5 - (1 : Int)) ∧ ((0 ≤ (x5 - (1 : Int)) ∧ (x5 - (1 : Int)) < (x0n : Int)) ∧ (vSome x0b fun a37 => ∃ i38, cell h35 (((a37.add (Int.toNat (x5 - (1 : Int)) * 4))).add 0) = some (.int .i64 i38) ∧ (∃ i39, cell h35 (((a37.add (Int.toNat (x5 - (1 : Int)) * 4))).add 1) = some (.int .u8 i39) ∧ (∃ s40, cell h35 (((a37.add (Int.toNat (x5 - (1 : Int)) * 4))).add 2) = some (S s40) ∧ (∃ i41, cell h35 (((a37.add (Int.toNat (x5 - (1 : Int)) * 4))).add 3) = some (.int .u8 i41) ∧ (newx h35 #[(S ([104, 116, 109, 108] : List UInt8)), (S ([116, 101, 109, 112, 108, 97, 116, 101] : List UInt8))] 9 fun a42 h43 => HCalls Try.prog 28 ⟨[(.agg ⟨[(.int .i64 i38), (.int .u8 i39), (S s40), (.int .u8 i41)]⟩), (.slice (some a42) 2 2)]⟩ h43 fun v44 h45 => vBool v44 fun b46 => cond b46 (Ke0 x5 h45) (Rng .i64 (x5 - (1 : Int)) ∧ (n6_L Kn Ke0 Kr N x0b x0n x0c x1b x1n x1c (x5 - (1 : Int)) h45)))))))))))))))) (Ke0 x5 h)
abbrev n6 (x0b : Option Addr) (x0n : Nat) (x0c : Nat) (x1b : Option Addr) (x1n : Nat) (x1c : Nat) (x5 : Int) (Kn : T3) (Ke0 : T3) (Kr : T0) (h : H) : Prop := ∃ N, n6_L Kn Ke0 Kr N x0b x0n x0c x1b x1n x1c x5 h
theorem n6_ok (x0b : Option Addr) (x0n : Nat) (x0c : Nat) (x1b : Option Addr) (x1n : Nat) (x1c : Nat) (x5 : Int) (Kn : T3) (Ke0 : T3) (Kr : T0) (g : Env) (hg : E2 g x0b x0n x0c x1b x1n x1c x5) (h : H) (hS : n6 x0b x0n x0c x1b x1n x1c x5 Kn Ke0 Kr h) : wpC none Try.prog 33 n5_c1 (Q2 Kn Ke0 Kr) g h := by
  obtain ⟨N0, hS⟩ := hS
  refine wpC_loop' (x := n6_c1) (by kernel_rfl) (fun k g h => ∃ (x0b : Option Addr) (x0n : Nat) (x0c : Nat) (x1b : Option Addr) (x1n : Nat) (x1c : Nat) (x5 : Int), E2 g x0b x0n x0c x1b x1n x1c x5 ∧ n6_L Kn Ke0 Kr k x0b x0n x0c x1b x1n x1c x5 h) (fun g h hr => ?_) (fun N g h hr => ?_) N0 ⟨x0b, x0n, x0c, x1b, x1n, x1c, x5, hg, hS⟩
  · obtain ⟨x0b, x0n, x0c, x1b, x1n, x1c, x5, hg, hS⟩ := hr
    exact hS.elim
  · obtain ⟨x0b, x0n, x0c, x1b, x1n, x1c, x5, hg, hS⟩ := hr
    have hw : wpC none Try.prog 33 n6_c1 (Q3 (fun z0b z0n z0c z1b z1n z1c z5 h => n6_L Kn Ke0 Kr N z0b z0n z0c z1b z1n z1c z5 h) Ke0 Kr) g h := by
      obtain ⟨hg0, hg1, hg5, hds⟩ := hg
      refine wpC_of_wpx (by kernel_rfl) (by kernel_rfl) (g' := (((⟨g.v, []⟩ : Env).upd (some 0) (.slice x0b x0n x0c)).upd (some 1) (.slice x1b x1n x1c)).upd (some 5) (.int .i64 x5)) (by rw [env_ds hds, upd_self hg0, upd_self hg1, upd_self hg5]) ?_
      have e : (n6_L Kn Ke0 Kr (N + 1) x0b x0n x0c x1b x1n x1c x5 h) = wpx none Try.prog 33 n6_c1 (Q3 (fun z0b z0n z0c z1b z1n z1c z5 h => n6_L Kn Ke0 Kr N z0b z0n z0c z1b z1n z1c z5 h) Ke0 Kr) ((((⟨g.v, []⟩ : Env).upd (some 0) (.slice x0b x0n x0c)).upd (some 1) (.slice x1b x1n x1c)).upd (some 5) (.int .i64 x5)) h := by kernel_rfl
      exact e ▸ hS
    refine hw.mono ?_
    intro e g' h' hq
    cases e with
    | normal => exact D2_ok (K := (fun z0b z0n z0c z1b z1n z1c z5 h => n6_L Kn Ke0 Kr N z0b z0n z0c z1b z1n z1c z5 h)) hq
    | _ => exact hq
abbrev n5 (x0b : Option Addr) (x0n : Nat) (x0c : Nat) (x1b : Option Addr) (x1n : Nat) (x1c : Nat) (x5 : Int) (Kn : T3) (Kr : T0) (h : H) : Prop := n6 x0b x0n x0c x1b x1n x1c x5 Kn Kn Kr h
theorem n5_ok (x0b : Option Addr) (x0n : Nat) (x0c : Nat) (x1b : Option Addr) (x1n : Nat) (x1c : Nat) (x5 : Int) (Kn : T3) (Kr : T0) (g : Env) (hg : E2 g x0b x0n x0c x1b x1n x1c x5) (h : H) (hS : n5 x0b x0n x0c x1b x1n x1c x5 Kn Kr h) : wpC none Try.prog 33 n3_c1 (Q1 Kn Kr) g h := by
  refine wpC_block' (id := 0) (x := n5_c1) (by kernel_rfl) (n6_ok x0b x0n x0c x1b x1n x1c x5 Kn Kn Kr g hg h hS) ?_
  intro e g' h' hq
  cases e <;> exact hq
abbrev n3 (x0b : Option Addr) (x0n : Nat) (x0c : Nat) (x1b : Option Addr) (x1n : Nat) (x1c : Nat) (x5 : Int) (Kn : T0) (Kr : T0) (h : H) : Prop := n5 x0b x0n x0c x1b x1n x1c x5 (fun z5 h => n4 z5 Kn Kr h) Kr h
theorem n3_ok (x0b : Option Addr) (x0n : Nat) (x0c : Nat) (x1b : Option Addr) (x1n : Nat) (x1c : Nat) (x5 : Int) (Kn : T0) (Kr : T0) (g : Env) (hg : E2 g x0b x0n x0c x1b x1n x1c x5) (h : H) (hS : n3 x0b x0n x0c x1b x1n x1c x5 Kn Kr h) : wpC none Try.prog 33 n2_c2 (Q0 Kn Kr) g h := by
  refine wpC_seq' (x := n3_c1) (y := n3_c2) (by kernel_rfl) (n5_ok x0b x0n x0c x1b x1n x1c x5 (fun z5 h => n4 z5 Kn Kr h) Kr g hg h hS) ?_
  intro e g' h' hq
  cases e with
  | normal =>
    have hq : D3 (fun z5 h => n4 z5 Kn Kr h) g' h' := hq
    obtain ⟨y5, hg', hq⟩ := D3_ok hq
    exact n4_ok y5 Kn Kr g' hg' h' hq
  | _ => exact hq
def Q4 (Kn : T2) (Kr : T0) : XPost
  | .normal, g, h => D2 Kn g h
  | .ret, g, h => D0 Kr g h
  | _, _, _ => False
abbrev n2 (x0b : Option Addr) (x0n : Nat) (x0c : Nat) (x1b : Option Addr) (x1n : Nat) (x1c : Nat) (Kn : T0) (Kr : T0) (h : H) : Prop :=
  n3 x0b x0n x0c x1b x1n x1c (x0n : Int) Kn Kr h
theorem n2_ok (x0b : Option Addr) (x0n : Nat) (x0c : Nat) (x1b : Option Addr) (x1n : Nat) (x1c : Nat) (Kn : T0) (Kr : T0) (g : Env) (hg : E1 g x0b x0n x0c x1b x1n x1c) (h : H) (hS : n2 x0b x0n x0c x1b x1n x1c Kn Kr h) : wpC none Try.prog 33 n1_c2 (Q0 Kn Kr) g h := by
  obtain ⟨hg0, hg1, hds⟩ := hg
  refine wpC_seq' (x := n2_c1) (y := n2_c2) (Q' := (Q4 (fun z0b z0n z0c z1b z1n z1c z5 h => n3 z0b z0n z0c z1b z1n z1c z5 Kn Kr h) Kr)) (by kernel_rfl) ?_ ?_
  · refine wpC_of_wpx (by kernel_rfl) (by kernel_rfl) (g' := ((⟨g.v, []⟩ : Env).upd (some 0) (.slice x0b x0n x0c)).upd (some 1) (.slice x1b x1n x1c)) (by rw [env_ds hds, upd_self hg0, upd_self hg1]) ?_
    have e : (n2 x0b x0n x0c x1b x1n x1c Kn Kr h) = wpx none Try.prog 33 n2_c1 (Q4 (fun z0b z0n z0c z1b z1n z1c z5 h => n3 z0b z0n z0c z1b z1n z1c z5 Kn Kr h) Kr) (((⟨g.v, []⟩ : Env).upd (some 0) (.slice x0b x0n x0c)).upd (some 1) (.slice x1b x1n x1c)) h := by kernel_rfl
    exact e ▸ hS
  · intro e g' h' hq
    cases e with
    | normal =>
      have hq : D2 (fun z0b z0n z0c z1b z1n z1c z5 h => n3 z0b z0n z0c z1b z1n z1c z5 Kn Kr h) g' h' := hq
      obtain ⟨y0b, y0n, y0c, y1b, y1n, y1c, y5, hg', hq⟩ := D2_ok hq
      exact n3_ok y0b y0n y0c y1b y1n y1c y5 Kn Kr g' hg' h' hq
    | _ => exact hq
def Q5 (Kn : T1) (Kr : T0) : XPost
  | .normal, g, h => D1 Kn g h
  | .ret, g, h => D0 Kr g h
  | _, _, _ => False
abbrev n1 (x0b : Option Addr) (x0n : Nat) (x0c : Nat) (x1b : Option Addr) (x1n : Nat) (x1c : Nat) (Kn : T0) (Kr : T0) (h : H) : Prop :=
  n2 x0b x0n x0c x1b x1n x1c Kn Kr h
theorem n1_ok (x0b : Option Addr) (x0n : Nat) (x0c : Nat) (x1b : Option Addr) (x1n : Nat) (x1c : Nat) (Kn : T0) (Kr : T0) (g : Env) (hg : E1 g x0b x0n x0c x1b x1n x1c) (h : H) (hS : n1 x0b x0n x0c x1b x1n x1c Kn Kr h) : wpC none Try.prog 33 code (Q0 Kn Kr) g h := by
  obtain ⟨hg0, hg1, hds⟩ := hg
  refine wpC_seq' (x := n1_c1) (y := n1_c2) (Q' := (Q5 (fun z0b z0n z0c z1b z1n z1c h => n2 z0b z0n z0c z1b z1n z1c Kn Kr h) Kr)) (by kernel_rfl) ?_ ?_
  · refine wpC_of_wpx (by kernel_rfl) (by kernel_rfl) (g' := ((⟨g.v, []⟩ : Env).upd (some 0) (.slice x0b x0n x0c)).upd (some 1) (.slice x1b x1n x1c)) (by rw [env_ds hds, upd_self hg0, upd_self hg1]) ?_
    have e : (n1 x0b x0n x0c x1b x1n x1c Kn Kr h) = wpx none Try.prog 33 n1_c1 (Q5 (fun z0b z0n z0c z1b z1n z1c h => n2 z0b z0n z0c z1b z1n z1c Kn Kr h) Kr) (((⟨g.v, []⟩ : Env).upd (some 0) (.slice x0b x0n x0c)).upd (some 1) (.slice x1b x1n x1c)) h := by kernel_rfl
    exact e ▸ hS
  · intro e g' h' hq
    cases e with
    | normal =>
      have hq : D1 (fun z0b z0n z0c z1b z1n z1c h => n2 z0b z0n z0c z1b z1n z1c Kn Kr h) g' h' := hq
      obtain ⟨y0b, y0n, y0c, y1b, y1n, y1c, hg', hq⟩ := D1_ok hq
      exact n2_ok y0b y0n y0c y1b y1n y1c Kn Kr g' hg' h' hq
    | _ => exact hq
/-- WHAT tympan/tympanref11.Clear ASKS -/
abbrev asks (x0b : Option Addr) (x0n : Nat) (x0c : Nat) (x1b : Option Addr) (x1n : Nat) (x1c : Nat) (K : Value → H → Prop) (h : H) : Prop := n1 x0b x0n x0c x1b x1n x1c (fun y4 h => K (.int .i64 y4) h) (fun y4 h => K (.int .i64 y4) h) h
theorem ok (x0b : Option Addr) (x0n : Nat) (x0c : Nat) (x1b : Option Addr) (x1n : Nat) (x1c : Nat) (K : Value → H → Prop) (h : H) (hS : asks x0b x0n x0c x1b x1n x1c K h) : HCalls Try.prog 21 ⟨[(.slice x0b x0n x0c), (.slice x1b x1n x1c)]⟩ h K := by
  refine calls_of_wpC (c := code) Try.func21 (by kernel_rfl) (Nat.le_of_ble_eq_true (by kernel_rfl)) ?_
  refine (n1_ok x0b x0n x0c x1b x1n x1c (fun y4 h => K (.int .i64 y4) h) (fun y4 h => K (.int .i64 y4) h) (env0 [(.slice x0b x0n x0c), (.slice x1b x1n x1c)]) ⟨rfl, rfl, rfl⟩ h hS).mono ?_
  intro e g' h' hq
  cases e with
  | normal =>
    have hq : D0 (fun y4 h => K (.int .i64 y4) h) g' h' := hq
    obtain ⟨y4, ⟨hg4, hd⟩, hq⟩ := D0_ok hq
    show leaveX g'.ds h' _
    rw [hd]
    show K (g'.v 4) h'
    rw [hg4]
    exact hq
  | ret =>
    have hq : D0 (fun y4 h => K (.int .i64 y4) h) g' h' := hq
    obtain ⟨y4, ⟨hg4, hd⟩, hq⟩ := D0_ok hq
    show leaveX g'.ds h' _
    rw [hd]
    show K (g'.v 4) h'
    rw [hg4]
    exact hq
  | _ => exact hq
end Sx.r11_Clear

/-! ### tympan/open.Item -/
namespace Sx.open_Item
noncomputable def code : Code := bodyOf Try.f22
abbrev T0 := Addr → (List Deferred) → H → Prop
def E0 (g : Env) (x4 : Addr) (ds : List Deferred) : Prop := g.v 4 = (.pointer (some x4)) ∧ g.ds = ds
def D0 (K : T0) (g : Env) (h : H) : Prop := vAddr (g.v 4) fun a1 => K a1 g.ds h
theorem D0_ok {K : T0} {g : Env} {h : H} (hq : D0 K g h) : ∃ (x4 : Addr) (ds : List Deferred), E0 g x4 ds ∧ K x4 ds h := by
  obtain ⟨y3, e2, q4⟩ := vAddr_ok hq
  exact ⟨y3, g.ds, ⟨e2, rfl⟩, q4⟩
theorem D0_mk {K : T0} {g : Env} {h : H} {x4 : Addr} {ds : List Deferred} (hg : E0 g x4 ds) (hk : K x4 ds h) : D0 K g h := by
  obtain ⟨hg4, hds⟩ := hg
  unfold D0
  rw [hg4, hds]
  exact hk
def Q0 (Kn : T0) (Kr : T0) : XPost
  | .normal, g, h => D0 Kn g h
  | .ret, g, h => D0 Kr g h
  | _, _, _ => False
abbrev T1 := (Option Addr) → Nat → Nat → (Option Addr) → Nat → Nat → (List Deferred) → H → Prop
def E1 (g : Env) (x0b : Option Addr) (x0n : Nat) (x0c : Nat) (x1b : Option Addr) (x1n : Nat) (x1c : Nat) (ds : List Deferred) : Prop := g.v 0 = (.slice x0b x0n x0c) ∧ g.v 1 = (.slice x1b x1n x1c) ∧ g.ds = ds
def D1 (K : T1) (g : Env) (h : H) : Prop := vSlice (g.v 0) fun s5b s5n s5c => vSlice (g.v 1) fun s6b s6n s6c => K s5b s5n s5c s6b s6n s6c g.ds h
theorem D1_ok {K : T1} {g : Env} {h : H} (hq : D1 K g h) : ∃ (x0b : Option Addr) (x0n : Nat) (x0c : Nat) (x1b : Option Addr) (x1n : Nat) (x1c : Nat) (ds : List Deferred), E1 g x0b x0n x0c x1b x1n x1c ds ∧ K x0b x0n x0c x1b x1n x1c ds h := by
  obtain ⟨y8b, y8n, y8c, e7, q9⟩ := vSlice_ok hq
  obtain ⟨y11b, y11n, y11c, e10, q12⟩ := vSlice_ok q9
  exact ⟨y8b, y8n, y8c, y11b, y11n, y11c, g.ds, ⟨e7, e10, rfl⟩, q12⟩
theorem D1_mk {K : T1} {g : Env} {h : H} {x0b : Option Addr} {x0n : Nat} {x0c : Nat} {x1b : Option Addr} {x1n : Nat} {x1c : Nat} {ds : List Deferred} (hg : E1 g x0b x0n x0c x1b x1n x1c ds) (hk : K x0b x0n x0c x1b x1n x1c ds h) : D1 K g h := by
  obtain ⟨hg0, hg1, hds⟩ := hg
  unfold D1
  rw [hg0, hg1, hds]
  exact hk
noncomputable def n1_c1 : Code := cFst code
noncomputable def n1_c2 : Code := cSnd code
abbrev T2 := (Option Addr) → Nat → Nat → Addr → Addr → (List Deferred) → H → Prop
def E2 (g : Env) (x0b : Option Addr) (x0n : Nat) (x0c : Nat) (x3 : Addr) (x4 : Addr) (ds : List Deferred) : Prop := g.v 0 = (.slice x0b x0n x0c) ∧ g.v 3 = (.pointer (some x3)) ∧ g.v 4 = (.pointer (some x4)) ∧ g.ds = ds
def D2 (K : T2) (g : Env) (h : H) : Prop := vSlice (g.v 0) fun s13b s13n s13c => vAddr (g.v 3) fun a14 => vAddr (g.v 4) fun a15 => K s13b s13n s13c a14 a15 g.ds h
theorem D2_ok {K : T2} {g : Env} {h : H} (hq : D2 K g h) : ∃ (x0b : Option Addr) (x0n : Nat) (x0c : Nat) (x3 : Addr) (x4 : Addr) (ds : List Deferred), E2 g x0b x0n x0c x3 x4 ds ∧ K x0b x0n x0c x3 x4 ds h := by
  obtain ⟨y17b, y17n, y17c, e16, q18⟩ := vSlice_ok hq
  obtain ⟨y20, e19, q21⟩ := vAddr_ok q18
  obtain ⟨y23, e22, q24⟩ := vAddr_ok q21
  exact ⟨y17b, y17n, y17c, y20, y23, g.ds, ⟨e16, e19, e22, rfl⟩, q24⟩
theorem D2_mk {K : T2} {g : Env} {h : H} {x0b : Option Addr} {x0n : Nat} {x0c : Nat} {x3 : Addr} {x4 : Addr} {ds : List Deferred} (hg : E2 g x0b x0n x0c x3 x4 ds) (hk : K x0b x0n x0c x3 x4 ds h) : D2 K g h := by
  obtain ⟨hg0, hg3, hg4, hds⟩ := hg
  unfold D2
  rw [hg0, hg3, hg4, hds]
  exact hk
noncomputable def n2_c1 : Code := cFst n1_c2
noncomputable def n2_c2 : Code := cSnd n1_c2
abbrev n3 (x4 : Addr) (ds : List Deferred) (Kn : T0) (Kr : T0) (h : H) : Prop :=
  stL x4 [(.int .i64 (-1 : Int))] 0 h fun h25 => Kr x4 ds h25
theorem n3_ok (x4 : Addr) (ds : List Deferred) (Kn : T0) (Kr : T0) (g : Env) (hg : E0 g x4 ds) (h : H) (hS : n3 x4 ds Kn Kr h) : wpC none Try.prog 28 n2_c2 (Q0 Kn Kr) g h := by
  obtain ⟨hg4, hds⟩ := hg
  refine wpC_of_wpx (by kernel_rfl) (by kernel_rfl) (g' := (⟨g.v, ds⟩ : Env).upd (some 4) (.pointer (some x4))) (by rw [env_ds hds, upd_self hg4]) ?_
  have e : (n3 x4 ds Kn Kr h) = wpx none Try.prog 28 n2_c2 (Q0 Kn Kr) ((⟨g.v, ds⟩ : Env).upd (some 4) (.pointer (some x4))) h := by kernel_rfl
  exact e ▸ hS
noncomputable def n4_c1 : Code := cFst n2_c1
noncomputable def n4_c2 : Code := cSnd n2_c1
abbrev T3 := Addr → Addr → Value → (List Deferred) → H → Prop
def E3 (g : Env) (x3 : Addr) (x4 : Addr) (x8 : Value) (ds : List Deferred) : Prop := g.v 3 = (.pointer (some x3)) ∧ g.v 4 = (.pointer (some x4)) ∧ g.v 8 = x8 ∧ g.ds = ds
def D3 (K : T3) (g : Env) (h : H) : Prop := vAddr (g.v 3) fun a26 => vAddr (g.v 4) fun a27 => K a26 a27 (g.v 8) g.ds h
theorem D3_ok {K : T3} {g : Env} {h : H} (hq : D3 K g h) : ∃ (x3 : Addr) (x4 : Addr) (x8 : Value) (ds : List Deferred), E3 g x3 x4 x8 ds ∧ K x3 x4 x8 ds h := by
  obtain ⟨y29, e28, q30⟩ := vAddr_ok hq
  obtain ⟨y32, e31, q33⟩ := vAddr_ok q30
  exact ⟨y29, y32, (g.v 8), g.ds, ⟨e28, e31, rfl, rfl⟩, q33⟩
theorem D3_mk {K : T3} {g : Env} {h : H} {x3 : Addr} {x4 : Addr} {x8 : Value} {ds : List Deferred} (hg : E3 g x3 x4 x8 ds) (hk : K x3 x4 x8 ds h) : D3 K g h := by
  obtain ⟨hg3, hg4, hg8, hds⟩ := hg
  unfold D3
  rw [hg3, hg4, hg8, hds]
  exact hk
noncomputable def n5_c1 : Code := cFst n4_c2
def Q1 (Kn : T0) (Ke0 : T0) (Kr : T0) : XPost
  | .normal, g, h => D0 Kn g h
  | .ret, g, h => D0 Kr g h
  | .exit id, g, h => cond (Nat.beq id 0) (D0 Ke0 g h) (False)
  | _, _, _ => False
noncomputable def n6_c1 : Code := cFst n5_c1
noncomputable def n6_c2 : Code := cSnd n5_c1
def n6_rd (x3 : Addr) (x4 : Addr) (x8 : Value) (ds : List Deferred) (Kn : T0) (Ke0 : T0) (Kr : T0) (h : H) (p9 : Int) (p10_0 : Int) (p10_1 : Int) (p10_2 : List UInt8) (p10_3 : Int) (Mid : H → (H → Prop) → Prop) (Kc : H → H → Prop) (Fin : H → H → (H → Prop) → Prop) (h1 : H) : Prop :=
  newx h1 ⟨[(.int .i64 (0 : Int)), (.int .u8 (0 : Int)), (S ([] : List UInt8)), (.int .u8 (0 : Int))]⟩ 37 fun a34 h35 => stL a34 [(.int .i64 p10_0), (.int .u8 p10_1), (S p10_2), (.int .u8 p10_3)] 0 h35 fun h36 => Mid h36 fun hb37 => ∃ i38, cell hb37 ((a34).add 0) = some (.int .i64 i38) ∧ (∃ i39, cell hb37 ((a34).add 1) = some (.int .u8 i39) ∧ (∃ s40, cell hb37 ((a34).add 2) = some (S s40) ∧ (∃ i41, cell hb37 ((a34).add 3) = some (.int .u8 i41) ∧ (∃ s42b s42n s42c, cell hb37 x3 = some (.slice s42b s42n s42c) ∧ (HCalls Try.prog 26 ⟨[(.agg ⟨[(.int .i64 i38), (.int .u8 i39), (S s40), (.int .u8 i41)]⟩), (.slice s42b s42n s42c)]⟩ hb37 fun v43 h44 => vBool v43 fun b45 => cond b45 (stL x4 [(.int .i64 p9)] 0 h44 fun h46 => Fin hb37 h46 fun h47 => Kr x4 (markD h.size :: ds) h47) (∃ i48, cell h44 (a34.add 1) = some (.int .u8 i48) ∧ (∃ s49, cell h44 (a34.add 2) = some (S s49) ∧ (HCalls Try.prog 12 ⟨[(.int .u8 i48), (S s49)]⟩ h44 fun v50 h51 => vBool v50 fun b52 => cond b52 (∃ i53, cell h51 ((a34).add 0) = some (.int .i64 i53) ∧ (∃ i54, cell h51 ((a34).add 1) = some (.int .u8 i54) ∧ (∃ s55, cell h51 ((a34).add 2) = some (S s55) ∧ (∃ i56, cell h51 ((a34).add 3) = some (.int .u8 i56) ∧ (newx h51 #[(S ([97, 100, 100, 114, 101, 115, 115] : List UInt8)), (S ([100, 105, 118] : List UInt8)), (S ([112] : List UInt8))] 9 fun a57 h58 => HCalls Try.prog 26 ⟨[(.agg ⟨[(.int .i64 i53), (.int .u8 i54), (S s55), (.int .u8 i56)]⟩), (.slice (some a57) 3 3)]⟩ h58 fun v59 h60 => vBool v59 fun b61 => cond b61 (Kc hb37 h60) (stL x4 [(.int .i64 (-1 : Int))] 0 h60 fun h62 => Fin hb37 h62 fun h63 => Kr x4 (markD h.size :: ds) h63)))))) (Kc hb37 h51)))))))))
abbrev n6 (x3 : Addr) (x4 : Addr) (x8 : Value) (ds : List Deferred) (Kn : T0) (Ke0 : T0) (Kr : T0) (h : H) : Prop := Ranges Try.prog x8 2 h (fun l64 Mid Kc Fin h1 => uncons l64 fun e65 l66 => vInt .i64 e65 fun i67 => uncons l66 fun e68 l69 => vAgg e68 fun l70 => uncons l70 fun e71 l72 => vInt .i64 e71 fun i73 => uncons l72 fun e74 l75 => vInt .u8 e74 fun i76 => uncons l75 fun e77 l78 => vStr e77 fun s79 => uncons l78 fun e80 l81 => vInt .u8 e80 fun i82 => unnil l81 (unnil l69 (n6_rd x3 x4 x8 ds Kn Ke0 Kr h i67 i73 i76 s79 i82 Mid Kc Fin h1))) (fun h4 => Kn x4 (markD h.size :: ds) h4)
theorem n6_ok (x3 : Addr) (x4 : Addr) (x8 : Value) (ds : List Deferred) (Kn : T0) (Ke0 : T0) (Kr : T0) (g : Env) (hg : E3 g x3 x4 x8 ds) (h : H) (hS : n6 x3 x4 x8 ds Kn Ke0 Kr h) : wpC none Try.prog 28 n5_c1 (Q1 Kn Ke0 Kr) g h := by
  obtain ⟨hg3, hg4, hg8, hds⟩ := hg
  subst hds
  have ho : ((((⟨g.v, g.ds⟩ : Env).upd (some 3) (.pointer (some x3))).upd (some 4) (.pointer (some x4))).upd (some 8) x8 : Env) = g := by rw [env_ds rfl, upd_self hg3, upd_self hg4, upd_self hg8]
  have hc : n5_c1 = .rangeFunc (.tmp 8) #[9, 10] n6_c1 n6_c2 := by kernel_rfl
  rw [hc]
  refine wpC_range (f := x8) (rd := (fun l64 Mid Kc Fin h1 => uncons l64 fun e65 l66 => vInt .i64 e65 fun i67 => uncons l66 fun e68 l69 => vAgg e68 fun l70 => uncons l70 fun e71 l72 => vInt .i64 e71 fun i73 => uncons l72 fun e74 l75 => vInt .u8 e74 fun i76 => uncons l75 fun e77 l78 => vStr e77 fun s79 => uncons l78 fun e80 l81 => vInt .u8 e80 fun i82 => unnil l81 (unnil l69 (n6_rd x3 x4 x8 g.ds Kn Ke0 Kr h i67 i73 i76 s79 i82 Mid Kc Fin h1)))) (done := (fun h4 => Kn x4 (markD h.size :: g.ds) h4)) ?_ hS ?_ ?_
  · rw [← ho]; kernel_rfl
  · intro h4 hd
    have e : (Kn x4 (markD h.size :: g.ds) h4) = (Q1 Kn Ke0 Kr) .normal ⟨((((⟨g.v, g.ds⟩ : Env).upd (some 3) (.pointer (some x3))).upd (some 4) (.pointer (some x4))).upd (some 8) x8).v, markD h.size :: g.ds⟩ h4 := by kernel_rfl
    rw [ho] at e
    exact e ▸ hd
  · intro L x Mid Kc Fin h1 hM hx
    obtain ⟨u83, l84, rfl, q85⟩ := uncons_ok hx
    obtain ⟨y86, rfl, q87⟩ := vInt_ok q85
    obtain ⟨u88, l89, rfl, q90⟩ := uncons_ok q87
    obtain ⟨l91, rfl, q92⟩ := vAgg_ok q90
    obtain ⟨u93, l94, rfl, q95⟩ := uncons_ok q92
    obtain ⟨y96, rfl, q97⟩ := vInt_ok q95
    obtain ⟨u98, l99, rfl, q100⟩ := uncons_ok q97
    obtain ⟨y101, rfl, q102⟩ := vInt_ok q100
    obtain ⟨u103, l104, rfl, q105⟩ := uncons_ok q102
    obtain ⟨y106, rfl, q107⟩ := vStr_ok q105
    obtain ⟨u108, l109, rfl, q110⟩ := uncons_ok q107
    obtain ⟨y111, rfl, q112⟩ := vInt_ok q110
    obtain ⟨rfl, q113⟩ := unnil_ok q112
    obtain ⟨rfl, q114⟩ := unnil_ok q113
    have e : (n6_rd x3 x4 x8 g.ds Kn Ke0 Kr h y86 y96 y101 y106 y111 Mid Kc Fin h1) = wpx (some L) Try.prog 28 n6_c1 (thenX (fun g1 he => Mid he fun hb => wpx (some L) Try.prog 28 n6_c2 (rpost Kc Fin (Q1 Kn Ke0 Kr) ⟨((((⟨g.v, g.ds⟩ : Env).upd (some 3) (.pointer (some x3))).upd (some 4) (.pointer (some x4))).upd (some 8) x8).v, markD h.size :: g.ds⟩ hb) g1 hb) fun _ _ _ => False) (setps ((((⟨g.v, g.ds⟩ : Env).upd (some 3) (.pointer (some x3))).upd (some 4) (.pointer (some x4))).upd (some 8) x8) [9, 10] [(.int .i64 y86), (.agg ⟨[(.int .i64 y96), (.int .u8 y101), (S y106), (.int .u8 y111)]⟩)]) h1 := by kernel_rfl
    rw [ho] at e
    exact (wpx_ok (by kernel_rfl) _ _ _ _ (by kernel_rfl) (e ▸ q114)).mono (thenX_mono fun g1 he hm => hM he _ _ (fun hb => wpx_ok (by kernel_rfl) _ _ _ _ (by kernel_rfl)) hm)
abbrev n5 (x3 : Addr) (x4 : Addr) (x8 : Value) (ds : List Deferred) (Kn : T0) (Kr : T0) (h : H) : Prop := n6 x3 x4 x8 ds Kn Kn Kr h
theorem n5_ok (x3 : Addr) (x4 : Addr) (x8 : Value) (ds : List Deferred) (Kn : T0) (Kr : T0) (g : Env) (hg : E3 g x3 x4 x8 ds) (h : H) (hS : n5 x3 x4 x8 ds Kn Kr h) : wpC none Try.prog 28 n4_c2 (Q0 Kn Kr) g h := by
  refine wpC_block' (id := 0) (x := n5_c1) (by kernel_rfl) (n6_ok x3 x4 x8 ds Kn Kn Kr g hg h hS) ?_
  intro e g' h' hq
  cases e <;> exact hq
def Q2 (Kn : T3) (Kr : T0) : XPost
  | .normal, g, h => D3 Kn g h
  | .ret, g, h => D0 Kr g h
  | _, _, _ => False
abbrev n4 (x0b : Option Addr) (x0n : Nat) (x0c : Nat) (x3 : Addr) (x4 : Addr) (ds : List Deferred) (Kn : T0) (Kr : T0) (h : H) : Prop :=
  HCalls Try.prog 25 ⟨[(.slice x0b x0n x0c)]⟩ h fun v115 h116 => n5 x3 x4 v115 ds Kn Kr h116
theorem n4_ok (x0b : Option Addr) (x0n : Nat) (x0c : Nat) (x3 : Addr) (x4 : Addr) (ds : List Deferred) (Kn : T0) (Kr : T0) (g : Env) (hg : E2 g x0b x0n x0c x3 x4 ds) (h : H) (hS : n4 x0b x0n x0c x3 x4 ds Kn Kr h) : wpC none Try.prog 28 n2_c1 (Q0 Kn Kr) g h := by
  obtain ⟨hg0, hg3, hg4, hds⟩ := hg
  refine wpC_seq' (x := n4_c1) (y := n4_c2) (Q' := (Q2 (fun z3 z4 z8 zds h => n5 z3 z4 z8 zds Kn Kr h) Kr)) (by kernel_rfl) ?_ ?_
  · refine wpC_of_wpx (by kernel_rfl) (by kernel_rfl) (g' := (((⟨g.v, ds⟩ : Env).upd (some 0) (.slice x0b x0n x0c)).upd (some 3) (.pointer (some x3))).upd (some 4) (.pointer (some x4))) (by rw [env_ds hds, upd_self hg0, upd_self hg3, upd_self hg4]) ?_
    have e : (n4 x0b x0n x0c x3 x4 ds Kn Kr h) = wpx none Try.prog 28 n4_c1 (Q2 (fun z3 z4 z8 zds h => n5 z3 z4 z8 zds Kn Kr h) Kr) ((((⟨g.v, ds⟩ : Env).upd (some 0) (.slice x0b x0n x0c)).upd (some 3) (.pointer (some x3))).upd (some 4) (.pointer (some x4))) h := by kernel_rfl
    exact e ▸ hS
  · intro e g' h' hq
    cases e with
    | normal =>
      have hq : D3 (fun z3 z4 z8 zds h => n5 z3 z4 z8 zds Kn Kr h) g' h' := hq
      obtain ⟨y3, y4, y8, yds, hg', hq⟩ := D3_ok hq
      exact n5_ok y3 y4 y8 yds Kn Kr g' hg' h' hq
    | _ => exact hq
abbrev n2 (x0b : Option Addr) (x0n : Nat) (x0c : Nat) (x3 : Addr) (x4 : Addr) (ds : List Deferred) (Kn : T0) (Kr : T0) (h : H) : Prop := n4 x0b x0n x0c x3 x4 ds (fun z4 zds h => n3 z4 zds Kn Kr h) Kr h
theorem n2_ok (x0b : Option Addr) (x0n : Nat) (x0c : Nat) (x3 : Addr) (x4 : Addr) (ds : List Deferred) (Kn : T0) (Kr : T0) (g : Env) (hg : E2 g x0b x0n x0c x3 x4 ds) (h : H) (hS : n2 x0b x0n x0c x3 x4 ds Kn Kr h) : wpC none Try.prog 28 n1_c2 (Q0 Kn Kr) g h := by
  refine wpC_seq' (x := n2_c1) (y := n2_c2) (by kernel_rfl) (n4_ok x0b x0n x0c x3 x4 ds (fun z4 zds h => n3 z4 zds Kn Kr h) Kr g hg h hS) ?_
  intro e g' h' hq
  cases e with
  | normal =>
    have hq : D0 (fun z4 zds h => n3 z4 zds Kn Kr h) g' h' := hq
    obtain ⟨y4, yds, hg', hq⟩ := D0_ok hq
    exact n3_ok y4 yds Kn Kr g' hg' h' hq
  | _ => exact hq
def Q3 (Kn : T2) (Kr : T0) : XPost
  | .normal, g, h => D2 Kn g h
  | .ret, g, h => D0 Kr g h
  | _, _, _ => False
abbrev n1 (x0b : Option Addr) (x0n : Nat) (x0c : Nat) (x1b : Option Addr) (x1n : Nat) (x1c : Nat) (ds : List Deferred) (Kn : T0) (Kr : T0) (h : H) : Prop :=
  newx h #[(.slice x1b x1n x1c)] 23 fun a117 h118 => newx h118 #[(.int .i64 (0 : Int))] 3 fun a119 h120 => n2 x0b x0n x0c a117 a119 ds Kn Kr h120
theorem n1_ok (x0b : Option Addr) (x0n : Nat) (x0c : Nat) (x1b : Option Addr) (x1n : Nat) (x1c : Nat) (ds : List Deferred) (Kn : T0) (Kr : T0) (g : Env) (hg : E1 g x0b x0n x0c x1b x1n x1c ds) (h : H) (hS : n1 x0b x0n x0c x1b x1n x1c ds Kn Kr h) : wpC none Try.prog 28 code (Q0 Kn Kr) g h := by
  obtain ⟨hg0, hg1, hds⟩ := hg
  refine wpC_seq' (x := n1_c1) (y := n1_c2) (Q' := (Q3 (fun z0b z0n z0c z3 z4 zds h => n2 z0b z0n z0c z3 z4 zds Kn Kr h) Kr)) (by kernel_rfl) ?_ ?_
  · refine wpC_of_wpx (by kernel_rfl) (by kernel_rfl) (g' := ((⟨g.v, ds⟩ : Env).upd (some 0) (.slice x0b x0n x0c)).upd (some 1) (.slice x1b x1n x1c)) (by rw [env_ds hds, upd_self hg0, upd_self hg1]) ?_
    have e : (n1 x0b x0n x0c x1b x1n x1c ds Kn Kr h) = wpx none Try.prog 28 n1_c1 (Q3 (fun z0b z0n z0c z3 z4 zds h => n2 z0b z0n z0c z3 z4 zds Kn Kr h) Kr) (((⟨g.v, ds⟩ : Env).upd (some 0) (.slice x0b x0n x0c)).upd (some 1) (.slice x1b x1n x1c)) h := by kernel_rfl
    exact e ▸ hS
  · intro e g' h' hq
    cases e with
    | normal =>
      have hq : D2 (fun z0b z0n z0c z3 z4 zds h => n2 z0b z0n z0c z3 z4 zds Kn Kr h) g' h' := hq
      obtain ⟨y0b, y0n, y0c, y3, y4, yds, hg', hq⟩ := D2_ok hq
      exact n2_ok y0b y0n y0c y3 y4 yds Kn Kr g' hg' h' hq
    | _ => exact hq
/-- WHAT tympan/open.Item ASKS -/
abbrev asks (x0b : Option Addr) (x0n : Nat) (x0c : Nat) (x1b : Option Addr) (x1n : Nat) (x1c : Nat) (K : Value → H → Prop) (h : H) : Prop := n1 x0b x0n x0c x1b x1n x1c [] (fun y4 ds h => leaveX ds h fun h => ∃ i121, cell h y4 = some (.int .i64 i121) ∧ (K (.int .i64 i121) h)) (fun y4 ds h => leaveX ds h fun h => ∃ i121, cell h y4 = some (.int .i64 i121) ∧ (K (.int .i64 i121) h)) h
theorem ok (x0b : Option Addr) (x0n : Nat) (x0c : Nat) (x1b : Option Addr) (x1n : Nat) (x1c : Nat) (K : Value → H → Prop) (h : H) (hS : asks x0b x0n x0c x1b x1n x1c K h) : HCalls Try.prog 22 ⟨[(.slice x0b x0n x0c), (.slice x1b x1n x1c)]⟩ h K := by
  refine calls_of_wpC (c := code) Try.func22 (by kernel_rfl) (Nat.le_of_ble_eq_true (by kernel_rfl)) ?_
  refine (n1_ok x0b x0n x0c x1b x1n x1c [] (fun y4 ds h => leaveX ds h fun h => ∃ i121, cell h y4 = some (.int .i64 i121) ∧ (K (.int .i64 i121) h)) (fun y4 ds h => leaveX ds h fun h => ∃ i121, cell h y4 = some (.int .i64 i121) ∧ (K (.int .i64 i121) h)) (env0 [(.slice x0b x0n x0c), (.slice x1b x1n x1c)]) ⟨rfl, rfl, rfl⟩ h hS).mono ?_
  intro e g' h' hq
  cases e with
  | normal =>
    have hq : D0 (fun y4 ds h => leaveX ds h fun h => ∃ i121, cell h y4 = some (.int .i64 i121) ∧ (K (.int .i64 i121) h)) g' h' := hq
    obtain ⟨y4, ds, ⟨hg4, hd⟩, hq⟩ := D0_ok hq
    show leaveX g'.ds h' _
    rw [hd]
    show leaveX ds h' fun h => vAddr (g'.v 4) fun a122 => ldx Try.prog 3 a122 h fun v123 => K v123 h
    rw [hg4]
    exact hq
  | ret =>
    have hq : D0 (fun y4 ds h => leaveX ds h fun h => ∃ i121, cell h y4 = some (.int .i64 i121) ∧ (K (.int .i64 i121) h)) g' h' := hq
    obtain ⟨y4, ds, ⟨hg4, hd⟩, hq⟩ := D0_ok hq
    show leaveX g'.ds h' _
    rw [hd]
    show leaveX ds h' fun h => vAddr (g'.v 4) fun a122 => ldx Try.prog 3 a122 h fun v123 => K v123 h
    rw [hg4]
    exact hq
  | _ => exact hq
end Sx.open_Item

/-! ### tympan/tympanref11.Item -/
namespace Sx.r11_Item
noncomputable def code : Code := bodyOf Try.f23
abbrev T0 := Int → H → Prop
def E0 (g : Env) (x4 : Int) : Prop := g.v 4 = (.int .i64 x4) ∧ g.ds = []
def D0 (K : T0) (g : Env) (h : H) : Prop := nilDs g.ds (vInt .i64 (g.v 4) fun i1 => K i1 h)
theorem D0_ok {K : T0} {g : Env} {h : H} (hq : D0 K g h) : ∃ (x4 : Int), E0 g x4 ∧ K x4 h := by
  obtain ⟨hd, hq⟩ := nilDs_ok hq
  obtain ⟨y3, e2, q4⟩ := vInt_ok hq
  exact ⟨y3, ⟨e2, hd⟩, q4⟩
def Q0 (Kn : T0) (Kr : T0) : XPost
  | .normal, g, h => D0 Kn g h
  | .ret, g, h => D0 Kr g h
  | _, _, _ => False
abbrev T1 := (Option Addr) → Nat → Nat → (Option Addr) → Nat → Nat → H → Prop
def E1 (g : Env) (x0b : Option Addr) (x0n : Nat) (x0c : Nat) (x1b : Option Addr) (x1n : Nat) (x1c : Nat) : Prop := g.v 0 = (.slice x0b x0n x0c) ∧ g.v 1 = (.slice x1b x1n x1c) ∧ g.ds = []
def D1 (K : T1) (g : Env) (h : H) : Prop := nilDs g.ds (vSlice (g.v 0) fun s5b s5n s5c => vSlice (g.v 1) fun s6b s6n s6c => K s5b s5n s5c s6b s6n s6c h)
theorem D1_ok {K : T1} {g : Env} {h : H} (hq : D1 K g h) : ∃ (x0b : Option Addr) (x0n : Nat) (x0c : Nat) (x1b : Option Addr) (x1n : Nat) (x1c : Nat), E1 g x0b x0n x0c x1b x1n x1c ∧ K x0b x0n x0c x1b x1n x1c h := by
  obtain ⟨hd, hq⟩ := nilDs_ok hq
  obtain ⟨y8b, y8n, y8c, e7, q9⟩ := vSlice_ok hq
  obtain ⟨y11b, y11n, y11c, e10, q12⟩ := vSlice_ok q9
  exact ⟨y8b, y8n, y8c, y11b, y11n, y11c, ⟨e7, e10, hd⟩, q12⟩
noncomputable def n1_c1 : Code := cFst code
noncomputable def n1_c2 : Code := cSnd code
noncomputable def n2_c1 : Code := cFst n1_c2
noncomputable def n2_c2 : Code := cSnd n1_c2
abbrev T2 := H → Prop
def E2 (g : Env)  : Prop := g.ds = []
def D2 (K : T2) (g : Env) (h : H) : Prop := nilDs g.ds (K h)
theorem D2_ok {K : T2} {g : Env} {h : H} (hq : D2 K g h) : E2 g  ∧ K  h := by
  obtain ⟨hd, hq⟩ := nilDs_ok hq
  skip
  exact ⟨hd, hq⟩
abbrev n3  (Kn : T0) (Kr : T0) (h : H) : Prop :=
  Kr (-1 : Int) h
theorem n3_ok  (Kn : T0) (Kr : T0) (g : Env) (hg : E2 g ) (h : H) (hS : n3  Kn Kr h) : wpC none Try.prog 40 n2_c2 (Q0 Kn Kr) g h := by
  have hds : g.ds = [] := hg
  refine wpC_of_wpx (by kernel_rfl) (by kernel_rfl) (g' := ⟨g.v, []⟩) (by rw [env_ds hds]) ?_
  have e : (n3  Kn Kr h) = wpx none Try.prog 40 n2_c2 (Q0 Kn Kr) (⟨g.v, []⟩) h := by kernel_rfl
  exact e ▸ hS
def Q1 (Kn : T2) (Kr : T0) : XPost
  | .normal, g, h => D2 Kn g h
  | .ret, g, h => D0 Kr g h
  | _, _, _ => False
noncomputable def n4_c1 : Code := cFst n2_c1
noncomputable def n4_c2 : Code := cSnd n2_c1
abbrev T3 := (Option Addr) → Nat → Nat → (Option Addr) → Nat → Nat → Int → H → Prop
def E3 (g : Env) (x0b : Option Addr) (x0n : Nat) (x0c : Nat) (x1b : Option Addr) (x1n : Nat) (x1c : Nat) (x5 : Int) : Prop := g.v 0 = (.slice x0b x0n x0c) ∧ g.v 1 = (.slice x1b x1n x1c) ∧ g.v 5 = (.int .i64 x5) ∧ g.ds = []
def D3 (K : T3) (g : Env) (h : H) : Prop := nilDs g.ds (vSlice (g.v 0) fun s13b s13n s13c => vSlice (g.v 1) fun s14b s14n s14c => vInt .i64 (g.v 5) fun i15 => K s13b s13n s13c s14b s14n s14c i15 h)
theorem D3_ok {K : T3} {g : Env} {h : H} (hq : D3 K g h) : ∃ (x0b : Option Addr) (x0n : Nat) (x0c : Nat) (x1b : Option Addr) (x1n : Nat) (x1c : Nat) (x5 : Int), E3 g x0b x0n x0c x1b x1n x1c x5 ∧ K x0b x0n x0c x1b x1n x1c x5 h := by
  obtain ⟨hd, hq⟩ := nilDs_ok hq
  obtain ⟨y17b, y17n, y17c, e16, q18⟩ := vSlice_ok hq
  obtain ⟨y20b, y20n, y20c, e19, q21⟩ := vSlice_ok q18
  obtain ⟨y23, e22, q24⟩ := vInt_ok q21
  exact ⟨y17b, y17n, y17c, y20b, y20n, y20c, y23, ⟨e16, e19, e22, hd⟩, q24⟩
noncomputable def n5_c1 : Code := cFst n4_c2
def Q2 (Kn : T2) (Ke0 : T2) (Kr : T0) : XPost
  | .normal, g, h => D2 Kn g h
  | .ret, g, h => D0 Kr g h
  | .exit id, g, h => cond (Nat.beq id 0) (D2 Ke0 g h) (False)
  | _, _, _ => False
noncomputable def n6_c1 : Code := cFst n5_c1
def Q3 (Kn : T3) (Ke0 : T2) (Kr : T0) : XPost
  | .normal, g, h => D3 Kn g h
  | .ret, g, h => D0 Kr g h
  | .exit id, g, h => cond (Nat.beq id 0) (D2 Ke0 g h) (False)
  | _, _, _ => False
def n6_L (Kn : T2) (Ke0 : T2) (Kr : T0) : Nat → (Option Addr) → Nat → Nat → (Option Addr) → Nat → Nat → Int → H → Prop
  | 0 => fun _ _ _ _ _ _ _ _ => False
  | N + 1 => fun x0b x0n x0c x1b x1n x1c x5 h => Spl (x5 ≥ (0 : Int)) ((0 ≤ x5 ∧ x5 < (x0n : Int)) ∧ (vSome x0b fun a25 => ∃ i26, cell h (((a25.add (Int.toNat x5 * 4))).add 0) = some (.int .i64 i26) ∧ (∃ i27, cell h (((a25.add (Int.toNat x5 * 4))).add 1) = some (.int .u8 i27) ∧ (∃ s28, cell h (((a25.add (Int.toNat x5 * 4))).add 2) = some (S s28) ∧ (∃ i29, cell h (((a25.add (Int.toNat x5 * 4))).add 3) = some (.int .u8 i29) ∧ (HCalls Try.prog 28 ⟨[(.agg ⟨[(.int .i64 i26), (.int .u8 i27), (S s28), (.int .u8 i29)]⟩), (.slice x1b x1n x1c)]⟩ h fun v30 h31 => vBool v30 fun b32 => cond b32 (Kr x5 h31) ((0 ≤ x5 ∧ x5 < (x0n : Int)) ∧ (vSome x0b fun a33 => ∃ i34, cell h31 ((a33.add (Int.toNat x5 * 4)).add 1) = some (.int .u8 i34) ∧ ((0 ≤ x5 ∧ x5 < (x0n : Int)) ∧ (vSome x0b fun a35 => ∃ s36, cell h31 ((a35.add (Int.toNat x5 * 4)).add 2) = some (S s36) ∧ (HCalls Try.prog 13 ⟨[(.int .u8 i34), (S s36)]⟩ h31 fun v37 h38 => vBool v37 fun b39 => cond b39 ((0 ≤ x5 ∧ x5 < (x0n : Int)) ∧ (vSome x0b fun a40 => ∃ i41, cell h38 (((a40.add (Int.toNat x5 * 4))).add 0) = some (.int .i64 i41) ∧ (∃ i42, cell h38 (((a40.add (Int.toNat x5 * 4))).add 1) = some (.int .u8 i42) ∧ (∃ s43, cell h38 (((a40.add (Int.toNat x5 * 4))).add 2) = some (S s43) ∧ (∃ i44, cell h38 (((a40.add (Int.toNat x5 * 4))).add 3) = some (.int .u8 i44) ∧ (newx h38 #[(S ([97, 100, 100, 114, 101, 115, 115] : List UInt8)), (S ([100, 105, 118] : List UInt8)), (S ([112] : List UInt8))] 9 fun a45 h46 => ExtH h38 h46 ∧ (HCalls Try.prog 28 ⟨[(.agg ⟨[(.int .i64 i41), (.int .u8 i42), (S s43), (.int .u8 i44)]⟩), (.slice (some a45) 3 3)]⟩ h46 fun v47 h48 => vBool v47 fun b49 => cond b49 (Rng .i64 (x5 - (1 : Int)) ∧ (n6_L Kn Ke0 Kr N x0b x0n x0c x1b x1n x1c (x5 - (1 : Int)) h48)) (Kr (-1 : Int) h48)))))))) (Rng .i64 (x5 - (1 : Int)) ∧ (n6_L Kn Ke0 Kr N x0b x0n x0c x1b x1n x1c (x5 - (1 : Int)) h38))))))))))))) (Ke0 h)
abbrev n6 (x0b : Option Addr) (x0n : Nat) (x0c : Nat) (x1b : Option Addr) (x1n : Nat) (x1c : Nat) (x5 : Int) (Kn : T2) (Ke0 : T2) (Kr : T0) (h : H) : Prop := ∃ N, n6_L Kn Ke0 Kr N x0b x0n x0c x1b x1n x1c x5 h
theorem n6_ok (x0b : Option Addr) (x0n : Nat) (x0c : Nat) (x1b : Option Addr) (x1n : Nat) (x1c : Nat) (x5 : Int) (Kn : T2) (Ke0 : T2) (Kr : T0) (g : Env) (hg : E3 g x0b x0n x0c x1b x1n x1c x5) (h : H) (hS : n6 x0b x0n x0c x1b x1n x1c x5 Kn Ke0 Kr h) : wpC none Try.prog 40 n5_c1 (Q2 Kn Ke0 Kr) g h := by
  obtain ⟨N0, hS⟩ := hS
  refine wpC_loop' (x := n6_c1) (by kernel_rfl) (fun k g h => ∃ (x0b : Option Addr) (x0n : Nat) (x0c : Nat) (x1b : Option Addr) (x1n : Nat) (x1c : Nat) (x5 : Int), E3 g x0b x0n x0c x1b x1n x1c x5 ∧ n6_L Kn Ke0 Kr k x0b x0n x0c x1b x1n x1c x5 h) (fun g h hr => ?_) (fun N g h hr => ?_) N0 ⟨x0b, x0n, x0c, x1b, x1n, x1c, x5, hg, hS⟩
  · obtain ⟨x0b, x0n, x0c, x1b, x1n, x1c, x5, hg, hS⟩ := hr
    exact hS.elim
  · obtain ⟨x0b, x0n, x0c, x1b, x1n, x1c, x5, hg, hS⟩ := hr
    have hw : wpC none Try.prog 40 n6_c1 (Q3 (fun z0b z0n z0c z1b z1n z1c z5 h => n6_L Kn Ke0 Kr N z0b z0n z0c z1b z1n z1c z5 h) Ke0 Kr) g h := by
      obtain ⟨hg0, hg1, hg5, hds⟩ := hg
      refine wpC_of_wpx (by kernel_rfl) (by kernel_rfl) (g' := (((⟨g.v, []⟩ : Env).upd (some 0) (.slice x0b x0n x0c)).upd (some 1) (.slice x1b x1n x1c)).upd (some 5) (.int .i64 x5)) (by rw [env_ds hds, upd_self hg0, upd_self hg1, upd_self hg5]) ?_
      have e : (n6_L Kn Ke0 Kr (N + 1) x0b x0n x0c x1b x1n x1c x5 h) = wpx none Try.prog 40 n6_c1 (Q3 (fun z0b z0n z0c z1b z1n z1c z5 h => n6_L Kn Ke0 Kr N z0b z0n z0c z1b z1n z1c z5 h) Ke0 Kr) ((((⟨g.v, []⟩ : Env).upd (some 0) (.slice x0b x0n x0c)).upd (some 1) (.slice x1b x1n x1c)).upd (some 5) (.int .i64 x5)) h := by kernel_rfl
      exact e ▸ hS
    refine hw.mono ?_
    intro e g' h' hq
    cases e with
    | normal => exact D3_ok (K := (fun z0b z0n z0c z1b z1n z1c z5 h => n6_L Kn Ke0 Kr N z0b z0n z0c z1b z1n z1c z5 h)) hq
    | _ => exact hq
abbrev n5 (x0b : Option Addr) (x0n : Nat) (x0c : Nat) (x1b : Option Addr) (x1n : Nat) (x1c : Nat) (x5 : Int) (Kn : T2) (Kr : T0) (h : H) : Prop := n6 x0b x0n x0c x1b x1n x1c x5 Kn Kn Kr h
theorem n5_ok (x0b : Option Addr) (x0n : Nat) (x0c : Nat) (x1b : Option Addr) (x1n : Nat) (x1c : Nat) (x5 : Int) (Kn : T2) (Kr : T0) (g : Env) (hg : E3 g x0b x0n x0c x1b x1n x1c x5) (h : H) (hS : n5 x0b x0n x0c x1b x1n x1c x5 Kn Kr h) : wpC none Try.prog 40 n4_c2 (Q1 Kn Kr) g h := by
  refine wpC_block' (id := 0) (x := n5_c1) (by kernel_rfl) (n6_ok x0b x0n x0c x1b x1n x1c x5 Kn Kn Kr g hg h hS) ?_
  intro e g' h' hq
  cases e <;> exact hq
def Q4 (Kn : T3) (Kr : T0) : XPost
  | .normal, g, h => D3 Kn g h
  | .ret, g, h => D0 Kr g h
  | _, _, _ => False
abbrev n4 (x0b : Option Addr) (x0n : Nat) (x0c : Nat) (x1b : Option Addr) (x1n : Nat) (x1c : Nat) (Kn : T2) (Kr : T0) (h : H) : Prop :=
  Rng .i64 ((x0n : Int) - (1 : Int)) ∧ (n5 x0b x0n x0c x1b x1n x1c ((x0n : Int) - (1 : Int)) Kn Kr h)
theorem n4_ok (x0b : Option Addr) (x0n : Nat) (x0c : Nat) (x1b : Option Addr) (x1n : Nat) (x1c : Nat) (Kn : T2) (Kr : T0) (g : Env) (hg : E1 g x0b x0n x0c x1b x1n x1c) (h : H) (hS : n4 x0b x0n x0c x1b x1n x1c Kn Kr h) : wpC none Try.prog 40 n2_c1 (Q1 Kn Kr) g h := by
  obtain ⟨hg0, hg1, hds⟩ := hg
  refine wpC_seq' (x := n4_c1) (y := n4_c2) (Q' := (Q4 (fun z0b z0n z0c z1b z1n z1c z5 h => n5 z0b z0n z0c z1b z1n z1c z5 Kn Kr h) Kr)) (by kernel_rfl) ?_ ?_
  · refine wpC_of_wpx (by kernel_rfl) (by kernel_rfl) (g' := ((⟨g.v, []⟩ : Env).upd (some 0) (.slice x0b x0n x0c)).upd (some 1) (.slice x1b x1n x1c)) (by rw [env_ds hds, upd_self hg0, upd_self hg1]) ?_
    have e : (n4 x0b x0n x0c x1b x1n x1c Kn Kr h) = wpx none Try.prog 40 n4_c1 (Q4 (fun z0b z0n z0c z1b z1n z1c z5 h => n5 z0b z0n z0c z1b z1n z1c z5 Kn Kr h) Kr) (((⟨g.v, []⟩ : Env).upd (some 0) (.slice x0b x0n x0c)).upd (some 1) (.slice x1b x1n x1c)) h := by kernel_rfl
    exact e ▸ hS
  · intro e g' h' hq
    cases e with
    | normal =>
      have hq : D3 (fun z0b z0n z0c z1b z1n z1c z5 h => n5 z0b z0n z0c z1b z1n z1c z5 Kn Kr h) g' h' := hq
      obtain ⟨y0b, y0n, y0c, y1b, y1n, y1c, y5, hg', hq⟩ := D3_ok hq
      exact n5_ok y0b y0n y0c y1b y1n y1c y5 Kn Kr g' hg' h' hq
    | _ => exact hq
abbrev n2 (x0b : Option Addr) (x0n : Nat) (x0c : Nat) (x1b : Option Addr) (x1n : Nat) (x1c : Nat) (Kn : T0) (Kr : T0) (h : H) : Prop := n4 x0b x0n x0c x1b x1n x1c (fun  h => n3 Kn Kr h) Kr h
theorem n2_ok (x0b : Option Addr) (x0n : Nat) (x0c : Nat) (x1b : Option Addr) (x1n : Nat) (x1c : Nat) (Kn : T0) (Kr : T0) (g : Env) (hg : E1 g x0b x0n x0c x1b x1n x1c) (h : H) (hS : n2 x0b x0n x0c x1b x1n x1c Kn Kr h) : wpC none Try.prog 40 n1_c2 (Q0 Kn Kr) g h := by
  refine wpC_seq' (x := n2_c1) (y := n2_c2) (by kernel_rfl) (n4_ok x0b x0n x0c x1b x1n x1c (fun  h => n3 Kn Kr h) Kr g hg h hS) ?_
  intro e g' h' hq
  cases e with
  | normal =>
    have hq : D2 (fun  h => n3 Kn Kr h) g' h' := hq
    obtain ⟨hg', hq⟩ := D2_ok hq
    exact n3_ok  Kn Kr g' hg' h' hq
  | _ => exact hq
def Q5 (Kn : T1) (Kr : T0) : XPost
  | .normal, g, h => D1 Kn g h
  | .ret, g, h => D0 Kr g h
  | _, _, _ => False
abbrev n1 (x0b : Option Addr) (x0n : Nat) (x0c : Nat) (x1b : Option Addr) (x1n : Nat) (x1c : Nat) (Kn : T0) (Kr : T0) (h : H) : Prop :=
  n2 x0b x0n x0c x1b x1n x1c Kn Kr h
theorem n1_ok (x0b : Option Addr) (x0n : Nat) (x0c : Nat) (x1b : Option Addr) (x1n : Nat) (x1c : Nat) (Kn : T0) (Kr : T0) (g : Env) (hg : E1 g x0b x0n x0c x1b x1n x1c) (h : H) (hS : n1 x0b x0n x0c x1b x1n x1c Kn Kr h) : wpC none Try.prog 40 code (Q0 Kn Kr) g h := by
  obtain ⟨hg0, hg1, hds⟩ := hg
  refine wpC_seq' (x := n1_c1) (y := n1_c2) (Q' := (Q5 (fun z0b z0n z0c z1b z1n z1c h => n2 z0b z0n z0c z1b z1n z1c Kn Kr h) Kr)) (by kernel_rfl) ?_ ?_
  · refine wpC_of_wpx (by kernel_rfl) (by kernel_rfl) (g' := ((⟨g.v, []⟩ : Env).upd (some 0) (.slice x0b x0n x0c)).upd (some 1) (.slice x1b x1n x1c)) (by rw [env_ds hds, upd_self hg0, upd_self hg1]) ?_
    have e : (n1 x0b x0n x0c x1b x1n x1c Kn Kr h) = wpx none Try.prog 40 n1_c1 (Q5 (fun z0b z0n z0c z1b z1n z1c h => n2 z0b z0n z0c z1b z1n z1c Kn Kr h) Kr) (((⟨g.v, []⟩ : Env).upd (some 0) (.slice x0b x0n x0c)).upd (some 1) (.slice x1b x1n x1c)) h := by kernel_rfl
    exact e ▸ hS
  · intro e g' h' hq
    cases e with
    | normal =>
      have hq : D1 (fun z0b z0n z0c z1b z1n z1c h => n2 z0b z0n z0c z1b z1n z1c Kn Kr h) g' h' := hq
      obtain ⟨y0b, y0n, y0c, y1b, y1n, y1c, hg', hq⟩ := D1_ok hq
      exact n2_ok y0b y0n y0c y1b y1n y1c Kn Kr g' hg' h' hq
    | _ => exact hq
/-- WHAT tympan/tympanref11.Item ASKS -/
abbrev asks (x0b : Option Addr) (x0n : Nat) (x0c : Nat) (x1b : Option Addr) (x1n : Nat) (x1c : Nat) (K : Value → H → Prop) (h : H) : Prop := n1 x0b x0n x0c x1b x1n x1c (fun y4 h => K (.int .i64 y4) h) (fun y4 h => K (.int .i64 y4) h) h
theorem ok (x0b : Option Addr) (x0n : Nat) (x0c : Nat) (x1b : Option Addr) (x1n : Nat) (x1c : Nat) (K : Value → H → Prop) (h : H) (hS : asks x0b x0n x0c x1b x1n x1c K h) : HCalls Try.prog 23 ⟨[(.slice x0b x0n x0c), (.slice x1b x1n x1c)]⟩ h K := by
  refine calls_of_wpC (c := code) Try.func23 (by kernel_rfl) (Nat.le_of_ble_eq_true (by kernel_rfl)) ?_
  refine (n1_ok x0b x0n x0c x1b x1n x1c (fun y4 h => K (.int .i64 y4) h) (fun y4 h => K (.int .i64 y4) h) (env0 [(.slice x0b x0n x0c), (.slice x1b x1n x1c)]) ⟨rfl, rfl, rfl⟩ h hS).mono ?_
  intro e g' h' hq
  cases e with
  | normal =>
    have hq : D0 (fun y4 h => K (.int .i64 y4) h) g' h' := hq
    obtain ⟨y4, ⟨hg4, hd⟩, hq⟩ := D0_ok hq
    show leaveX g'.ds h' _
    rw [hd]
    show K (g'.v 4) h'
    rw [hg4]
    exact hq
  | ret =>
    have hq : D0 (fun y4 h => K (.int .i64 y4) h) g' h' := hq
    obtain ⟨y4, ⟨hg4, hd⟩, hq⟩ := D0_ok hq
    show leaveX g'.ds h' _
    rw [hd]
    show K (g'.v 4) h'
    rw [hg4]
    exact hq
  | _ => exact hq
end Sx.r11_Item
end Go.Proofs
