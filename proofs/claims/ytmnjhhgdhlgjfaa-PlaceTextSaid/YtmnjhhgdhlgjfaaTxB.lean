/- The shallow forms of functions, printed by sh.py out of the translation; each with its proof. No condition. -/
import Derived.Test.YtmnjhhgdhlgjfaaShJ
import Derived.Test.YtmnjhhgdhlgjfaaProg
namespace Go.Proofs
open Go Go.Sh
set_option linter.unusedVariables false
set_option maxRecDepth 100000

/-! ### tympan/open.Until -/
namespace Sx.open_Until
noncomputable def code : Code := bodyOf Try.f25
abbrev T0 := Addr → (List Deferred) → H → Prop
def E0 (g : Env) (x4 : Addr) (ds : List Deferred) : Prop := g.v 4 = (.pointer (some x4)) ∧ g.ds = ds
def D0 (K : T0) (g : Env) (h : H) : Prop := vAddr (g.v 4) fun a1 => K a1 g.ds h
theorem D0_ok {K : T0} {g : Env} {h : H} (hq : D0 K g h) : ∃ (x4 : Addr) (ds : List Deferred), E0 g x4 ds ∧ K x4 ds h := by
  obtain ⟨y3, e2, q4⟩ := vAddr_ok hq
  exact ⟨y3, g.ds, ⟨e2, rfl⟩, q4⟩
theorem D0_mk {K : T0} {g : Env} {h : H} {x4 : Addr} {ds : List Deferred} (hg : E0 g x4 ds) (hk : K x4 ds h) : D0 K g h := by
  obtain ⟨hg4, hds⟩ := hg
  unfold D0
  rw [hg4, hds]
  exact hk
def Q0 (Kn : T0) (Kr : T0) : XPost
  | .normal, g, h => D0 Kn g h
  | .ret, g, h => D0 Kr g h
  | _, _, _ => False
abbrev T1 := (Option Addr) → Nat → Nat → (Option Addr) → Nat → Nat → (List Deferred) → H → Prop
def E1 (g : Env) (x0b : Option Addr) (x0n : Nat) (x0c : Nat) (x1b : Option Addr) (x1n : Nat) (x1c : Nat) (ds : List Deferred) : Prop := g.v 0 = (.slice x0b x0n x0c) ∧ g.v 1 = (.slice x1b x1n x1c) ∧ g.ds = ds
def D1 (K : T1) (g : Env) (h : H) : Prop := vSlice (g.v 0) fun s5b s5n s5c => vSlice (g.v 1) fun s6b s6n s6c => K s5b s5n s5c s6b s6n s6c g.ds h
theorem D1_ok {K : T1} {g : Env} {h : H} (hq : D1 K g h) : ∃ (x0b : Option Addr) (x0n : Nat) (x0c : Nat) (x1b : Option Addr) (x1n : Nat) (x1c : Nat) (ds : List Deferred), E1 g x0b x0n x0c x1b x1n x1c ds ∧ K x0b x0n x0c x1b x1n x1c ds h := by
  obtain ⟨y8b, y8n, y8c, e7, q9⟩ := vSlice_ok hq
  obtain ⟨y11b, y11n, y11c, e10, q12⟩ := vSlice_ok q9
  exact ⟨y8b, y8n, y8c, y11b, y11n, y11c, g.ds, ⟨e7, e10, rfl⟩, q12⟩
theorem D1_mk {K : T1} {g : Env} {h : H} {x0b : Option Addr} {x0n : Nat} {x0c : Nat} {x1b : Option Addr} {x1n : Nat} {x1c : Nat} {ds : List Deferred} (hg : E1 g x0b x0n x0c x1b x1n x1c ds) (hk : K x0b x0n x0c x1b x1n x1c ds h) : D1 K g h := by
  obtain ⟨hg0, hg1, hds⟩ := hg
  unfold D1
  rw [hg0, hg1, hds]
  exact hk
noncomputable def n1_c1 : Code := cFst code
noncomputable def n1_c2 : Code := cSnd code
abbrev T2 := (Option Addr) → Nat → Nat → Addr → Addr → (List Deferred) → H → Prop
def E2 (g : Env) (x0b : Option Addr) (x0n : Nat) (x0c : Nat) (x3 : Addr) (x4 : Addr) (ds : List Deferred) : Prop := g.v 0 = (.slice x0b x0n x0c) ∧ g.v 3 = (.pointer (some x3)) ∧ g.v 4 = (.pointer (some x4)) ∧ g.ds = ds
def D2 (K : T2) (g : Env) (h : H) : Prop := vSlice (g.v 0) fun s13b s13n s13c => vAddr (g.v 3) fun a14 => vAddr (g.v 4) fun a15 => K s13b s13n s13c a14 a15 g.ds h
theorem D2_ok {K : T2} {g : Env} {h : H} (hq : D2 K g h) : ∃ (x0b : Option Addr) (x0n : Nat) (x0c : Nat) (x3 : Addr) (x4 : Addr) (ds : List Deferred), E2 g x0b x0n x0c x3 x4 ds ∧ K x0b x0n x0c x3 x4 ds h := by
  obtain ⟨y17b, y17n, y17c, e16, q18⟩ := vSlice_ok hq
  obtain ⟨y20, e19, q21⟩ := vAddr_ok q18
  obtain ⟨y23, e22, q24⟩ := vAddr_ok q21
  exact ⟨y17b, y17n, y17c, y20, y23, g.ds, ⟨e16, e19, e22, rfl⟩, q24⟩
theorem D2_mk {K : T2} {g : Env} {h : H} {x0b : Option Addr} {x0n : Nat} {x0c : Nat} {x3 : Addr} {x4 : Addr} {ds : List Deferred} (hg : E2 g x0b x0n x0c x3 x4 ds) (hk : K x0b x0n x0c x3 x4 ds h) : D2 K g h := by
  obtain ⟨hg0, hg3, hg4, hds⟩ := hg
  unfold D2
  rw [hg0, hg3, hg4, hds]
  exact hk
noncomputable def n2_c1 : Code := cFst n1_c2
noncomputable def n2_c2 : Code := cSnd n1_c2
abbrev n3 (x4 : Addr) (ds : List Deferred) (Kn : T0) (Kr : T0) (h : H) : Prop :=
  stL x4 [(.int .i64 (-1 : Int))] 0 h fun h25 => Kr x4 ds h25
theorem n3_ok (x4 : Addr) (ds : List Deferred) (Kn : T0) (Kr : T0) (g : Env) (hg : E0 g x4 ds) (h : H) (hS : n3 x4 ds Kn Kr h) : wpC none Try.prog 15 n2_c2 (Q0 Kn Kr) g h := by
  obtain ⟨hg4, hds⟩ := hg
  refine wpC_of_wpx (by kernel_rfl) (by kernel_rfl) (g' := (⟨g.v, ds⟩ : Env).upd (some 4) (.pointer (some x4))) (by rw [env_ds hds, upd_self hg4]) ?_
  have e : (n3 x4 ds Kn Kr h) = wpx none Try.prog 15 n2_c2 (Q0 Kn Kr) ((⟨g.v, ds⟩ : Env).upd (some 4) (.pointer (some x4))) h := by kernel_rfl
  exact e ▸ hS
noncomputable def n4_c1 : Code := cFst n2_c1
noncomputable def n4_c2 : Code := cSnd n2_c1
abbrev T3 := Addr → Addr → Value → (List Deferred) → H → Prop
def E3 (g : Env) (x3 : Addr) (x4 : Addr) (x8 : Value) (ds : List Deferred) : Prop := g.v 3 = (.pointer (some x3)) ∧ g.v 4 = (.pointer (some x4)) ∧ g.v 8 = x8 ∧ g.ds = ds
def D3 (K : T3) (g : Env) (h : H) : Prop := vAddr (g.v 3) fun a26 => vAddr (g.v 4) fun a27 => K a26 a27 (g.v 8) g.ds h
theorem D3_ok {K : T3} {g : Env} {h : H} (hq : D3 K g h) : ∃ (x3 : Addr) (x4 : Addr) (x8 : Value) (ds : List Deferred), E3 g x3 x4 x8 ds ∧ K x3 x4 x8 ds h := by
  obtain ⟨y29, e28, q30⟩ := vAddr_ok hq
  obtain ⟨y32, e31, q33⟩ := vAddr_ok q30
  exact ⟨y29, y32, (g.v 8), g.ds, ⟨e28, e31, rfl, rfl⟩, q33⟩
theorem D3_mk {K : T3} {g : Env} {h : H} {x3 : Addr} {x4 : Addr} {x8 : Value} {ds : List Deferred} (hg : E3 g x3 x4 x8 ds) (hk : K x3 x4 x8 ds h) : D3 K g h := by
  obtain ⟨hg3, hg4, hg8, hds⟩ := hg
  unfold D3
  rw [hg3, hg4, hg8, hds]
  exact hk
noncomputable def n5_c1 : Code := cFst n4_c2
def Q1 (Kn : T0) (Ke0 : T0) (Kr : T0) : XPost
  | .normal, g, h => D0 Kn g h
  | .ret, g, h => D0 Kr g h
  | .exit id, g, h => cond (Nat.beq id 0) (D0 Ke0 g h) (False)
  | _, _, _ => False
noncomputable def n6_c1 : Code := cFst n5_c1
noncomputable def n6_c2 : Code := cSnd n5_c1
def n6_rd (x3 : Addr) (x4 : Addr) (x8 : Value) (ds : List Deferred) (Kn : T0) (Ke0 : T0) (Kr : T0) (h : H) (p9 : Int) (p10_0 : Int) (p10_1 : Int) (p10_2 : List UInt8) (p10_3 : Int) (Mid : H → (H → Prop) → Prop) (Kc : H → H → Prop) (Fin : H → H → (H → Prop) → Prop) (h1 : H) : Prop :=
  newx h1 ⟨[(.int .i64 (0 : Int)), (.int .u8 (0 : Int)), (S ([] : List UInt8)), (.int .u8 (0 : Int))]⟩ 44 fun a34 h35 => stL a34 [(.int .i64 p10_0), (.int .u8 p10_1), (S p10_2), (.int .u8 p10_3)] 0 h35 fun h36 => Mid h36 fun hb37 => ∃ i38, cell hb37 ((a34).add 0) = some (.int .i64 i38) ∧ (∃ i39, cell hb37 ((a34).add 1) = some (.int .u8 i39) ∧ (∃ s40, cell hb37 ((a34).add 2) = some (S s40) ∧ (∃ i41, cell hb37 ((a34).add 3) = some (.int .u8 i41) ∧ (∃ s42b s42n s42c, cell hb37 x3 = some (.slice s42b s42n s42c) ∧ (HCalls Try.prog 34 ⟨[(.agg ⟨[(.int .i64 i38), (.int .u8 i39), (S s40), (.int .u8 i41)]⟩), (.slice s42b s42n s42c)]⟩ hb37 fun v43 h44 => vBool v43 fun b45 => cond b45 (stL x4 [(.int .i64 p9)] 0 h44 fun h46 => Fin hb37 h46 fun h47 => Kr x4 (markD h.size :: ds) h47) (Kc hb37 h44))))))
abbrev n6 (x3 : Addr) (x4 : Addr) (x8 : Value) (ds : List Deferred) (Kn : T0) (Ke0 : T0) (Kr : T0) (h : H) : Prop := Ranges Try.prog x8 2 h (fun l48 Mid Kc Fin h1 => uncons l48 fun e49 l50 => vInt .i64 e49 fun i51 => uncons l50 fun e52 l53 => vAgg e52 fun l54 => uncons l54 fun e55 l56 => vInt .i64 e55 fun i57 => uncons l56 fun e58 l59 => vInt .u8 e58 fun i60 => uncons l59 fun e61 l62 => vStr e61 fun s63 => uncons l62 fun e64 l65 => vInt .u8 e64 fun i66 => unnil l65 (unnil l53 (n6_rd x3 x4 x8 ds Kn Ke0 Kr h i51 i57 i60 s63 i66 Mid Kc Fin h1))) (fun h4 => Kn x4 (markD h.size :: ds) h4)
theorem n6_ok (x3 : Addr) (x4 : Addr) (x8 : Value) (ds : List Deferred) (Kn : T0) (Ke0 : T0) (Kr : T0) (g : Env) (hg : E3 g x3 x4 x8 ds) (h : H) (hS : n6 x3 x4 x8 ds Kn Ke0 Kr h) : wpC none Try.prog 15 n5_c1 (Q1 Kn Ke0 Kr) g h := by
  obtain ⟨hg3, hg4, hg8, hds⟩ := hg
  subst hds
  have ho : ((((⟨g.v, g.ds⟩ : Env).upd (some 3) (.pointer (some x3))).upd (some 4) (.pointer (some x4))).upd (some 8) x8 : Env) = g := by rw [env_ds rfl, upd_self hg3, upd_self hg4, upd_self hg8]
  have hc : n5_c1 = .rangeFunc (.tmp 8) #[9, 10] n6_c1 n6_c2 := by kernel_rfl
  rw [hc]
  refine wpC_range (f := x8) (rd := (fun l48 Mid Kc Fin h1 => uncons l48 fun e49 l50 => vInt .i64 e49 fun i51 => uncons l50 fun e52 l53 => vAgg e52 fun l54 => uncons l54 fun e55 l56 => vInt .i64 e55 fun i57 => uncons l56 fun e58 l59 => vInt .u8 e58 fun i60 => uncons l59 fun e61 l62 => vStr e61 fun s63 => uncons l62 fun e64 l65 => vInt .u8 e64 fun i66 => unnil l65 (unnil l53 (n6_rd x3 x4 x8 g.ds Kn Ke0 Kr h i51 i57 i60 s63 i66 Mid Kc Fin h1)))) (done := (fun h4 => Kn x4 (markD h.size :: g.ds) h4)) ?_ hS ?_ ?_
  · rw [← ho]; kernel_rfl
  · intro h4 hd
    have e : (Kn x4 (markD h.size :: g.ds) h4) = (Q1 Kn Ke0 Kr) .normal ⟨((((⟨g.v, g.ds⟩ : Env).upd (some 3) (.pointer (some x3))).upd (some 4) (.pointer (some x4))).upd (some 8) x8).v, markD h.size :: g.ds⟩ h4 := by kernel_rfl
    rw [ho] at e
    exact e ▸ hd
  · intro L x Mid Kc Fin h1 hM hx
    obtain ⟨u67, l68, rfl, q69⟩ := uncons_ok hx
    obtain ⟨y70, rfl, q71⟩ := vInt_ok q69
    obtain ⟨u72, l73, rfl, q74⟩ := uncons_ok q71
    obtain ⟨l75, rfl, q76⟩ := vAgg_ok q74
    obtain ⟨u77, l78, rfl, q79⟩ := uncons_ok q76
    obtain ⟨y80, rfl, q81⟩ := vInt_ok q79
    obtain ⟨u82, l83, rfl, q84⟩ := uncons_ok q81
    obtain ⟨y85, rfl, q86⟩ := vInt_ok q84
    obtain ⟨u87, l88, rfl, q89⟩ := uncons_ok q86
    obtain ⟨y90, rfl, q91⟩ := vStr_ok q89
    obtain ⟨u92, l93, rfl, q94⟩ := uncons_ok q91
    obtain ⟨y95, rfl, q96⟩ := vInt_ok q94
    obtain ⟨rfl, q97⟩ := unnil_ok q96
    obtain ⟨rfl, q98⟩ := unnil_ok q97
    have e : (n6_rd x3 x4 x8 g.ds Kn Ke0 Kr h y70 y80 y85 y90 y95 Mid Kc Fin h1) = wpx (some L) Try.prog 15 n6_c1 (thenX (fun g1 he => Mid he fun hb => wpx (some L) Try.prog 15 n6_c2 (rpost Kc Fin (Q1 Kn Ke0 Kr) ⟨((((⟨g.v, g.ds⟩ : Env).upd (some 3) (.pointer (some x3))).upd (some 4) (.pointer (some x4))).upd (some 8) x8).v, markD h.size :: g.ds⟩ hb) g1 hb) fun _ _ _ => False) (setps ((((⟨g.v, g.ds⟩ : Env).upd (some 3) (.pointer (some x3))).upd (some 4) (.pointer (some x4))).upd (some 8) x8) [9, 10] [(.int .i64 y70), (.agg ⟨[(.int .i64 y80), (.int .u8 y85), (S y90), (.int .u8 y95)]⟩)]) h1 := by kernel_rfl
    rw [ho] at e
    exact (wpx_ok (by kernel_rfl) _ _ _ _ (by kernel_rfl) (e ▸ q98)).mono (thenX_mono fun g1 he hm => hM he _ _ (fun hb => wpx_ok (by kernel_rfl) _ _ _ _ (by kernel_rfl)) hm)
abbrev n5 (x3 : Addr) (x4 : Addr) (x8 : Value) (ds : List Deferred) (Kn : T0) (Kr : T0) (h : H) : Prop := n6 x3 x4 x8 ds Kn Kn Kr h
theorem n5_ok (x3 : Addr) (x4 : Addr) (x8 : Value) (ds : List Deferred) (Kn : T0) (Kr : T0) (g : Env) (hg : E3 g x3 x4 x8 ds) (h : H) (hS : n5 x3 x4 x8 ds Kn Kr h) : wpC none Try.prog 15 n4_c2 (Q0 Kn Kr) g h := by
  refine wpC_block' (id := 0) (x := n5_c1) (by kernel_rfl) (n6_ok x3 x4 x8 ds Kn Kn Kr g hg h hS) ?_
  intro e g' h' hq
  cases e <;> exact hq
def Q2 (Kn : T3) (Kr : T0) : XPost
  | .normal, g, h => D3 Kn g h
  | .ret, g, h => D0 Kr g h
  | _, _, _ => False
abbrev n4 (x0b : Option Addr) (x0n : Nat) (x0c : Nat) (x3 : Addr) (x4 : Addr) (ds : List Deferred) (Kn : T0) (Kr : T0) (h : H) : Prop :=
  HCalls Try.prog 33 ⟨[(.slice x0b x0n x0c)]⟩ h fun v99 h100 => n5 x3 x4 v99 ds Kn Kr h100
theorem n4_ok (x0b : Option Addr) (x0n : Nat) (x0c : Nat) (x3 : Addr) (x4 : Addr) (ds : List Deferred) (Kn : T0) (Kr : T0) (g : Env) (hg : E2 g x0b x0n x0c x3 x4 ds) (h : H) (hS : n4 x0b x0n x0c x3 x4 ds Kn Kr h) : wpC none Try.prog 15 n2_c1 (Q0 Kn Kr) g h := by
  obtain ⟨hg0, hg3, hg4, hds⟩ := hg
  refine wpC_seq' (x := n4_c1) (y := n4_c2) (Q' := (Q2 (fun z3 z4 z8 zds h => n5 z3 z4 z8 zds Kn Kr h) Kr)) (by kernel_rfl) ?_ ?_
  · refine wpC_of_wpx (by kernel_rfl) (by kernel_rfl) (g' := (((⟨g.v, ds⟩ : Env).upd (some 0) (.slice x0b x0n x0c)).upd (some 3) (.pointer (some x3))).upd (some 4) (.pointer (some x4))) (by rw [env_ds hds, upd_self hg0, upd_self hg3, upd_self hg4]) ?_
    have e : (n4 x0b x0n x0c x3 x4 ds Kn Kr h) = wpx none Try.prog 15 n4_c1 (Q2 (fun z3 z4 z8 zds h => n5 z3 z4 z8 zds Kn Kr h) Kr) ((((⟨g.v, ds⟩ : Env).upd (some 0) (.slice x0b x0n x0c)).upd (some 3) (.pointer (some x3))).upd (some 4) (.pointer (some x4))) h := by kernel_rfl
    exact e ▸ hS
  · intro e g' h' hq
    cases e with
    | normal =>
      have hq : D3 (fun z3 z4 z8 zds h => n5 z3 z4 z8 zds Kn Kr h) g' h' := hq
      obtain ⟨y3, y4, y8, yds, hg', hq⟩ := D3_ok hq
      exact n5_ok y3 y4 y8 yds Kn Kr g' hg' h' hq
    | _ => exact hq
abbrev n2 (x0b : Option Addr) (x0n : Nat) (x0c : Nat) (x3 : Addr) (x4 : Addr) (ds : List Deferred) (Kn : T0) (Kr : T0) (h : H) : Prop := n4 x0b x0n x0c x3 x4 ds (fun z4 zds h => n3 z4 zds Kn Kr h) Kr h
theorem n2_ok (x0b : Option Addr) (x0n : Nat) (x0c : Nat) (x3 : Addr) (x4 : Addr) (ds : List Deferred) (Kn : T0) (Kr : T0) (g : Env) (hg : E2 g x0b x0n x0c x3 x4 ds) (h : H) (hS : n2 x0b x0n x0c x3 x4 ds Kn Kr h) : wpC none Try.prog 15 n1_c2 (Q0 Kn Kr) g h := by
  refine wpC_seq' (x := n2_c1) (y := n2_c2) (by kernel_rfl) (n4_ok x0b x0n x0c x3 x4 ds (fun z4 zds h => n3 z4 zds Kn Kr h) Kr g hg h hS) ?_
  intro e g' h' hq
  cases e with
  | normal =>
    have hq : D0 (fun z4 zds h => n3 z4 zds Kn Kr h) g' h' := hq
    obtain ⟨y4, yds, hg', hq⟩ := D0_ok hq
    exact n3_ok y4 yds Kn Kr g' hg' h' hq
  | _ => exact hq
def Q3 (Kn : T2) (Kr : T0) : XPost
  | .normal, g, h => D2 Kn g h
  | .ret, g, h => D0 Kr g h
  | _, _, _ => False
abbrev n1 (x0b : Option Addr) (x0n : Nat) (x0c : Nat) (x1b : Option Addr) (x1n : Nat) (x1c : Nat) (ds : List Deferred) (Kn : T0) (Kr : T0) (h : H) : Prop :=
  newx h #[(.slice x1b x1n x1c)] 76 fun a101 h102 => newx h102 #[(.int .i64 (0 : Int))] 3 fun a103 h104 => n2 x0b x0n x0c a101 a103 ds Kn Kr h104
theorem n1_ok (x0b : Option Addr) (x0n : Nat) (x0c : Nat) (x1b : Option Addr) (x1n : Nat) (x1c : Nat) (ds : List Deferred) (Kn : T0) (Kr : T0) (g : Env) (hg : E1 g x0b x0n x0c x1b x1n x1c ds) (h : H) (hS : n1 x0b x0n x0c x1b x1n x1c ds Kn Kr h) : wpC none Try.prog 15 code (Q0 Kn Kr) g h := by
  obtain ⟨hg0, hg1, hds⟩ := hg
  refine wpC_seq' (x := n1_c1) (y := n1_c2) (Q' := (Q3 (fun z0b z0n z0c z3 z4 zds h => n2 z0b z0n z0c z3 z4 zds Kn Kr h) Kr)) (by kernel_rfl) ?_ ?_
  · refine wpC_of_wpx (by kernel_rfl) (by kernel_rfl) (g' := ((⟨g.v, ds⟩ : Env).upd (some 0) (.slice x0b x0n x0c)).upd (some 1) (.slice x1b x1n x1c)) (by rw [env_ds hds, upd_self hg0, upd_self hg1]) ?_
    have e : (n1 x0b x0n x0c x1b x1n x1c ds Kn Kr h) = wpx none Try.prog 15 n1_c1 (Q3 (fun z0b z0n z0c z3 z4 zds h => n2 z0b z0n z0c z3 z4 zds Kn Kr h) Kr) (((⟨g.v, ds⟩ : Env).upd (some 0) (.slice x0b x0n x0c)).upd (some 1) (.slice x1b x1n x1c)) h := by kernel_rfl
    exact e ▸ hS
  · intro e g' h' hq
    cases e with
    | normal =>
      have hq : D2 (fun z0b z0n z0c z3 z4 zds h => n2 z0b z0n z0c z3 z4 zds Kn Kr h) g' h' := hq
      obtain ⟨y0b, y0n, y0c, y3, y4, yds, hg', hq⟩ := D2_ok hq
      exact n2_ok y0b y0n y0c y3 y4 yds Kn Kr g' hg' h' hq
    | _ => exact hq
/-- WHAT tympan/open.Until ASKS -/
abbrev asks (x0b : Option Addr) (x0n : Nat) (x0c : Nat) (x1b : Option Addr) (x1n : Nat) (x1c : Nat) (K : Value → H → Prop) (h : H) : Prop := n1 x0b x0n x0c x1b x1n x1c [] (fun y4 ds h => leaveX ds h fun h => ∃ i105, cell h y4 = some (.int .i64 i105) ∧ (K (.int .i64 i105) h)) (fun y4 ds h => leaveX ds h fun h => ∃ i105, cell h y4 = some (.int .i64 i105) ∧ (K (.int .i64 i105) h)) h
theorem ok (x0b : Option Addr) (x0n : Nat) (x0c : Nat) (x1b : Option Addr) (x1n : Nat) (x1c : Nat) (K : Value → H → Prop) (h : H) (hS : asks x0b x0n x0c x1b x1n x1c K h) : HCalls Try.prog 25 ⟨[(.slice x0b x0n x0c), (.slice x1b x1n x1c)]⟩ h K := by
  refine calls_of_wpC (c := code) Try.func25 (by kernel_rfl) (Nat.le_of_ble_eq_true (by kernel_rfl)) ?_
  refine (n1_ok x0b x0n x0c x1b x1n x1c [] (fun y4 ds h => leaveX ds h fun h => ∃ i105, cell h y4 = some (.int .i64 i105) ∧ (K (.int .i64 i105) h)) (fun y4 ds h => leaveX ds h fun h => ∃ i105, cell h y4 = some (.int .i64 i105) ∧ (K (.int .i64 i105) h)) (env0 [(.slice x0b x0n x0c), (.slice x1b x1n x1c)]) ⟨rfl, rfl, rfl⟩ h hS).mono ?_
  intro e g' h' hq
  cases e with
  | normal =>
    have hq : D0 (fun y4 ds h => leaveX ds h fun h => ∃ i105, cell h y4 = some (.int .i64 i105) ∧ (K (.int .i64 i105) h)) g' h' := hq
    obtain ⟨y4, ds, ⟨hg4, hd⟩, hq⟩ := D0_ok hq
    show leaveX g'.ds h' _
    rw [hd]
    show leaveX ds h' fun h => vAddr (g'.v 4) fun a106 => ldx Try.prog 3 a106 h fun v107 => K v107 h
    rw [hg4]
    exact hq
  | ret =>
    have hq : D0 (fun y4 ds h => leaveX ds h fun h => ∃ i105, cell h y4 = some (.int .i64 i105) ∧ (K (.int .i64 i105) h)) g' h' := hq
    obtain ⟨y4, ds, ⟨hg4, hd⟩, hq⟩ := D0_ok hq
    show leaveX g'.ds h' _
    rw [hd]
    show leaveX ds h' fun h => vAddr (g'.v 4) fun a106 => ldx Try.prog 3 a106 h fun v107 => K v107 h
    rw [hg4]
    exact hq
  | _ => exact hq
end Sx.open_Until

/-! ### tympan/open.Special -/
namespace Sx.open_Special
noncomputable def code : Code := bodyOf Try.f31
abbrev T0 := Bool → H → Prop
def E0 (g : Env) (x4 : Bool) : Prop := g.v 4 = (.bool x4) ∧ g.ds = []
def D0 (K : T0) (g : Env) (h : H) : Prop := nilDs g.ds (vBool (g.v 4) fun b1 => K b1 h)
theorem D0_ok {K : T0} {g : Env} {h : H} (hq : D0 K g h) : ∃ (x4 : Bool), E0 g x4 ∧ K x4 h := by
  obtain ⟨hd, hq⟩ := nilDs_ok hq
  obtain ⟨y3, e2, q4⟩ := vBool_ok hq
  exact ⟨y3, ⟨e2, hd⟩, q4⟩
def Q0 (Kn : T0) (Kr : T0) : XPost
  | .normal, g, h => D0 Kn g h
  | .ret, g, h => D0 Kr g h
  | _, _, _ => False
abbrev T1 := Int → (List UInt8) → H → Prop
def E1 (g : Env) (x0 : Int) (x1 : List UInt8) : Prop := g.v 0 = (.int .u8 x0) ∧ g.v 1 = (S x1) ∧ g.ds = []
def D1 (K : T1) (g : Env) (h : H) : Prop := nilDs g.ds (vInt .u8 (g.v 0) fun i5 => vStr (g.v 1) fun s6 => K i5 s6 h)
theorem D1_ok {K : T1} {g : Env} {h : H} (hq : D1 K g h) : ∃ (x0 : Int) (x1 : List UInt8), E1 g x0 x1 ∧ K x0 x1 h := by
  obtain ⟨hd, hq⟩ := nilDs_ok hq
  obtain ⟨y8, e7, q9⟩ := vInt_ok hq
  obtain ⟨y11, e10, q12⟩ := vStr_ok q9
  exact ⟨y8, y11, ⟨e7, e10, hd⟩, q12⟩
noncomputable def n1_c1 : Code := cFst code
noncomputable def n1_c2 : Code := cSnd code
noncomputable def n2_c1 : Code := cFst n1_c2
noncomputable def n2_c2 : Code := cSnd n1_c2
abbrev T2 := H → Prop
def E2 (g : Env)  : Prop := g.ds = []
def D2 (K : T2) (g : Env) (h : H) : Prop := nilDs g.ds (K h)
theorem D2_ok {K : T2} {g : Env} {h : H} (hq : D2 K g h) : E2 g  ∧ K  h := by
  obtain ⟨hd, hq⟩ := nilDs_ok hq
  skip
  exact ⟨hd, hq⟩
abbrev n3  (Kn : T0) (Kr : T0) (h : H) : Prop :=
  Kr false h
theorem n3_ok  (Kn : T0) (Kr : T0) (g : Env) (hg : E2 g ) (h : H) (hS : n3  Kn Kr h) : wpC none Try.prog 18 n2_c2 (Q0 Kn Kr) g h := by
  have hds : g.ds = [] := hg
  refine wpC_of_wpx (by kernel_rfl) (by kernel_rfl) (g' := ⟨g.v, []⟩) (by rw [env_ds hds]) ?_
  have e : (n3  Kn Kr h) = wpx none Try.prog 18 n2_c2 (Q0 Kn Kr) (⟨g.v, []⟩) h := by kernel_rfl
  exact e ▸ hS
def Q1 (Kn : T2) (Kr : T0) : XPost
  | .normal, g, h => D2 Kn g h
  | .ret, g, h => D0 Kr g h
  | _, _, _ => False
noncomputable def n4_c1 : Code := cFst n2_c1
noncomputable def n4_c2 : Code := cSnd n2_c1
abbrev T3 := (List UInt8) → Int → H → Prop
def E3 (g : Env) (x1 : List UInt8) (x5 : Int) : Prop := g.v 1 = (S x1) ∧ g.v 5 = (.int .u8 x5) ∧ g.ds = []
def D3 (K : T3) (g : Env) (h : H) : Prop := nilDs g.ds (vStr (g.v 1) fun s13 => vInt .u8 (g.v 5) fun i14 => K s13 i14 h)
theorem D3_ok {K : T3} {g : Env} {h : H} (hq : D3 K g h) : ∃ (x1 : List UInt8) (x5 : Int), E3 g x1 x5 ∧ K x1 x5 h := by
  obtain ⟨hd, hq⟩ := nilDs_ok hq
  obtain ⟨y16, e15, q17⟩ := vStr_ok hq
  obtain ⟨y19, e18, q20⟩ := vInt_ok q17
  exact ⟨y16, y19, ⟨e15, e18, hd⟩, q20⟩
noncomputable def n5_c1 : Code := cFst n4_c2
def Q2 (Kn : T2) (Ke0 : T2) (Kr : T0) : XPost
  | .normal, g, h => D2 Kn g h
  | .ret, g, h => D0 Kr g h
  | .exit id, g, h => cond (Nat.beq id 0) (D2 Ke0 g h) (False)
  | _, _, _ => False
noncomputable def n6_c1 : Code := cFst n5_c1
noncomputable def n6_c2 : Code := cSnd n5_c1
abbrev T4 := (List UInt8) → Int → Bool → H → Prop
def E4 (g : Env) (x1 : List UInt8) (x5 : Int) (x6 : Bool) : Prop := g.v 1 = (S x1) ∧ g.v 5 = (.int .u8 x5) ∧ g.v 6 = (.bool x6) ∧ g.ds = []
def D4 (K : T4) (g : Env) (h : H) : Prop := nilDs g.ds (vStr (g.v 1) fun s21 => vInt .u8 (g.v 5) fun i22 => vBool (g.v 6) fun b23 => K s21 i22 b23 h)
theorem D4_ok {K : T4} {g : Env} {h : H} (hq : D4 K g h) : ∃ (x1 : List UInt8) (x5 : Int) (x6 : Bool), E4 g x1 x5 x6 ∧ K x1 x5 x6 h := by
  obtain ⟨hd, hq⟩ := nilDs_ok hq
  obtain ⟨y25, e24, q26⟩ := vStr_ok hq
  obtain ⟨y28, e27, q29⟩ := vInt_ok q26
  obtain ⟨y31, e30, q32⟩ := vBool_ok q29
  exact ⟨y25, y28, y31, ⟨e24, e27, e30, hd⟩, q32⟩
abbrev n7 (x1 : List UInt8) (x5 : Int) (x6 : Bool) (Kn : T2) (Ke0 : T2) (Kr : T0) (h : H) : Prop :=
  cond x6 (HCalls Try.prog 40 ⟨[(S ([32, 97, 100, 100, 114, 101, 115, 115, 32, 97, 112, 112, 108, 101, 116, 32, 97, 114, 101, 97, 32, 97, 114, 116, 105, 99, 108, 101, 32, 97, 115, 105, 100, 101, 32, 98, 97, 115, 101, 32, 98, 97, 115, 101, 102, 111, 110, 116, 32, 98, 103, 115, 111, 117, 110, 100, 32, 98, 108, 111, 99, 107, 113, 117, 111, 116, 101, 32, 98, 111, 100, 121, 32, 98, 114, 32, 98, 117, 116, 116, 111, 110, 32, 99, 97, 112, 116, 105, 111, 110, 32, 99, 101, 110, 116, 101, 114, 32, 99, 111, 108, 32, 99, 111, 108, 103, 114, 111, 117, 112, 32, 100, 100, 32, 100, 101, 116, 97, 105, 108, 115, 32, 100, 105, 97, 108, 111, 103, 32, 100, 105, 114, 32, 100, 105, 118, 32, 100, 108, 32, 100, 116, 32, 101, 109, 98, 101, 100, 32, 102, 105, 101, 108, 100, 115, 101, 116, 32, 102, 105, 103, 99, 97, 112, 116, 105, 111, 110, 32, 102, 105, 103, 117, 114, 101, 32, 102, 111, 111, 116, 101, 114, 32, 102, 111, 114, 109, 32, 102, 114, 97, 109, 101, 32, 102, 114, 97, 109, 101, 115, 101, 116, 32, 104, 49, 32, 104, 50, 32, 104, 51, 32, 104, 52, 32, 104, 53, 32, 104, 54, 32, 104, 101, 97, 100, 32, 104, 101, 97, 100, 101, 114, 32, 104, 103, 114, 111, 117, 112, 32, 104, 114, 32, 104, 116, 109, 108, 32, 105, 102, 114, 97, 109, 101, 32, 105, 109, 103, 32, 105, 110, 112, 117, 116, 32, 107, 101, 121, 103, 101, 110, 32, 108, 105, 32, 108, 105, 110, 107, 32, 108, 105, 115, 116, 105, 110, 103, 32, 109, 97, 105, 110, 32, 109, 97, 114, 113, 117, 101, 101, 32, 109, 101, 110, 117, 32, 109, 101, 116, 97, 32, 110, 97, 118, 32, 110, 111, 101, 109, 98, 101, 100, 32, 110, 111, 102, 114, 97, 109, 101, 115, 32, 110, 111, 115, 99, 114, 105, 112, 116, 32, 111, 98, 106, 101, 99, 116, 32, 111, 108, 32, 112, 32, 112, 97, 114, 97, 109, 32, 112, 108, 97, 105, 110, 116, 101, 120, 116, 32, 112, 114, 101, 32, 115, 99, 114, 105, 112, 116, 32, 115, 101, 97, 114, 99, 104, 32, 115, 101, 99, 116, 105, 111, 110, 32, 115, 101, 108, 101, 99, 116, 32, 115, 111, 117, 114, 99, 101, 32, 115, 116, 121, 108, 101, 32, 115, 117, 109, 109, 97, 114, 121, 32, 116, 97, 98, 108, 101, 32, 116, 98, 111, 100, 121, 32, 116, 100, 32, 116, 101, 109, 112, 108, 97, 116, 101, 32, 116, 101, 120, 116, 97, 114, 101, 97, 32, 116, 102, 111, 111, 116, 32, 116, 104, 32, 116, 104, 101, 97, 100, 32, 116, 105, 116, 108, 101, 32, 116, 114, 32, 116, 114, 97, 99, 107, 32, 117, 108, 32, 119, 98, 114, 32, 120, 109, 112, 32] : List UInt8)), (S x1)]⟩ h fun v33 h34 => vBool v33 fun b35 => cond b35 (Kr true h34) (Kr false h34)) (Spl (x5 = (2 : Int)) (HCalls Try.prog 40 ⟨[(S ([32, 97, 110, 110, 111, 116, 97, 116, 105, 111, 110, 45, 120, 109, 108, 32, 109, 105, 32, 109, 110, 32, 109, 111, 32, 109, 115, 32, 109, 116, 101, 120, 116, 32] : List UInt8)), (S x1)]⟩ h fun v36 h37 => vBool v36 fun b38 => cond b38 (Kr true h37) (Kr false h37)) (Spl (x5 = (1 : Int)) (HCalls Try.prog 40 ⟨[(S ([32, 100, 101, 115, 99, 32, 102, 111, 114, 101, 105, 103, 110, 79, 98, 106, 101, 99, 116, 32, 116, 105, 116, 108, 101, 32] : List UInt8)), (S x1)]⟩ h fun v39 h40 => vBool v39 fun b41 => cond b41 (Kr true h40) (Kr false h40)) (Kn h)))
theorem n7_ok (x1 : List UInt8) (x5 : Int) (x6 : Bool) (Kn : T2) (Ke0 : T2) (Kr : T0) (g : Env) (hg : E4 g x1 x5 x6) (h : H) (hS : n7 x1 x5 x6 Kn Ke0 Kr h) : wpC none Try.prog 18 n6_c2 (Q2 Kn Ke0 Kr) g h := by
  obtain ⟨hg1, hg5, hg6, hds⟩ := hg
  refine wpC_of_wpx (by kernel_rfl) (by kernel_rfl) (g' := (((⟨g.v, []⟩ : Env).upd (some 1) (S x1)).upd (some 5) (.int .u8 x5)).upd (some 6) (.bool x6)) (by rw [env_ds hds, upd_self hg1, upd_self hg5, upd_self hg6]) ?_
  have e : (n7 x1 x5 x6 Kn Ke0 Kr h) = wpx none Try.prog 18 n6_c2 (Q2 Kn Ke0 Kr) ((((⟨g.v, []⟩ : Env).upd (some 1) (S x1)).upd (some 5) (.int .u8 x5)).upd (some 6) (.bool x6)) h := by kernel_rfl
  exact e ▸ hS
def Q3 (Kn : T4) (Ke0 : T2) (Kr : T0) : XPost
  | .normal, g, h => D4 Kn g h
  | .ret, g, h => D0 Kr g h
  | .exit id, g, h => cond (Nat.beq id 0) (D2 Ke0 g h) (False)
  | _, _, _ => False
abbrev n6 (x1 : List UInt8) (x5 : Int) (Kn : T2) (Ke0 : T2) (Kr : T0) (h : H) : Prop :=
  Spl (x5 = (0 : Int)) (n7 x1 x5 true Kn Ke0 Kr h) (n7 x1 x5 false Kn Ke0 Kr h)
theorem n6_ok (x1 : List UInt8) (x5 : Int) (Kn : T2) (Ke0 : T2) (Kr : T0) (g : Env) (hg : E3 g x1 x5) (h : H) (hS : n6 x1 x5 Kn Ke0 Kr h) : wpC none Try.prog 18 n5_c1 (Q2 Kn Ke0 Kr) g h := by
  obtain ⟨hg1, hg5, hds⟩ := hg
  refine wpC_seq' (x := n6_c1) (y := n6_c2) (Q' := (Q3 (fun z1 z5 z6 h => n7 z1 z5 z6 Kn Ke0 Kr h) Ke0 Kr)) (by kernel_rfl) ?_ ?_
  · refine wpC_of_wpx (by kernel_rfl) (by kernel_rfl) (g' := ((⟨g.v, []⟩ : Env).upd (some 1) (S x1)).upd (some 5) (.int .u8 x5)) (by rw [env_ds hds, upd_self hg1, upd_self hg5]) ?_
    have e : (n6 x1 x5 Kn Ke0 Kr h) = wpx none Try.prog 18 n6_c1 (Q3 (fun z1 z5 z6 h => n7 z1 z5 z6 Kn Ke0 Kr h) Ke0 Kr) (((⟨g.v, []⟩ : Env).upd (some 1) (S x1)).upd (some 5) (.int .u8 x5)) h := by kernel_rfl
    exact e ▸ hS
  · intro e g' h' hq
    cases e with
    | normal =>
      have hq : D4 (fun z1 z5 z6 h => n7 z1 z5 z6 Kn Ke0 Kr h) g' h' := hq
      obtain ⟨y1, y5, y6, hg', hq⟩ := D4_ok hq
      exact n7_ok y1 y5 y6 Kn Ke0 Kr g' hg' h' hq
    | _ => exact hq
abbrev n5 (x1 : List UInt8) (x5 : Int) (Kn : T2) (Kr : T0) (h : H) : Prop := n6 x1 x5 Kn Kn Kr h
theorem n5_ok (x1 : List UInt8) (x5 : Int) (Kn : T2) (Kr : T0) (g : Env) (hg : E3 g x1 x5) (h : H) (hS : n5 x1 x5 Kn Kr h) : wpC none Try.prog 18 n4_c2 (Q1 Kn Kr) g h := by
  refine wpC_block' (id := 0) (x := n5_c1) (by kernel_rfl) (n6_ok x1 x5 Kn Kn Kr g hg h hS) ?_
  intro e g' h' hq
  cases e <;> exact hq
def Q4 (Kn : T3) (Kr : T0) : XPost
  | .normal, g, h => D3 Kn g h
  | .ret, g, h => D0 Kr g h
  | _, _, _ => False
abbrev n4 (x0 : Int) (x1 : List UInt8) (Kn : T2) (Kr : T0) (h : H) : Prop :=
  n5 x1 x0 Kn Kr h
theorem n4_ok (x0 : Int) (x1 : List UInt8) (Kn : T2) (Kr : T0) (g : Env) (hg : E1 g x0 x1) (h : H) (hS : n4 x0 x1 Kn Kr h) : wpC none Try.prog 18 n2_c1 (Q1 Kn Kr) g h := by
  obtain ⟨hg0, hg1, hds⟩ := hg
  refine wpC_seq' (x := n4_c1) (y := n4_c2) (Q' := (Q4 (fun z1 z5 h => n5 z1 z5 Kn Kr h) Kr)) (by kernel_rfl) ?_ ?_
  · refine wpC_of_wpx (by kernel_rfl) (by kernel_rfl) (g' := ((⟨g.v, []⟩ : Env).upd (some 0) (.int .u8 x0)).upd (some 1) (S x1)) (by rw [env_ds hds, upd_self hg0, upd_self hg1]) ?_
    have e : (n4 x0 x1 Kn Kr h) = wpx none Try.prog 18 n4_c1 (Q4 (fun z1 z5 h => n5 z1 z5 Kn Kr h) Kr) (((⟨g.v, []⟩ : Env).upd (some 0) (.int .u8 x0)).upd (some 1) (S x1)) h := by kernel_rfl
    exact e ▸ hS
  · intro e g' h' hq
    cases e with
    | normal =>
      have hq : D3 (fun z1 z5 h => n5 z1 z5 Kn Kr h) g' h' := hq
      obtain ⟨y1, y5, hg', hq⟩ := D3_ok hq
      exact n5_ok y1 y5 Kn Kr g' hg' h' hq
    | _ => exact hq
abbrev n2 (x0 : Int) (x1 : List UInt8) (Kn : T0) (Kr : T0) (h : H) : Prop := n4 x0 x1 (fun  h => n3 Kn Kr h) Kr h
theorem n2_ok (x0 : Int) (x1 : List UInt8) (Kn : T0) (Kr : T0) (g : Env) (hg : E1 g x0 x1) (h : H) (hS : n2 x0 x1 Kn Kr h) : wpC none Try.prog 18 n1_c2 (Q0 Kn Kr) g h := by
  refine wpC_seq' (x := n2_c1) (y := n2_c2) (by kernel_rfl) (n4_ok x0 x1 (fun  h => n3 Kn Kr h) Kr g hg h hS) ?_
  intro e g' h' hq
  cases e with
  | normal =>
    have hq : D2 (fun  h => n3 Kn Kr h) g' h' := hq
    obtain ⟨hg', hq⟩ := D2_ok hq
    exact n3_ok  Kn Kr g' hg' h' hq
  | _ => exact hq
def Q5 (Kn : T1) (Kr : T0) : XPost
  | .normal, g, h => D1 Kn g h
  | .ret, g, h => D0 Kr g h
  | _, _, _ => False
abbrev n1 (x0 : Int) (x1 : List UInt8) (Kn : T0) (Kr : T0) (h : H) : Prop :=
  n2 x0 x1 Kn Kr h
theorem n1_ok (x0 : Int) (x1 : List UInt8) (Kn : T0) (Kr : T0) (g : Env) (hg : E1 g x0 x1) (h : H) (hS : n1 x0 x1 Kn Kr h) : wpC none Try.prog 18 code (Q0 Kn Kr) g h := by
  obtain ⟨hg0, hg1, hds⟩ := hg
  refine wpC_seq' (x := n1_c1) (y := n1_c2) (Q' := (Q5 (fun z0 z1 h => n2 z0 z1 Kn Kr h) Kr)) (by kernel_rfl) ?_ ?_
  · refine wpC_of_wpx (by kernel_rfl) (by kernel_rfl) (g' := ((⟨g.v, []⟩ : Env).upd (some 0) (.int .u8 x0)).upd (some 1) (S x1)) (by rw [env_ds hds, upd_self hg0, upd_self hg1]) ?_
    have e : (n1 x0 x1 Kn Kr h) = wpx none Try.prog 18 n1_c1 (Q5 (fun z0 z1 h => n2 z0 z1 Kn Kr h) Kr) (((⟨g.v, []⟩ : Env).upd (some 0) (.int .u8 x0)).upd (some 1) (S x1)) h := by kernel_rfl
    exact e ▸ hS
  · intro e g' h' hq
    cases e with
    | normal =>
      have hq : D1 (fun z0 z1 h => n2 z0 z1 Kn Kr h) g' h' := hq
      obtain ⟨y0, y1, hg', hq⟩ := D1_ok hq
      exact n2_ok y0 y1 Kn Kr g' hg' h' hq
    | _ => exact hq
/-- WHAT tympan/open.Special ASKS -/
abbrev asks (x0 : Int) (x1 : List UInt8) (K : Value → H → Prop) (h : H) : Prop := n1 x0 x1 (fun y4 h => K (.bool y4) h) (fun y4 h => K (.bool y4) h) h
theorem ok (x0 : Int) (x1 : List UInt8) (K : Value → H → Prop) (h : H) (hS : asks x0 x1 K h) : HCalls Try.prog 31 ⟨[(.int .u8 x0), (S x1)]⟩ h K := by
  refine calls_of_wpC (c := code) Try.func31 (by kernel_rfl) (Nat.le_of_ble_eq_true (by kernel_rfl)) ?_
  refine (n1_ok x0 x1 (fun y4 h => K (.bool y4) h) (fun y4 h => K (.bool y4) h) (env0 [(.int .u8 x0), (S x1)]) ⟨rfl, rfl, rfl⟩ h hS).mono ?_
  intro e g' h' hq
  cases e with
  | normal =>
    have hq : D0 (fun y4 h => K (.bool y4) h) g' h' := hq
    obtain ⟨y4, ⟨hg4, hd⟩, hq⟩ := D0_ok hq
    show leaveX g'.ds h' _
    rw [hd]
    show K (g'.v 4) h'
    rw [hg4]
    exact hq
  | ret =>
    have hq : D0 (fun y4 h => K (.bool y4) h) g' h' := hq
    obtain ⟨y4, ⟨hg4, hd⟩, hq⟩ := D0_ok hq
    show leaveX g'.ds h' _
    rw [hd]
    show K (g'.v 4) h'
    rw [hg4]
    exact hq
  | _ => exact hq
end Sx.open_Special

/-! ### tympan/open.outwards -/
namespace Sx.open_outwards
noncomputable def code : Code := bodyOf Try.f33
abbrev T0 := Value → H → Prop
def E0 (g : Env) (x2 : Value) : Prop := g.v 2 = x2 ∧ g.ds = []
def D0 (K : T0) (g : Env) (h : H) : Prop := nilDs g.ds (K (g.v 2) h)
theorem D0_ok {K : T0} {g : Env} {h : H} (hq : D0 K g h) : ∃ (x2 : Value), E0 g x2 ∧ K x2 h := by
  obtain ⟨hd, hq⟩ := nilDs_ok hq
  skip
  exact ⟨(g.v 2), ⟨rfl, hd⟩, hq⟩
def Q0 (Kn : T0) (Kr : T0) : XPost
  | .normal, g, h => D0 Kn g h
  | .ret, g, h => D0 Kr g h
  | _, _, _ => False
abbrev T1 := (Option Addr) → Nat → Nat → H → Prop
def E1 (g : Env) (x0b : Option Addr) (x0n : Nat) (x0c : Nat) : Prop := g.v 0 = (.slice x0b x0n x0c) ∧ g.ds = []
def D1 (K : T1) (g : Env) (h : H) : Prop := nilDs g.ds (vSlice (g.v 0) fun s1b s1n s1c => K s1b s1n s1c h)
theorem D1_ok {K : T1} {g : Env} {h : H} (hq : D1 K g h) : ∃ (x0b : Option Addr) (x0n : Nat) (x0c : Nat), E1 g x0b x0n x0c ∧ K x0b x0n x0c h := by
  obtain ⟨hd, hq⟩ := nilDs_ok hq
  obtain ⟨y3b, y3n, y3c, e2, q4⟩ := vSlice_ok hq
  exact ⟨y3b, y3n, y3c, ⟨e2, hd⟩, q4⟩
abbrev n1 (x0b : Option Addr) (x0n : Nat) (x0c : Nat) (Kn : T0) (Kr : T0) (h : H) : Prop :=
  HCalls Try.prog 42 ⟨[(.slice x0b x0n x0c)]⟩ h fun v5 h6 => Kr v5 h6
theorem n1_ok (x0b : Option Addr) (x0n : Nat) (x0c : Nat) (Kn : T0) (Kr : T0) (g : Env) (hg : E1 g x0b x0n x0c) (h : H) (hS : n1 x0b x0n x0c Kn Kr h) : wpC none Try.prog 5 code (Q0 Kn Kr) g h := by
  obtain ⟨hg0, hds⟩ := hg
  refine wpC_of_wpx (by kernel_rfl) (by kernel_rfl) (g' := (⟨g.v, []⟩ : Env).upd (some 0) (.slice x0b x0n x0c)) (by rw [env_ds hds, upd_self hg0]) ?_
  have e : (n1 x0b x0n x0c Kn Kr h) = wpx none Try.prog 5 code (Q0 Kn Kr) ((⟨g.v, []⟩ : Env).upd (some 0) (.slice x0b x0n x0c)) h := by kernel_rfl
  exact e ▸ hS
/-- WHAT tympan/open.outwards ASKS -/
abbrev asks (x0b : Option Addr) (x0n : Nat) (x0c : Nat) (K : Value → H → Prop) (h : H) : Prop := n1 x0b x0n x0c (fun y2 h => K y2 h) (fun y2 h => K y2 h) h
theorem ok (x0b : Option Addr) (x0n : Nat) (x0c : Nat) (K : Value → H → Prop) (h : H) (hS : asks x0b x0n x0c K h) : HCalls Try.prog 33 ⟨[(.slice x0b x0n x0c)]⟩ h K := by
  refine calls_of_wpC (c := code) Try.func33 (by kernel_rfl) (Nat.le_of_ble_eq_true (by kernel_rfl)) ?_
  refine (n1_ok x0b x0n x0c (fun y2 h => K y2 h) (fun y2 h => K y2 h) (env0 [(.slice x0b x0n x0c)]) ⟨rfl, rfl⟩ h hS).mono ?_
  intro e g' h' hq
  cases e with
  | normal =>
    have hq : D0 (fun y2 h => K y2 h) g' h' := hq
    obtain ⟨y2, ⟨hg2, hd⟩, hq⟩ := D0_ok hq
    show leaveX g'.ds h' _
    rw [hd]
    show K (g'.v 2) h'
    rw [hg2]
    exact hq
  | ret =>
    have hq : D0 (fun y2 h => K y2 h) g' h' := hq
    obtain ⟨y2, ⟨hg2, hd⟩, hq⟩ := D0_ok hq
    show leaveX g'.ds h' _
    rw [hd]
    show K (g'.v 2) h'
    rw [hg2]
    exact hq
  | _ => exact hq
end Sx.open_outwards

/-! ### tympan/open.of -/
namespace Sx.open_of
noncomputable def code : Code := bodyOf Try.f34
abbrev T0 := Bool → H → Prop
def E0 (g : Env) (x4 : Bool) : Prop := g.v 4 = (.bool x4) ∧ g.ds = []
def D0 (K : T0) (g : Env) (h : H) : Prop := nilDs g.ds (vBool (g.v 4) fun b1 => K b1 h)
theorem D0_ok {K : T0} {g : Env} {h : H} (hq : D0 K g h) : ∃ (x4 : Bool), E0 g x4 ∧ K x4 h := by
  obtain ⟨hd, hq⟩ := nilDs_ok hq
  obtain ⟨y3, e2, q4⟩ := vBool_ok hq
  exact ⟨y3, ⟨e2, hd⟩, q4⟩
def Q0 (Kn : T0) (Kr : T0) : XPost
  | .normal, g, h => D0 Kn g h
  | .ret, g, h => D0 Kr g h
  | _, _, _ => False
abbrev T1 := Int → Int → (List UInt8) → Int → (Option Addr) → Nat → Nat → H → Prop
def E1 (g : Env) (x0_0 : Int) (x0_1 : Int) (x0_2 : List UInt8) (x0_3 : Int) (x1b : Option Addr) (x1n : Nat) (x1c : Nat) : Prop := g.v 0 = (.agg ⟨[(.int .i64 x0_0), (.int .u8 x0_1), (S x0_2), (.int .u8 x0_3)]⟩) ∧ g.v 1 = (.slice x1b x1n x1c) ∧ g.ds = []
def D1 (K : T1) (g : Env) (h : H) : Prop := nilDs g.ds (vAgg (g.v 0) fun l5 => uncons l5 fun e6 l7 => vInt .i64 e6 fun i8 => uncons l7 fun e9 l10 => vInt .u8 e9 fun i11 => uncons l10 fun e12 l13 => vStr e12 fun s14 => uncons l13 fun e15 l16 => vInt .u8 e15 fun i17 => unnil l16 (vSlice (g.v 1) fun s18b s18n s18c => K i8 i11 s14 i17 s18b s18n s18c h))
theorem D1_ok {K : T1} {g : Env} {h : H} (hq : D1 K g h) : ∃ (x0_0 : Int) (x0_1 : Int) (x0_2 : List UInt8) (x0_3 : Int) (x1b : Option Addr) (x1n : Nat) (x1c : Nat), E1 g x0_0 x0_1 x0_2 x0_3 x1b x1n x1c ∧ K x0_0 x0_1 x0_2 x0_3 x1b x1n x1c h := by
  obtain ⟨hd, hq⟩ := nilDs_ok hq
  obtain ⟨l20, e19, q21⟩ := vAgg_ok hq
  obtain ⟨u22, l23, rfl, q24⟩ := uncons_ok q21
  obtain ⟨y25, rfl, q26⟩ := vInt_ok q24
  obtain ⟨u27, l28, rfl, q29⟩ := uncons_ok q26
  obtain ⟨y30, rfl, q31⟩ := vInt_ok q29
  obtain ⟨u32, l33, rfl, q34⟩ := uncons_ok q31
  obtain ⟨y35, rfl, q36⟩ := vStr_ok q34
  obtain ⟨u37, l38, rfl, q39⟩ := uncons_ok q36
  obtain ⟨y40, rfl, q41⟩ := vInt_ok q39
  obtain ⟨rfl, q42⟩ := unnil_ok q41
  obtain ⟨y44b, y44n, y44c, e43, q45⟩ := vSlice_ok q42
  exact ⟨y25, y30, y35, y40, y44b, y44n, y44c, ⟨e19, e43, hd⟩, q45⟩
abbrev n1 (x0_0 : Int) (x0_1 : Int) (x0_2 : List UInt8) (x0_3 : Int) (x1b : Option Addr) (x1n : Nat) (x1c : Nat) (Kn : T0) (Kr : T0) (h : H) : Prop :=
  newx h ⟨[(.int .i64 x0_0), (.int .u8 x0_1), (S x0_2), (.int .u8 x0_3)]⟩ 44 fun a46 h47 => ∃ i48, cell h47 (a46.add 1) = some (.int .u8 i48) ∧ (Spl (i48 = (0 : Int)) (∃ s49, cell h47 (a46.add 2) = some (S s49) ∧ (HCalls Try.prog 43 ⟨[(.slice x1b x1n x1c), (S s49)]⟩ h47 fun v50 h51 => vBool v50 fun b52 => cond b52 (Kr true h51) (Kr false h51))) (Kr false h47))
theorem n1_ok (x0_0 : Int) (x0_1 : Int) (x0_2 : List UInt8) (x0_3 : Int) (x1b : Option Addr) (x1n : Nat) (x1c : Nat) (Kn : T0) (Kr : T0) (g : Env) (hg : E1 g x0_0 x0_1 x0_2 x0_3 x1b x1n x1c) (h : H) (hS : n1 x0_0 x0_1 x0_2 x0_3 x1b x1n x1c Kn Kr h) : wpC none Try.prog 14 code (Q0 Kn Kr) g h := by
  obtain ⟨hg0, hg1, hds⟩ := hg
  refine wpC_of_wpx (by kernel_rfl) (by kernel_rfl) (g' := ((⟨g.v, []⟩ : Env).upd (some 0) (.agg ⟨[(.int .i64 x0_0), (.int .u8 x0_1), (S x0_2), (.int .u8 x0_3)]⟩)).upd (some 1) (.slice x1b x1n x1c)) (by rw [env_ds hds, upd_self hg0, upd_self hg1]) ?_
  have e : (n1 x0_0 x0_1 x0_2 x0_3 x1b x1n x1c Kn Kr h) = wpx none Try.prog 14 code (Q0 Kn Kr) (((⟨g.v, []⟩ : Env).upd (some 0) (.agg ⟨[(.int .i64 x0_0), (.int .u8 x0_1), (S x0_2), (.int .u8 x0_3)]⟩)).upd (some 1) (.slice x1b x1n x1c)) h := by kernel_rfl
  exact e ▸ hS
/-- WHAT tympan/open.of ASKS -/
abbrev asks (x0_0 : Int) (x0_1 : Int) (x0_2 : List UInt8) (x0_3 : Int) (x1b : Option Addr) (x1n : Nat) (x1c : Nat) (K : Value → H → Prop) (h : H) : Prop := n1 x0_0 x0_1 x0_2 x0_3 x1b x1n x1c (fun y4 h => K (.bool y4) h) (fun y4 h => K (.bool y4) h) h
theorem ok (x0_0 : Int) (x0_1 : Int) (x0_2 : List UInt8) (x0_3 : Int) (x1b : Option Addr) (x1n : Nat) (x1c : Nat) (K : Value → H → Prop) (h : H) (hS : asks x0_0 x0_1 x0_2 x0_3 x1b x1n x1c K h) : HCalls Try.prog 34 ⟨[(.agg ⟨[(.int .i64 x0_0), (.int .u8 x0_1), (S x0_2), (.int .u8 x0_3)]⟩), (.slice x1b x1n x1c)]⟩ h K := by
  refine calls_of_wpC (c := code) Try.func34 (by kernel_rfl) (Nat.le_of_ble_eq_true (by kernel_rfl)) ?_
  refine (n1_ok x0_0 x0_1 x0_2 x0_3 x1b x1n x1c (fun y4 h => K (.bool y4) h) (fun y4 h => K (.bool y4) h) (env0 [(.agg ⟨[(.int .i64 x0_0), (.int .u8 x0_1), (S x0_2), (.int .u8 x0_3)]⟩), (.slice x1b x1n x1c)]) ⟨rfl, rfl, rfl⟩ h hS).mono ?_
  intro e g' h' hq
  cases e with
  | normal =>
    have hq : D0 (fun y4 h => K (.bool y4) h) g' h' := hq
    obtain ⟨y4, ⟨hg4, hd⟩, hq⟩ := D0_ok hq
    show leaveX g'.ds h' _
    rw [hd]
    show K (g'.v 4) h'
    rw [hg4]
    exact hq
  | ret =>
    have hq : D0 (fun y4 h => K (.bool y4) h) g' h' := hq
    obtain ⟨y4, ⟨hg4, hd⟩, hq⟩ := D0_ok hq
    show leaveX g'.ds h' _
    rw [hd]
    show K (g'.v 4) h'
    rw [hg4]
    exact hq
  | _ => exact hq
end Sx.open_of

/-! ### tympan/open.has -/
namespace Sx.open_has
noncomputable def code : Code := bodyOf Try.f40
abbrev T0 := Bool → H → Prop
def E0 (g : Env) (x4 : Bool) : Prop := g.v 4 = (.bool x4) ∧ g.ds = []
def D0 (K : T0) (g : Env) (h : H) : Prop := nilDs g.ds (vBool (g.v 4) fun b1 => K b1 h)
theorem D0_ok {K : T0} {g : Env} {h : H} (hq : D0 K g h) : ∃ (x4 : Bool), E0 g x4 ∧ K x4 h := by
  obtain ⟨hd, hq⟩ := nilDs_ok hq
  obtain ⟨y3, e2, q4⟩ := vBool_ok hq
  exact ⟨y3, ⟨e2, hd⟩, q4⟩
def Q0 (Kn : T0) (Kr : T0) : XPost
  | .normal, g, h => D0 Kn g h
  | .ret, g, h => D0 Kr g h
  | _, _, _ => False
abbrev T1 := (List UInt8) → (List UInt8) → H → Prop
def E1 (g : Env) (x0 : List UInt8) (x1 : List UInt8) : Prop := g.v 0 = (S x0) ∧ g.v 1 = (S x1) ∧ g.ds = []
def D1 (K : T1) (g : Env) (h : H) : Prop := nilDs g.ds (vStr (g.v 0) fun s5 => vStr (g.v 1) fun s6 => K s5 s6 h)
theorem D1_ok {K : T1} {g : Env} {h : H} (hq : D1 K g h) : ∃ (x0 : List UInt8) (x1 : List UInt8), E1 g x0 x1 ∧ K x0 x1 h := by
  obtain ⟨hd, hq⟩ := nilDs_ok hq
  obtain ⟨y8, e7, q9⟩ := vStr_ok hq
  obtain ⟨y11, e10, q12⟩ := vStr_ok q9
  exact ⟨y8, y11, ⟨e7, e10, hd⟩, q12⟩
abbrev n1 (x0 : List UInt8) (x1 : List UInt8) (Kn : T0) (Kr : T0) (h : H) : Prop :=
  Spl (x1 = ([] : List UInt8)) (Kr false h) (HCalls Try.prog 46 ⟨[(S x1), (S ([32] : List UInt8))]⟩ h fun v13 h14 => vBool v13 fun b15 => cond b15 (Kr false h14) (((([32] : List UInt8).length + x1.length : Nat) : Int) ≤ 9223372036854775807 ∧ ((((([32] : List UInt8) ++ x1).length + ([32] : List UInt8).length : Nat) : Int) ≤ 9223372036854775807 ∧ (HCalls Try.prog 46 ⟨[(S x0), (S ((([32] : List UInt8) ++ x1) ++ ([32] : List UInt8)))]⟩ h14 fun v16 h17 => vBool v16 fun b18 => cond b18 (Kr true h17) (Kr false h17)))))
theorem n1_ok (x0 : List UInt8) (x1 : List UInt8) (Kn : T0) (Kr : T0) (g : Env) (hg : E1 g x0 x1) (h : H) (hS : n1 x0 x1 Kn Kr h) : wpC none Try.prog 19 code (Q0 Kn Kr) g h := by
  obtain ⟨hg0, hg1, hds⟩ := hg
  refine wpC_of_wpx (by kernel_rfl) (by kernel_rfl) (g' := ((⟨g.v, []⟩ : Env).upd (some 0) (S x0)).upd (some 1) (S x1)) (by rw [env_ds hds, upd_self hg0, upd_self hg1]) ?_
  have e : (n1 x0 x1 Kn Kr h) = wpx none Try.prog 19 code (Q0 Kn Kr) (((⟨g.v, []⟩ : Env).upd (some 0) (S x0)).upd (some 1) (S x1)) h := by kernel_rfl
  exact e ▸ hS
/-- WHAT tympan/open.has ASKS -/
abbrev asks (x0 : List UInt8) (x1 : List UInt8) (K : Value → H → Prop) (h : H) : Prop := n1 x0 x1 (fun y4 h => K (.bool y4) h) (fun y4 h => K (.bool y4) h) h
theorem ok (x0 : List UInt8) (x1 : List UInt8) (K : Value → H → Prop) (h : H) (hS : asks x0 x1 K h) : HCalls Try.prog 40 ⟨[(S x0), (S x1)]⟩ h K := by
  refine calls_of_wpC (c := code) Try.func40 (by kernel_rfl) (Nat.le_of_ble_eq_true (by kernel_rfl)) ?_
  refine (n1_ok x0 x1 (fun y4 h => K (.bool y4) h) (fun y4 h => K (.bool y4) h) (env0 [(S x0), (S x1)]) ⟨rfl, rfl, rfl⟩ h hS).mono ?_
  intro e g' h' hq
  cases e with
  | normal =>
    have hq : D0 (fun y4 h => K (.bool y4) h) g' h' := hq
    obtain ⟨y4, ⟨hg4, hd⟩, hq⟩ := D0_ok hq
    show leaveX g'.ds h' _
    rw [hd]
    show K (g'.v 4) h'
    rw [hg4]
    exact hq
  | ret =>
    have hq : D0 (fun y4 h => K (.bool y4) h) g' h' := hq
    obtain ⟨y4, ⟨hg4, hd⟩, hq⟩ := D0_ok hq
    show leaveX g'.ds h' _
    rw [hd]
    show K (g'.v 4) h'
    rw [hg4]
    exact hq
  | _ => exact hq
end Sx.open_has

/-! ### slices.Backward[[]tympan/api.Open,tympan/api.Open] -/
namespace Sx.slices_Backward_apiOpen
noncomputable def code : Code := bodyOf Try.f42
abbrev T0 := Value → H → Prop
def E0 (g : Env) (x2 : Value) : Prop := g.v 2 = x2 ∧ g.ds = []
def D0 (K : T0) (g : Env) (h : H) : Prop := nilDs g.ds (K (g.v 2) h)
theorem D0_ok {K : T0} {g : Env} {h : H} (hq : D0 K g h) : ∃ (x2 : Value), E0 g x2 ∧ K x2 h := by
  obtain ⟨hd, hq⟩ := nilDs_ok hq
  skip
  exact ⟨(g.v 2), ⟨rfl, hd⟩, hq⟩
def Q0 (Kn : T0) (Kr : T0) : XPost
  | .normal, g, h => D0 Kn g h
  | .ret, g, h => D0 Kr g h
  | _, _, _ => False
abbrev T1 := (Option Addr) → Nat → Nat → H → Prop
def E1 (g : Env) (x0b : Option Addr) (x0n : Nat) (x0c : Nat) : Prop := g.v 0 = (.slice x0b x0n x0c) ∧ g.ds = []
def D1 (K : T1) (g : Env) (h : H) : Prop := nilDs g.ds (vSlice (g.v 0) fun s1b s1n s1c => K s1b s1n s1c h)
theorem D1_ok {K : T1} {g : Env} {h : H} (hq : D1 K g h) : ∃ (x0b : Option Addr) (x0n : Nat) (x0c : Nat), E1 g x0b x0n x0c ∧ K x0b x0n x0c h := by
  obtain ⟨hd, hq⟩ := nilDs_ok hq
  obtain ⟨y3b, y3n, y3c, e2, q4⟩ := vSlice_ok hq
  exact ⟨y3b, y3n, y3c, ⟨e2, hd⟩, q4⟩
abbrev n1 (x0b : Option Addr) (x0n : Nat) (x0c : Nat) (Kn : T0) (Kr : T0) (h : H) : Prop :=
  newx h #[(.slice x0b x0n x0c)] 36 fun a5 h6 => Kr (.func (.func 47) ⟨[]⟩ ⟨[(.pointer (some a5))]⟩) h6
theorem n1_ok (x0b : Option Addr) (x0n : Nat) (x0c : Nat) (Kn : T0) (Kr : T0) (g : Env) (hg : E1 g x0b x0n x0c) (h : H) (hS : n1 x0b x0n x0c Kn Kr h) : wpC none Try.prog 4 code (Q0 Kn Kr) g h := by
  obtain ⟨hg0, hds⟩ := hg
  refine wpC_of_wpx (by kernel_rfl) (by kernel_rfl) (g' := (⟨g.v, []⟩ : Env).upd (some 0) (.slice x0b x0n x0c)) (by rw [env_ds hds, upd_self hg0]) ?_
  have e : (n1 x0b x0n x0c Kn Kr h) = wpx none Try.prog 4 code (Q0 Kn Kr) ((⟨g.v, []⟩ : Env).upd (some 0) (.slice x0b x0n x0c)) h := by kernel_rfl
  exact e ▸ hS
/-- WHAT slices.Backward[[]tympan/api.Open,tympan/api.Open] ASKS -/
abbrev asks (x0b : Option Addr) (x0n : Nat) (x0c : Nat) (K : Value → H → Prop) (h : H) : Prop := n1 x0b x0n x0c (fun y2 h => K y2 h) (fun y2 h => K y2 h) h
theorem ok (x0b : Option Addr) (x0n : Nat) (x0c : Nat) (K : Value → H → Prop) (h : H) (hS : asks x0b x0n x0c K h) : HCalls Try.prog 42 ⟨[(.slice x0b x0n x0c)]⟩ h K := by
  refine calls_of_wpC (c := code) Try.func42 (by kernel_rfl) (Nat.le_of_ble_eq_true (by kernel_rfl)) ?_
  refine (n1_ok x0b x0n x0c (fun y2 h => K y2 h) (fun y2 h => K y2 h) (env0 [(.slice x0b x0n x0c)]) ⟨rfl, rfl⟩ h hS).mono ?_
  intro e g' h' hq
  cases e with
  | normal =>
    have hq : D0 (fun y2 h => K y2 h) g' h' := hq
    obtain ⟨y2, ⟨hg2, hd⟩, hq⟩ := D0_ok hq
    show leaveX g'.ds h' _
    rw [hd]
    show K (g'.v 2) h'
    rw [hg2]
    exact hq
  | ret =>
    have hq : D0 (fun y2 h => K y2 h) g' h' := hq
    obtain ⟨y2, ⟨hg2, hd⟩, hq⟩ := D0_ok hq
    show leaveX g'.ds h' _
    rw [hd]
    show K (g'.v 2) h'
    rw [hg2]
    exact hq
  | _ => exact hq
end Sx.slices_Backward_apiOpen

/-! ### slices.Contains[[]string,string] -/
namespace Sx.slices_Contains_string
noncomputable def code : Code := bodyOf Try.f43
abbrev T0 := Bool → H → Prop
def E0 (g : Env) (x4 : Bool) : Prop := g.v 4 = (.bool x4) ∧ g.ds = []
def D0 (K : T0) (g : Env) (h : H) : Prop := nilDs g.ds (vBool (g.v 4) fun b1 => K b1 h)
theorem D0_ok {K : T0} {g : Env} {h : H} (hq : D0 K g h) : ∃ (x4 : Bool), E0 g x4 ∧ K x4 h := by
  obtain ⟨hd, hq⟩ := nilDs_ok hq
  obtain ⟨y3, e2, q4⟩ := vBool_ok hq
  exact ⟨y3, ⟨e2, hd⟩, q4⟩
def Q0 (Kn : T0) (Kr : T0) : XPost
  | .normal, g, h => D0 Kn g h
  | .ret, g, h => D0 Kr g h
  | _, _, _ => False
abbrev T1 := (Option Addr) → Nat → Nat → (List UInt8) → H → Prop
def E1 (g : Env) (x0b : Option Addr) (x0n : Nat) (x0c : Nat) (x1 : List UInt8) : Prop := g.v 0 = (.slice x0b x0n x0c) ∧ g.v 1 = (S x1) ∧ g.ds = []
def D1 (K : T1) (g : Env) (h : H) : Prop := nilDs g.ds (vSlice (g.v 0) fun s5b s5n s5c => vStr (g.v 1) fun s6 => K s5b s5n s5c s6 h)
theorem D1_ok {K : T1} {g : Env} {h : H} (hq : D1 K g h) : ∃ (x0b : Option Addr) (x0n : Nat) (x0c : Nat) (x1 : List UInt8), E1 g x0b x0n x0c x1 ∧ K x0b x0n x0c x1 h := by
  obtain ⟨hd, hq⟩ := nilDs_ok hq
  obtain ⟨y8b, y8n, y8c, e7, q9⟩ := vSlice_ok hq
  obtain ⟨y11, e10, q12⟩ := vStr_ok q9
  exact ⟨y8b, y8n, y8c, y11, ⟨e7, e10, hd⟩, q12⟩
abbrev n1 (x0b : Option Addr) (x0n : Nat) (x0c : Nat) (x1 : List UInt8) (Kn : T0) (Kr : T0) (h : H) : Prop :=
  HCalls Try.prog 48 ⟨[(.slice x0b x0n x0c), (S x1)]⟩ h fun v13 h14 => vInt .i64 v13 fun i15 => Spl (i15 ≥ (0 : Int)) (Kr true h14) (Kr false h14)
theorem n1_ok (x0b : Option Addr) (x0n : Nat) (x0c : Nat) (x1 : List UInt8) (Kn : T0) (Kr : T0) (g : Env) (hg : E1 g x0b x0n x0c x1) (h : H) (hS : n1 x0b x0n x0c x1 Kn Kr h) : wpC none Try.prog 9 code (Q0 Kn Kr) g h := by
  obtain ⟨hg0, hg1, hds⟩ := hg
  refine wpC_of_wpx (by kernel_rfl) (by kernel_rfl) (g' := ((⟨g.v, []⟩ : Env).upd (some 0) (.slice x0b x0n x0c)).upd (some 1) (S x1)) (by rw [env_ds hds, upd_self hg0, upd_self hg1]) ?_
  have e : (n1 x0b x0n x0c x1 Kn Kr h) = wpx none Try.prog 9 code (Q0 Kn Kr) (((⟨g.v, []⟩ : Env).upd (some 0) (.slice x0b x0n x0c)).upd (some 1) (S x1)) h := by kernel_rfl
  exact e ▸ hS
/-- WHAT slices.Contains[[]string,string] ASKS -/
abbrev asks (x0b : Option Addr) (x0n : Nat) (x0c : Nat) (x1 : List UInt8) (K : Value → H → Prop) (h : H) : Prop := n1 x0b x0n x0c x1 (fun y4 h => K (.bool y4) h) (fun y4 h => K (.bool y4) h) h
theorem ok (x0b : Option Addr) (x0n : Nat) (x0c : Nat) (x1 : List UInt8) (K : Value → H → Prop) (h : H) (hS : asks x0b x0n x0c x1 K h) : HCalls Try.prog 43 ⟨[(.slice x0b x0n x0c), (S x1)]⟩ h K := by
  refine calls_of_wpC (c := code) Try.func43 (by kernel_rfl) (Nat.le_of_ble_eq_true (by kernel_rfl)) ?_
  refine (n1_ok x0b x0n x0c x1 (fun y4 h => K (.bool y4) h) (fun y4 h => K (.bool y4) h) (env0 [(.slice x0b x0n x0c), (S x1)]) ⟨rfl, rfl, rfl⟩ h hS).mono ?_
  intro e g' h' hq
  cases e with
  | normal =>
    have hq : D0 (fun y4 h => K (.bool y4) h) g' h' := hq
    obtain ⟨y4, ⟨hg4, hd⟩, hq⟩ := D0_ok hq
    show leaveX g'.ds h' _
    rw [hd]
    show K (g'.v 4) h'
    rw [hg4]
    exact hq
  | ret =>
    have hq : D0 (fun y4 h => K (.bool y4) h) g' h' := hq
    obtain ⟨y4, ⟨hg4, hd⟩, hq⟩ := D0_ok hq
    show leaveX g'.ds h' _
    rw [hd]
    show K (g'.v 4) h'
    rw [hg4]
    exact hq
  | _ => exact hq
end Sx.slices_Contains_string

/-! ### slices.Backward[[]tympan/api.Open,tympan/api.Open]$1 -/
namespace Sx.slices_Backward_1_apiOpen1
noncomputable def code : Code := bodyOf Try.f47
abbrev T0 := H → Prop
def E0 (g : Env)  : Prop := g.ds = []
def D0 (K : T0) (g : Env) (h : H) : Prop := nilDs g.ds (K h)
theorem D0_ok {K : T0} {g : Env} {h : H} (hq : D0 K g h) : E0 g  ∧ K  h := by
  obtain ⟨hd, hq⟩ := nilDs_ok hq
  skip
  exact ⟨hd, hq⟩
def Q0 (Kn : T0) (Kr : T0) : XPost
  | .normal, g, h => D0 Kn g h
  | .ret, g, h => D0 Kr g h
  | _, _, _ => False
abbrev T1 := Value → Addr → H → Prop
def E1 (g : Env) (x0 : Value) (x1 : Addr) : Prop := g.v 0 = x0 ∧ g.v 1 = (.pointer (some x1)) ∧ g.ds = []
def D1 (K : T1) (g : Env) (h : H) : Prop := nilDs g.ds (vAddr (g.v 1) fun a1 => K (g.v 0) a1 h)
theorem D1_ok {K : T1} {g : Env} {h : H} (hq : D1 K g h) : ∃ (x0 : Value) (x1 : Addr), E1 g x0 x1 ∧ K x0 x1 h := by
  obtain ⟨hd, hq⟩ := nilDs_ok hq
  obtain ⟨y3, e2, q4⟩ := vAddr_ok hq
  exact ⟨(g.v 0), y3, ⟨rfl, e2, hd⟩, q4⟩
noncomputable def n1_c1 : Code := cFst code
noncomputable def n1_c2 : Code := cSnd code
abbrev T2 := Value → Addr → Int → H → Prop
def E2 (g : Env) (x0 : Value) (x1 : Addr) (x3 : Int) : Prop := g.v 0 = x0 ∧ g.v 1 = (.pointer (some x1)) ∧ g.v 3 = (.int .i64 x3) ∧ g.ds = []
def D2 (K : T2) (g : Env) (h : H) : Prop := nilDs g.ds (vAddr (g.v 1) fun a5 => vInt .i64 (g.v 3) fun i6 => K (g.v 0) a5 i6 h)
theorem D2_ok {K : T2} {g : Env} {h : H} (hq : D2 K g h) : ∃ (x0 : Value) (x1 : Addr) (x3 : Int), E2 g x0 x1 x3 ∧ K x0 x1 x3 h := by
  obtain ⟨hd, hq⟩ := nilDs_ok hq
  obtain ⟨y8, e7, q9⟩ := vAddr_ok hq
  obtain ⟨y11, e10, q12⟩ := vInt_ok q9
  exact ⟨(g.v 0), y8, y11, ⟨rfl, e7, e10, hd⟩, q12⟩
noncomputable def n2_c1 : Code := cFst n1_c2
def Q1 (Kn : T0) (Ke0 : T0) (Kr : T0) : XPost
  | .normal, g, h => D0 Kn g h
  | .ret, g, h => D0 Kr g h
  | .exit id, g, h => cond (Nat.beq id 0) (D0 Ke0 g h) (False)
  | _, _, _ => False
noncomputable def n3_c1 : Code := cFst n2_c1
def Q2 (Kn : T2) (Ke0 : T0) (Kr : T0) : XPost
  | .normal, g, h => D2 Kn g h
  | .ret, g, h => D0 Kr g h
  | .exit id, g, h => cond (Nat.beq id 0) (D0 Ke0 g h) (False)
  | _, _, _ => False
def n3_L (Kn : T0) (Ke0 : T0) (Kr : T0) : Nat → Value → Addr → Int → H → Prop
  | 0 => fun _ _ _ _ => False
  | N + 1 => fun x0 x1 x3 h => Spl (x3 ≥ (0 : Int)) (∃ s13b s13n s13c, cell h x1 = some (.slice s13b s13n s13c) ∧ ((0 ≤ x3 ∧ x3 < (s13n : Int)) ∧ (vSome s13b fun a14 => ∃ i15, cell h (((a14.add (Int.toNat x3 * 4))).add 0) = some (.int .i64 i15) ∧ (∃ i16, cell h (((a14.add (Int.toNat x3 * 4))).add 1) = some (.int .u8 i16) ∧ (∃ s17, cell h (((a14.add (Int.toNat x3 * 4))).add 2) = some (S s17) ∧ (∃ i18, cell h (((a14.add (Int.toNat x3 * 4))).add 3) = some (.int .u8 i18) ∧ (CallV Try.prog 4 x0 ⟨[(.int .i64 x3), (.agg ⟨[(.int .i64 i15), (.int .u8 i16), (S s17), (.int .u8 i18)]⟩)]⟩ h fun v19 h20 => vBool v19 fun b21 => cond b21 (Rng .i64 (x3 - (1 : Int)) ∧ (n3_L Kn Ke0 Kr N x0 x1 (x3 - (1 : Int)) h20)) (Kr h20)))))))) (Ke0 h)
abbrev n3 (x0 : Value) (x1 : Addr) (x3 : Int) (Kn : T0) (Ke0 : T0) (Kr : T0) (h : H) : Prop := ∃ N, n3_L Kn Ke0 Kr N x0 x1 x3 h
theorem n3_ok (x0 : Value) (x1 : Addr) (x3 : Int) (Kn : T0) (Ke0 : T0) (Kr : T0) (g : Env) (hg : E2 g x0 x1 x3) (h : H) (hS : n3 x0 x1 x3 Kn Ke0 Kr h) : wpC none Try.prog 19 n2_c1 (Q1 Kn Ke0 Kr) g h := by
  obtain ⟨N0, hS⟩ := hS
  refine wpC_loop' (x := n3_c1) (by kernel_rfl) (fun k g h => ∃ (x0 : Value) (x1 : Addr) (x3 : Int), E2 g x0 x1 x3 ∧ n3_L Kn Ke0 Kr k x0 x1 x3 h) (fun g h hr => ?_) (fun N g h hr => ?_) N0 ⟨x0, x1, x3, hg, hS⟩
  · obtain ⟨x0, x1, x3, hg, hS⟩ := hr
    exact hS.elim
  · obtain ⟨x0, x1, x3, hg, hS⟩ := hr
    have hw : wpC none Try.prog 19 n3_c1 (Q2 (fun z0 z1 z3 h => n3_L Kn Ke0 Kr N z0 z1 z3 h) Ke0 Kr) g h := by
      obtain ⟨hg0, hg1, hg3, hds⟩ := hg
      refine wpC_of_wpx (by kernel_rfl) (by kernel_rfl) (g' := (((⟨g.v, []⟩ : Env).upd (some 0) x0).upd (some 1) (.pointer (some x1))).upd (some 3) (.int .i64 x3)) (by rw [env_ds hds, upd_self hg0, upd_self hg1, upd_self hg3]) ?_
      have e : (n3_L Kn Ke0 Kr (N + 1) x0 x1 x3 h) = wpx none Try.prog 19 n3_c1 (Q2 (fun z0 z1 z3 h => n3_L Kn Ke0 Kr N z0 z1 z3 h) Ke0 Kr) ((((⟨g.v, []⟩ : Env).upd (some 0) x0).upd (some 1) (.pointer (some x1))).upd (some 3) (.int .i64 x3)) h := by kernel_rfl
      exact e ▸ hS
    refine hw.mono ?_
    intro e g' h' hq
    cases e with
    | normal => exact D2_ok (K := (fun z0 z1 z3 h => n3_L Kn Ke0 Kr N z0 z1 z3 h)) hq
    | _ => exact hq
abbrev n2 (x0 : Value) (x1 : Addr) (x3 : Int) (Kn : T0) (Kr : T0) (h : H) : Prop := n3 x0 x1 x3 Kn Kn Kr h
theorem n2_ok (x0 : Value) (x1 : Addr) (x3 : Int) (Kn : T0) (Kr : T0) (g : Env) (hg : E2 g x0 x1 x3) (h : H) (hS : n2 x0 x1 x3 Kn Kr h) : wpC none Try.prog 19 n1_c2 (Q0 Kn Kr) g h := by
  refine wpC_block' (id := 0) (x := n2_c1) (by kernel_rfl) (n3_ok x0 x1 x3 Kn Kn Kr g hg h hS) ?_
  intro e g' h' hq
  cases e <;> exact hq
def Q3 (Kn : T2) (Kr : T0) : XPost
  | .normal, g, h => D2 Kn g h
  | .ret, g, h => D0 Kr g h
  | _, _, _ => False
abbrev n1 (x0 : Value) (x1 : Addr) (Kn : T0) (Kr : T0) (h : H) : Prop :=
  ∃ s22b s22n s22c, cell h x1 = some (.slice s22b s22n s22c) ∧ (Rng .i64 ((s22n : Int) - (1 : Int)) ∧ (n2 x0 x1 ((s22n : Int) - (1 : Int)) Kn Kr h))
theorem n1_ok (x0 : Value) (x1 : Addr) (Kn : T0) (Kr : T0) (g : Env) (hg : E1 g x0 x1) (h : H) (hS : n1 x0 x1 Kn Kr h) : wpC none Try.prog 19 code (Q0 Kn Kr) g h := by
  obtain ⟨hg0, hg1, hds⟩ := hg
  refine wpC_seq' (x := n1_c1) (y := n1_c2) (Q' := (Q3 (fun z0 z1 z3 h => n2 z0 z1 z3 Kn Kr h) Kr)) (by kernel_rfl) ?_ ?_
  · refine wpC_of_wpx (by kernel_rfl) (by kernel_rfl) (g' := ((⟨g.v, []⟩ : Env).upd (some 0) x0).upd (some 1) (.pointer (some x1))) (by rw [env_ds hds, upd_self hg0, upd_self hg1]) ?_
    have e : (n1 x0 x1 Kn Kr h) = wpx none Try.prog 19 n1_c1 (Q3 (fun z0 z1 z3 h => n2 z0 z1 z3 Kn Kr h) Kr) (((⟨g.v, []⟩ : Env).upd (some 0) x0).upd (some 1) (.pointer (some x1))) h := by kernel_rfl
    exact e ▸ hS
  · intro e g' h' hq
    cases e with
    | normal =>
      have hq : D2 (fun z0 z1 z3 h => n2 z0 z1 z3 Kn Kr h) g' h' := hq
      obtain ⟨y0, y1, y3, hg', hq⟩ := D2_ok hq
      exact n2_ok y0 y1 y3 Kn Kr g' hg' h' hq
    | _ => exact hq
/-- WHAT slices.Backward[[]tympan/api.Open,tympan/api.Open]$1 ASKS -/
abbrev asks (x0 : Value) (x1 : Addr) (K : Value → H → Prop) (h : H) : Prop := n1 x0 x1 (fun h => K (.tuple ⟨[]⟩) h) (fun h => K (.tuple ⟨[]⟩) h) h
theorem ok (x0 : Value) (x1 : Addr) (K : Value → H → Prop) (h : H) (hS : asks x0 x1 K h) : HCalls Try.prog 47 ⟨[x0, (.pointer (some x1))]⟩ h K := by
  refine calls_of_wpC (c := code) Try.func47 (by kernel_rfl) (Nat.le_of_ble_eq_true (by kernel_rfl)) ?_
  refine (n1_ok x0 x1 (fun h => K (.tuple ⟨[]⟩) h) (fun h => K (.tuple ⟨[]⟩) h) (env0 [x0, (.pointer (some x1))]) ⟨rfl, rfl, rfl⟩ h hS).mono ?_
  intro e g' h' hq
  cases e with
  | normal =>
    have hq : D0 (fun h => K (.tuple ⟨[]⟩) h) g' h' := hq
    obtain ⟨hd, hq⟩ := D0_ok hq
    show leaveX g'.ds h' _
    rw [hd]
    show K (.tuple ⟨[]⟩) h'
    exact hq
  | ret =>
    have hq : D0 (fun h => K (.tuple ⟨[]⟩) h) g' h' := hq
    obtain ⟨hd, hq⟩ := D0_ok hq
    show leaveX g'.ds h' _
    rw [hd]
    show K (.tuple ⟨[]⟩) h'
    exact hq
  | _ => exact hq
end Sx.slices_Backward_1_apiOpen1

/-! ### slices.Index[[]string,string] -/
namespace Sx.slices_Index_string
noncomputable def code : Code := bodyOf Try.f48
abbrev T0 := Int → H → Prop
def E0 (g : Env) (x4 : Int) : Prop := g.v 4 = (.int .i64 x4) ∧ g.ds = []
def D0 (K : T0) (g : Env) (h : H) : Prop := nilDs g.ds (vInt .i64 (g.v 4) fun i1 => K i1 h)
theorem D0_ok {K : T0} {g : Env} {h : H} (hq : D0 K g h) : ∃ (x4 : Int), E0 g x4 ∧ K x4 h := by
  obtain ⟨hd, hq⟩ := nilDs_ok hq
  obtain ⟨y3, e2, q4⟩ := vInt_ok hq
  exact ⟨y3, ⟨e2, hd⟩, q4⟩
def Q0 (Kn : T0) (Kr : T0) : XPost
  | .normal, g, h => D0 Kn g h
  | .ret, g, h => D0 Kr g h
  | _, _, _ => False
abbrev T1 := (Option Addr) → Nat → Nat → (List UInt8) → H → Prop
def E1 (g : Env) (x0b : Option Addr) (x0n : Nat) (x0c : Nat) (x1 : List UInt8) : Prop := g.v 0 = (.slice x0b x0n x0c) ∧ g.v 1 = (S x1) ∧ g.ds = []
def D1 (K : T1) (g : Env) (h : H) : Prop := nilDs g.ds (vSlice (g.v 0) fun s5b s5n s5c => vStr (g.v 1) fun s6 => K s5b s5n s5c s6 h)
theorem D1_ok {K : T1} {g : Env} {h : H} (hq : D1 K g h) : ∃ (x0b : Option Addr) (x0n : Nat) (x0c : Nat) (x1 : List UInt8), E1 g x0b x0n x0c x1 ∧ K x0b x0n x0c x1 h := by
  obtain ⟨hd, hq⟩ := nilDs_ok hq
  obtain ⟨y8b, y8n, y8c, e7, q9⟩ := vSlice_ok hq
  obtain ⟨y11, e10, q12⟩ := vStr_ok q9
  exact ⟨y8b, y8n, y8c, y11, ⟨e7, e10, hd⟩, q12⟩
noncomputable def n1_c1 : Code := cFst code
noncomputable def n1_c2 : Code := cSnd code
noncomputable def n2_c1 : Code := cFst n1_c2
noncomputable def n2_c2 : Code := cSnd n1_c2
abbrev T2 := H → Prop
def E2 (g : Env)  : Prop := g.ds = []
def D2 (K : T2) (g : Env) (h : H) : Prop := nilDs g.ds (K h)
theorem D2_ok {K : T2} {g : Env} {h : H} (hq : D2 K g h) : E2 g  ∧ K  h := by
  obtain ⟨hd, hq⟩ := nilDs_ok hq
  skip
  exact ⟨hd, hq⟩
abbrev n3  (Kn : T0) (Kr : T0) (h : H) : Prop :=
  Kr (-1 : Int) h
theorem n3_ok  (Kn : T0) (Kr : T0) (g : Env) (hg : E2 g ) (h : H) (hS : n3  Kn Kr h) : wpC none Try.prog 19 n2_c2 (Q0 Kn Kr) g h := by
  have hds : g.ds = [] := hg
  refine wpC_of_wpx (by kernel_rfl) (by kernel_rfl) (g' := ⟨g.v, []⟩) (by rw [env_ds hds]) ?_
  have e : (n3  Kn Kr h) = wpx none Try.prog 19 n2_c2 (Q0 Kn Kr) (⟨g.v, []⟩) h := by kernel_rfl
  exact e ▸ hS
def Q1 (Kn : T2) (Kr : T0) : XPost
  | .normal, g, h => D2 Kn g h
  | .ret, g, h => D0 Kr g h
  | _, _, _ => False
noncomputable def n4_c1 : Code := cFst n2_c1
noncomputable def n4_c2 : Code := cSnd n2_c1
abbrev T3 := (Option Addr) → Nat → Nat → (List UInt8) → Int → Int → H → Prop
def E3 (g : Env) (x0b : Option Addr) (x0n : Nat) (x0c : Nat) (x1 : List UInt8) (x7 : Int) (x8 : Int) : Prop := g.v 0 = (.slice x0b x0n x0c) ∧ g.v 1 = (S x1) ∧ g.v 7 = (.int .i64 x7) ∧ g.v 8 = (.int .i64 x8) ∧ g.ds = []
def D3 (K : T3) (g : Env) (h : H) : Prop := nilDs g.ds (vSlice (g.v 0) fun s13b s13n s13c => vStr (g.v 1) fun s14 => vInt .i64 (g.v 7) fun i15 => vInt .i64 (g.v 8) fun i16 => K s13b s13n s13c s14 i15 i16 h)
theorem D3_ok {K : T3} {g : Env} {h : H} (hq : D3 K g h) : ∃ (x0b : Option Addr) (x0n : Nat) (x0c : Nat) (x1 : List UInt8) (x7 : Int) (x8 : Int), E3 g x0b x0n x0c x1 x7 x8 ∧ K x0b x0n x0c x1 x7 x8 h := by
  obtain ⟨hd, hq⟩ := nilDs_ok hq
  obtain ⟨y18b, y18n, y18c, e17, q19⟩ := vSlice_ok hq
  obtain ⟨y21, e20, q22⟩ := vStr_ok q19
  obtain ⟨y24, e23, q25⟩ := vInt_ok q22
  obtain ⟨y27, e26, q28⟩ := vInt_ok q25
  exact ⟨y18b, y18n, y18c, y21, y24, y27, ⟨e17, e20, e23, e26, hd⟩, q28⟩
noncomputable def n5_c1 : Code := cFst n4_c2
def Q2 (Kn : T2) (Ke0 : T2) (Kr : T0) : XPost
  | .normal, g, h => D2 Kn g h
  | .ret, g, h => D0 Kr g h
  | .exit id, g, h => cond (Nat.beq id 0) (D2 Ke0 g h) (False)
  | _, _, _ => False
noncomputable def n6_c1 : Code := cFst n5_c1
def Q3 (Kn : T3) (Ke0 : T2) (Kr : T0) : XPost
  | .normal, g, h => D3 Kn g h
  | .ret, g, h => D0 Kr g h
  | .exit id, g, h => cond (Nat.beq id 0) (D2 Ke0 g h) (False)
  | _, _, _ => False
def n6_L (Kn : T2) (Ke0 : T2) (Kr : T0) : Nat → (Option Addr) → Nat → Nat → (List UInt8) → Int → Int → H → Prop
  | 0 => fun _ _ _ _ _ _ _ => False
  | N + 1 => fun x0b x0n x0c x1 x7 x8 h => Spl (x8 < x7) ((0 ≤ x8 ∧ x8 < (x0n : Int)) ∧ (vSome x0b fun a29 => ∃ s30, cell h (a29.add (Int.toNat x8 * 1)) = some (S s30) ∧ (Spl (x1 = s30) (Kr x8 h) (Rng .i64 (x8 + (1 : Int)) ∧ (n6_L Kn Ke0 Kr N x0b x0n x0c x1 x7 (x8 + (1 : Int)) h))))) (Ke0 h)
abbrev n6 (x0b : Option Addr) (x0n : Nat) (x0c : Nat) (x1 : List UInt8) (x7 : Int) (x8 : Int) (Kn : T2) (Ke0 : T2) (Kr : T0) (h : H) : Prop := ∃ N, n6_L Kn Ke0 Kr N x0b x0n x0c x1 x7 x8 h
theorem n6_ok (x0b : Option Addr) (x0n : Nat) (x0c : Nat) (x1 : List UInt8) (x7 : Int) (x8 : Int) (Kn : T2) (Ke0 : T2) (Kr : T0) (g : Env) (hg : E3 g x0b x0n x0c x1 x7 x8) (h : H) (hS : n6 x0b x0n x0c x1 x7 x8 Kn Ke0 Kr h) : wpC none Try.prog 19 n5_c1 (Q2 Kn Ke0 Kr) g h := by
  obtain ⟨N0, hS⟩ := hS
  refine wpC_loop' (x := n6_c1) (by kernel_rfl) (fun k g h => ∃ (x0b : Option Addr) (x0n : Nat) (x0c : Nat) (x1 : List UInt8) (x7 : Int) (x8 : Int), E3 g x0b x0n x0c x1 x7 x8 ∧ n6_L Kn Ke0 Kr k x0b x0n x0c x1 x7 x8 h) (fun g h hr => ?_) (fun N g h hr => ?_) N0 ⟨x0b, x0n, x0c, x1, x7, x8, hg, hS⟩
  · obtain ⟨x0b, x0n, x0c, x1, x7, x8, hg, hS⟩ := hr
    exact hS.elim
  · obtain ⟨x0b, x0n, x0c, x1, x7, x8, hg, hS⟩ := hr
    have hw : wpC none Try.prog 19 n6_c1 (Q3 (fun z0b z0n z0c z1 z7 z8 h => n6_L Kn Ke0 Kr N z0b z0n z0c z1 z7 z8 h) Ke0 Kr) g h := by
      obtain ⟨hg0, hg1, hg7, hg8, hds⟩ := hg
      refine wpC_of_wpx (by kernel_rfl) (by kernel_rfl) (g' := ((((⟨g.v, []⟩ : Env).upd (some 0) (.slice x0b x0n x0c)).upd (some 1) (S x1)).upd (some 7) (.int .i64 x7)).upd (some 8) (.int .i64 x8)) (by rw [env_ds hds, upd_self hg0, upd_self hg1, upd_self hg7, upd_self hg8]) ?_
      have e : (n6_L Kn Ke0 Kr (N + 1) x0b x0n x0c x1 x7 x8 h) = wpx none Try.prog 19 n6_c1 (Q3 (fun z0b z0n z0c z1 z7 z8 h => n6_L Kn Ke0 Kr N z0b z0n z0c z1 z7 z8 h) Ke0 Kr) (((((⟨g.v, []⟩ : Env).upd (some 0) (.slice x0b x0n x0c)).upd (some 1) (S x1)).upd (some 7) (.int .i64 x7)).upd (some 8) (.int .i64 x8)) h := by kernel_rfl
      exact e ▸ hS
    refine hw.mono ?_
    intro e g' h' hq
    cases e with
    | normal => exact D3_ok (K := (fun z0b z0n z0c z1 z7 z8 h => n6_L Kn Ke0 Kr N z0b z0n z0c z1 z7 z8 h)) hq
    | _ => exact hq
abbrev n5 (x0b : Option Addr) (x0n : Nat) (x0c : Nat) (x1 : List UInt8) (x7 : Int) (x8 : Int) (Kn : T2) (Kr : T0) (h : H) : Prop := n6 x0b x0n x0c x1 x7 x8 Kn Kn Kr h
theorem n5_ok (x0b : Option Addr) (x0n : Nat) (x0c : Nat) (x1 : List UInt8) (x7 : Int) (x8 : Int) (Kn : T2) (Kr : T0) (g : Env) (hg : E3 g x0b x0n x0c x1 x7 x8) (h : H) (hS : n5 x0b x0n x0c x1 x7 x8 Kn Kr h) : wpC none Try.prog 19 n4_c2 (Q1 Kn Kr) g h := by
  refine wpC_block' (id := 0) (x := n5_c1) (by kernel_rfl) (n6_ok x0b x0n x0c x1 x7 x8 Kn Kn Kr g hg h hS) ?_
  intro e g' h' hq
  cases e <;> exact hq
def Q4 (Kn : T3) (Kr : T0) : XPost
  | .normal, g, h => D3 Kn g h
  | .ret, g, h => D0 Kr g h
  | _, _, _ => False
abbrev n4 (x0b : Option Addr) (x0n : Nat) (x0c : Nat) (x1 : List UInt8) (Kn : T2) (Kr : T0) (h : H) : Prop :=
  n5 x0b x0n x0c x1 (x0n : Int) (0 : Int) Kn Kr h
theorem n4_ok (x0b : Option Addr) (x0n : Nat) (x0c : Nat) (x1 : List UInt8) (Kn : T2) (Kr : T0) (g : Env) (hg : E1 g x0b x0n x0c x1) (h : H) (hS : n4 x0b x0n x0c x1 Kn Kr h) : wpC none Try.prog 19 n2_c1 (Q1 Kn Kr) g h := by
  obtain ⟨hg0, hg1, hds⟩ := hg
  refine wpC_seq' (x := n4_c1) (y := n4_c2) (Q' := (Q4 (fun z0b z0n z0c z1 z7 z8 h => n5 z0b z0n z0c z1 z7 z8 Kn Kr h) Kr)) (by kernel_rfl) ?_ ?_
  · refine wpC_of_wpx (by kernel_rfl) (by kernel_rfl) (g' := ((⟨g.v, []⟩ : Env).upd (some 0) (.slice x0b x0n x0c)).upd (some 1) (S x1)) (by rw [env_ds hds, upd_self hg0, upd_self hg1]) ?_
    have e : (n4 x0b x0n x0c x1 Kn Kr h) = wpx none Try.prog 19 n4_c1 (Q4 (fun z0b z0n z0c z1 z7 z8 h => n5 z0b z0n z0c z1 z7 z8 Kn Kr h) Kr) (((⟨g.v, []⟩ : Env).upd (some 0) (.slice x0b x0n x0c)).upd (some 1) (S x1)) h := by kernel_rfl
    exact e ▸ hS
  · intro e g' h' hq
    cases e with
    | normal =>
      have hq : D3 (fun z0b z0n z0c z1 z7 z8 h => n5 z0b z0n z0c z1 z7 z8 Kn Kr h) g' h' := hq
      obtain ⟨y0b, y0n, y0c, y1, y7, y8, hg', hq⟩ := D3_ok hq
      exact n5_ok y0b y0n y0c y1 y7 y8 Kn Kr g' hg' h' hq
    | _ => exact hq
abbrev n2 (x0b : Option Addr) (x0n : Nat) (x0c : Nat) (x1 : List UInt8) (Kn : T0) (Kr : T0) (h : H) : Prop := n4 x0b x0n x0c x1 (fun  h => n3 Kn Kr h) Kr h
theorem n2_ok (x0b : Option Addr) (x0n : Nat) (x0c : Nat) (x1 : List UInt8) (Kn : T0) (Kr : T0) (g : Env) (hg : E1 g x0b x0n x0c x1) (h : H) (hS : n2 x0b x0n x0c x1 Kn Kr h) : wpC none Try.prog 19 n1_c2 (Q0 Kn Kr) g h := by
  refine wpC_seq' (x := n2_c1) (y := n2_c2) (by kernel_rfl) (n4_ok x0b x0n x0c x1 (fun  h => n3 Kn Kr h) Kr g hg h hS) ?_
  intro e g' h' hq
  cases e with
  | normal =>
    have hq : D2 (fun  h => n3 Kn Kr h) g' h' := hq
    obtain ⟨hg', hq⟩ := D2_ok hq
    exact n3_ok  Kn Kr g' hg' h' hq
  | _ => exact hq
def Q5 (Kn : T1) (Kr : T0) : XPost
  | .normal, g, h => D1 Kn g h
  | .ret, g, h => D0 Kr g h
  | _, _, _ => False
abbrev n1 (x0b : Option Addr) (x0n : Nat) (x0c : Nat) (x1 : List UInt8) (Kn : T0) (Kr : T0) (h : H) : Prop :=
  n2 x0b x0n x0c x1 Kn Kr h
theorem n1_ok (x0b : Option Addr) (x0n : Nat) (x0c : Nat) (x1 : List UInt8) (Kn : T0) (Kr : T0) (g : Env) (hg : E1 g x0b x0n x0c x1) (h : H) (hS : n1 x0b x0n x0c x1 Kn Kr h) : wpC none Try.prog 19 code (Q0 Kn Kr) g h := by
  obtain ⟨hg0, hg1, hds⟩ := hg
  refine wpC_seq' (x := n1_c1) (y := n1_c2) (Q' := (Q5 (fun z0b z0n z0c z1 h => n2 z0b z0n z0c z1 Kn Kr h) Kr)) (by kernel_rfl) ?_ ?_
  · refine wpC_of_wpx (by kernel_rfl) (by kernel_rfl) (g' := ((⟨g.v, []⟩ : Env).upd (some 0) (.slice x0b x0n x0c)).upd (some 1) (S x1)) (by rw [env_ds hds, upd_self hg0, upd_self hg1]) ?_
    have e : (n1 x0b x0n x0c x1 Kn Kr h) = wpx none Try.prog 19 n1_c1 (Q5 (fun z0b z0n z0c z1 h => n2 z0b z0n z0c z1 Kn Kr h) Kr) (((⟨g.v, []⟩ : Env).upd (some 0) (.slice x0b x0n x0c)).upd (some 1) (S x1)) h := by kernel_rfl
    exact e ▸ hS
  · intro e g' h' hq
    cases e with
    | normal =>
      have hq : D1 (fun z0b z0n z0c z1 h => n2 z0b z0n z0c z1 Kn Kr h) g' h' := hq
      obtain ⟨y0b, y0n, y0c, y1, hg', hq⟩ := D1_ok hq
      exact n2_ok y0b y0n y0c y1 Kn Kr g' hg' h' hq
    | _ => exact hq
/-- WHAT slices.Index[[]string,string] ASKS -/
abbrev asks (x0b : Option Addr) (x0n : Nat) (x0c : Nat) (x1 : List UInt8) (K : Value → H → Prop) (h : H) : Prop := n1 x0b x0n x0c x1 (fun y4 h => K (.int .i64 y4) h) (fun y4 h => K (.int .i64 y4) h) h
theorem ok (x0b : Option Addr) (x0n : Nat) (x0c : Nat) (x1 : List UInt8) (K : Value → H → Prop) (h : H) (hS : asks x0b x0n x0c x1 K h) : HCalls Try.prog 48 ⟨[(.slice x0b x0n x0c), (S x1)]⟩ h K := by
  refine calls_of_wpC (c := code) Try.func48 (by kernel_rfl) (Nat.le_of_ble_eq_true (by kernel_rfl)) ?_
  refine (n1_ok x0b x0n x0c x1 (fun y4 h => K (.int .i64 y4) h) (fun y4 h => K (.int .i64 y4) h) (env0 [(.slice x0b x0n x0c), (S x1)]) ⟨rfl, rfl, rfl⟩ h hS).mono ?_
  intro e g' h' hq
  cases e with
  | normal =>
    have hq : D0 (fun y4 h => K (.int .i64 y4) h) g' h' := hq
    obtain ⟨y4, ⟨hg4, hd⟩, hq⟩ := D0_ok hq
    show leaveX g'.ds h' _
    rw [hd]
    show K (g'.v 4) h'
    rw [hg4]
    exact hq
  | ret =>
    have hq : D0 (fun y4 h => K (.int .i64 y4) h) g' h' := hq
    obtain ⟨y4, ⟨hg4, hd⟩, hq⟩ := D0_ok hq
    show leaveX g'.ds h' _
    rw [hd]
    show K (g'.v 4) h'
    rw [hg4]
    exact hq
  | _ => exact hq
end Sx.slices_Index_string
end Go.Proofs
