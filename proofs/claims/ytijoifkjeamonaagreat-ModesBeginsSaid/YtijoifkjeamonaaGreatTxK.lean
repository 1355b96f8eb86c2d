/- The shallow forms of functions, printed by sh.py out of the translation; each with its proof. No condition. -/
import Derived.Test.YtijoifkjeamonaaGreatShQ
import Derived.Test.YtijoifkjeamonaaGreatProg
namespace Go.Proofs
open Go Go.Sh
set_option linter.unusedVariables false
set_option maxRecDepth 100000
namespace Sx.open_Formatting
abbrev L0 : List Sl := [.o 2 .b]
variable (x0 : List UInt8)
variable (K : Value -> H -> Prop) (h : H)
abbrev asks : Prop := cF L0 (fun Kr => HCalls Tryz.prog 157 ⟨[(S ([32, 97, 32, 98, 32, 98, 105, 103, 32, 99, 111, 100, 101, 32, 101, 109, 32, 102, 111, 110, 116, 32, 105, 32, 110, 111, 98, 114, 32, 115, 32, 115, 109, 97, 108, 108, 32, 115, 116, 114, 105, 107, 101, 32, 115, 116, 114, 111, 110, 103, 32, 116, 116, 32, 117, 32] : List UInt8)), S x0]⟩ h fun v1 h2 => vBool v1 fun b3 => cond b3 (Kr true h2) (Kr false h2)) fun y2 h => K (.bool y2) h
theorem ok (hS : asks x0 K h) : HCalls Tryz.prog 91 ⟨[S x0]⟩ h K :=
  cl Tryz.func91 hS (fun hg hS => lf hg hS) fun hg hS => rt hg hS
end Sx.open_Formatting
namespace Sx.open_Item
noncomputable def code : Code := bodyOf Tryz.f190
abbrev T0 := Addr -> (List Deferred) -> H -> Prop
def E0 (g : Env) (x4 : Addr) (ds : List Deferred) : Prop := g.v 4 = (.pointer (some x4)) /\ g.ds = ds
def D0 (K : T0) (g : Env) (h : H) : Prop := vAddr (g.v 4) fun a1 => K a1 g.ds h
theorem D0_ok {K : T0} {g : Env} {h : H} (hq : D0 K g h) : ∃ (x4 : Addr) (ds : List Deferred), E0 g x4 ds /\ K x4 ds h := by
  obtain ⟨y3, e2, q4⟩ := vAddr_ok hq
  exact ⟨y3, g.ds, ⟨e2, rfl⟩, q4⟩
def Q0 (Kn Kr : T0) : XPost
  | .normal, g, h => D0 Kn g h
  | .ret, g, h => D0 Kr g h
  | _, _, _ => False
def E1 (g : Env) (x0b : Option Addr) (x0n x0c : Nat) (x1b : Option Addr) (x1n x1c : Nat) (ds : List Deferred) : Prop := g.v 0 = (.slice x0b x0n x0c) /\ g.v 1 = (.slice x1b x1n x1c) /\ g.ds = ds
noncomputable def n1_c1 : Code := cFst code
noncomputable def n1_c2 : Code := cSnd code
abbrev T2 := (Option Addr) -> Nat -> Nat -> Addr -> Addr -> (List Deferred) -> H -> Prop
def E2 (g : Env) (x0b : Option Addr) (x0n x0c : Nat) (x3 x4 : Addr) (ds : List Deferred) : Prop := g.v 0 = (.slice x0b x0n x0c) /\ g.v 3 = (.pointer (some x3)) /\ g.v 4 = (.pointer (some x4)) /\ g.ds = ds
def D2 (K : T2) (g : Env) (h : H) : Prop := vSlice (g.v 0) fun s13b s13n s13c => vAddr (g.v 3) fun a14 => vAddr (g.v 4) fun a15 => K s13b s13n s13c a14 a15 g.ds h
theorem D2_ok {K : T2} {g : Env} {h : H} (hq : D2 K g h) : ∃ (x0b : Option Addr) (x0n x0c : Nat) (x3 x4 : Addr) (ds : List Deferred), E2 g x0b x0n x0c x3 x4 ds /\ K x0b x0n x0c x3 x4 ds h := by
  obtain ⟨y17b, y17n, y17c, e16, q18⟩ := vSlice_ok hq
  obtain ⟨y20, e19, q21⟩ := vAddr_ok q18
  obtain ⟨y23, e22, q24⟩ := vAddr_ok q21
  exact ⟨y17b, y17n, y17c, y20, y23, g.ds, ⟨e16, e19, e22, rfl⟩, q24⟩
noncomputable def n2_c1 : Code := cFst n1_c2
noncomputable def n2_c2 : Code := cSnd n1_c2
abbrev n3 (x4 : Addr) (ds : List Deferred) (Kn Kr : T0) (h : H) : Prop :=
  stL x4 [.int .i64 (-1 : Int)] 0 h fun h25 => Kr x4 ds h25
theorem n3_ok (x4 : Addr) (ds : List Deferred) (Kn Kr : T0) (g : Env) (hg : E0 g x4 ds) (h : H) (hS : n3 x4 ds Kn Kr h) : wpC none Tryz.prog 28 n2_c2 (Q0 Kn Kr) g h := by
  obtain ⟨hg4, hds⟩ := hg
  refine wpC_of_wpx (by kernel_rfl) (by kernel_rfl) (g' := (⟨g.v, ds⟩ : Env).upd (some 4) (.pointer (some x4))) (by rw [env_ds hds, upd_self hg4]) ?_
  have e : (n3 x4 ds Kn Kr h) = wpx none Tryz.prog 28 n2_c2 (Q0 Kn Kr) ((⟨g.v, ds⟩ : Env).upd (some 4) (.pointer (some x4))) h := by kernel_rfl
  exact e ▸ hS
noncomputable def n4_c1 : Code := cFst n2_c1
noncomputable def n4_c2 : Code := cSnd n2_c1
abbrev T3 := Addr -> Addr -> Value -> (List Deferred) -> H -> Prop
def E3 (g : Env) (x3 x4 : Addr) (x8 : Value) (ds : List Deferred) : Prop := g.v 3 = (.pointer (some x3)) /\ g.v 4 = (.pointer (some x4)) /\ g.v 8 = x8 /\ g.ds = ds
def D3 (K : T3) (g : Env) (h : H) : Prop := vAddr (g.v 3) fun a26 => vAddr (g.v 4) fun a27 => K a26 a27 (g.v 8) g.ds h
theorem D3_ok {K : T3} {g : Env} {h : H} (hq : D3 K g h) : ∃ (x3 x4 : Addr) (x8 : Value) (ds : List Deferred), E3 g x3 x4 x8 ds /\ K x3 x4 x8 ds h := by
  obtain ⟨y29, e28, q30⟩ := vAddr_ok hq
  obtain ⟨y32, e31, q33⟩ := vAddr_ok q30
  exact ⟨y29, y32, (g.v 8), g.ds, ⟨e28, e31, rfl, rfl⟩, q33⟩
noncomputable def n5_c1 : Code := cFst n4_c2
def Q1 (Kn Ke0 Kr : T0) : XPost
  | .normal, g, h => D0 Kn g h
  | .ret, g, h => D0 Kr g h
  | .exit id, g, h => cond (Nat.beq id 0) (D0 Ke0 g h) (False)
  | _, _, _ => False
noncomputable def n6_c1 : Code := cFst n5_c1
noncomputable def n6_c2 : Code := cSnd n5_c1
def n6_rd (x3 x4 : Addr) (x8 : Value) (ds : List Deferred) (Kn Ke0 Kr : T0) (h : H) (p9 p10_0 p10_1 : Int) (p10_2 : List UInt8) (p10_3 : Int) (Mid : H -> (H -> Prop) -> Prop) (Kc : H -> H -> Prop) (Fin : H -> H -> (H -> Prop) -> Prop) (h1 : H) : Prop :=
  newx h1 ⟨[.int .i64 (0 : Int), .int .u8 (0 : Int), S ([] : List UInt8), .int .u8 (0 : Int)]⟩ 77 fun a34 h35 => stL a34 [.int .i64 p10_0, .int .u8 p10_1, S p10_2, .int .u8 p10_3] 0 h35 fun h36 => Mid h36 fun hb37 => ∃ i38, cell hb37 (a34.add 0) = some (.int .i64 i38) /\ (∃ i39, cell hb37 (a34.add 1) = some (.int .u8 i39) /\ (∃ s40, cell hb37 (a34.add 2) = some (S s40) /\ (∃ i41, cell hb37 (a34.add 3) = some (.int .u8 i41) /\ (∃ s42b s42n s42c, cell hb37 x3 = some (.slice s42b s42n s42c) /\ (HCalls Tryz.prog 179 ⟨[(.agg ⟨[.int .i64 i38, .int .u8 i39, S s40, .int .u8 i41]⟩), .slice s42b s42n s42c]⟩ hb37 fun v43 h44 => vBool v43 fun b45 => cond b45 (stL x4 [.int .i64 p9] 0 h44 fun h46 => Fin hb37 h46 fun h47 => Kr x4 (markD h.size :: ds) h47) (∃ i48, cell h44 (a34.add 1) = some (.int .u8 i48) /\ (∃ s49, cell h44 (a34.add 2) = some (S s49) /\ (HCalls Tryz.prog 162 ⟨[.int .u8 i48, S s49]⟩ h44 fun v50 h51 => vBool v50 fun b52 => cond b52 (∃ i53, cell h51 (a34.add 0) = some (.int .i64 i53) /\ (∃ i54, cell h51 (a34.add 1) = some (.int .u8 i54) /\ (∃ s55, cell h51 (a34.add 2) = some (S s55) /\ (∃ i56, cell h51 (a34.add 3) = some (.int .u8 i56) /\ (newx h51 #[(S ([97, 100, 100, 114, 101, 115, 115] : List UInt8)), (S ([100, 105, 118] : List UInt8)), (S ([112] : List UInt8))] 9 fun a57 h58 => HCalls Tryz.prog 179 ⟨[(.agg ⟨[.int .i64 i53, .int .u8 i54, S s55, .int .u8 i56]⟩), .slice (some a57) 3 3]⟩ h58 fun v59 h60 => vBool v59 fun b61 => cond b61 (Kc hb37 h60) (stL x4 [.int .i64 (-1 : Int)] 0 h60 fun h62 => Fin hb37 h62 fun h63 => Kr x4 (markD h.size :: ds) h63)))))) (Kc hb37 h51)))))))))
abbrev n6 (x3 x4 : Addr) (x8 : Value) (ds : List Deferred) (Kn Ke0 Kr : T0) (h : H) : Prop := Ranges Tryz.prog x8 2 h (fun l64 Mid Kc Fin h1 => uncons l64 fun e65 l66 => vInt .i64 e65 fun i67 => uncons l66 fun e68 l69 => vAgg e68 fun l70 => uncons l70 fun e71 l72 => vInt .i64 e71 fun i73 => uncons l72 fun e74 l75 => vInt .u8 e74 fun i76 => uncons l75 fun e77 l78 => vStr e77 fun s79 => uncons l78 fun e80 l81 => vInt .u8 e80 fun i82 => unnil l81 (unnil l69 (n6_rd x3 x4 x8 ds Kn Ke0 Kr h i67 i73 i76 s79 i82 Mid Kc Fin h1))) (fun h4 => Kn x4 (markD h.size :: ds) h4)
theorem n6_ok (x3 x4 : Addr) (x8 : Value) (ds : List Deferred) (Kn Ke0 Kr : T0) (g : Env) (hg : E3 g x3 x4 x8 ds) (h : H) (hS : n6 x3 x4 x8 ds Kn Ke0 Kr h) : wpC none Tryz.prog 28 n5_c1 (Q1 Kn Ke0 Kr) g h := by
  obtain ⟨hg3, hg4, hg8, hds⟩ := hg
  subst hds
  have ho : ((((⟨g.v, g.ds⟩ : Env).upd (some 3) (.pointer (some x3))).upd (some 4) (.pointer (some x4))).upd (some 8) x8 : Env) = g := by rw [env_ds rfl, upd_self hg3, upd_self hg4, upd_self hg8]
  have hc : n5_c1 = .rangeFunc (.tmp 8) #[9, 10] n6_c1 n6_c2 := by kernel_rfl
  rw [hc]
  refine wpC_range (f := x8) (rd := (fun l64 Mid Kc Fin h1 => uncons l64 fun e65 l66 => vInt .i64 e65 fun i67 => uncons l66 fun e68 l69 => vAgg e68 fun l70 => uncons l70 fun e71 l72 => vInt .i64 e71 fun i73 => uncons l72 fun e74 l75 => vInt .u8 e74 fun i76 => uncons l75 fun e77 l78 => vStr e77 fun s79 => uncons l78 fun e80 l81 => vInt .u8 e80 fun i82 => unnil l81 (unnil l69 (n6_rd x3 x4 x8 g.ds Kn Ke0 Kr h i67 i73 i76 s79 i82 Mid Kc Fin h1)))) (done := (fun h4 => Kn x4 (markD h.size :: g.ds) h4)) ?_ hS ?_ ?_
  · rw [<- ho]; kernel_rfl
  · intro h4 hd
    have e : (Kn x4 (markD h.size :: g.ds) h4) = (Q1 Kn Ke0 Kr) .normal ⟨((((⟨g.v, g.ds⟩ : Env).upd (some 3) (.pointer (some x3))).upd (some 4) (.pointer (some x4))).upd (some 8) x8).v, markD h.size :: g.ds⟩ h4 := by kernel_rfl
    rw [ho] at e
    exact e ▸ hd
  · intro L x Mid Kc Fin h1 hM hx
    obtain ⟨u83, l84, rfl, q85⟩ := uncons_ok hx
    obtain ⟨y86, rfl, q87⟩ := vInt_ok q85
    obtain ⟨u88, l89, rfl, q90⟩ := uncons_ok q87
    obtain ⟨l91, rfl, q92⟩ := vAgg_ok q90
    obtain ⟨u93, l94, rfl, q95⟩ := uncons_ok q92
    obtain ⟨y96, rfl, q97⟩ := vInt_ok q95
    obtain ⟨u98, l99, rfl, q100⟩ := uncons_ok q97
    obtain ⟨y101, rfl, q102⟩ := vInt_ok q100
    obtain ⟨u103, l104, rfl, q105⟩ := uncons_ok q102
    obtain ⟨y106, rfl, q107⟩ := vStr_ok q105
    obtain ⟨u108, l109, rfl, q110⟩ := uncons_ok q107
    obtain ⟨y111, rfl, q112⟩ := vInt_ok q110
    obtain ⟨rfl, q113⟩ := unnil_ok q112
    obtain ⟨rfl, q114⟩ := unnil_ok q113
    have e : (n6_rd x3 x4 x8 g.ds Kn Ke0 Kr h y86 y96 y101 y106 y111 Mid Kc Fin h1) = wpx (some L) Tryz.prog 28 n6_c1 (thenX (fun g1 he => Mid he fun hb => wpx (some L) Tryz.prog 28 n6_c2 (rpost Kc Fin (Q1 Kn Ke0 Kr) ⟨((((⟨g.v, g.ds⟩ : Env).upd (some 3) (.pointer (some x3))).upd (some 4) (.pointer (some x4))).upd (some 8) x8).v, markD h.size :: g.ds⟩ hb) g1 hb) fun _ _ _ => False) (setps ((((⟨g.v, g.ds⟩ : Env).upd (some 3) (.pointer (some x3))).upd (some 4) (.pointer (some x4))).upd (some 8) x8) [9, 10] [.int .i64 y86, (.agg ⟨[.int .i64 y96, .int .u8 y101, S y106, .int .u8 y111]⟩)]) h1 := by kernel_rfl
    rw [ho] at e
    exact (wpx_ok (by kernel_rfl) _ _ _ _ (by kernel_rfl) (e ▸ q114)).mono (thenX_mono fun g1 he hm => hM he _ _ (fun hb => wpx_ok (by kernel_rfl) _ _ _ _ (by kernel_rfl)) hm)
abbrev n5 (x3 x4 : Addr) (x8 : Value) (ds : List Deferred) (Kn Kr : T0) (h : H) : Prop := n6 x3 x4 x8 ds Kn Kn Kr h
theorem n5_ok (x3 x4 : Addr) (x8 : Value) (ds : List Deferred) (Kn Kr : T0) (g : Env) (hg : E3 g x3 x4 x8 ds) (h : H) (hS : n5 x3 x4 x8 ds Kn Kr h) : wpC none Tryz.prog 28 n4_c2 (Q0 Kn Kr) g h := by
  refine wpC_block' (id := 0) (x := n5_c1) (by kernel_rfl) (n6_ok x3 x4 x8 ds Kn Kn Kr g hg h hS) ?_
  intro e g' h' hq
  cases e <;> exact hq
def Q2 (Kn : T3) (Kr : T0) : XPost
  | .normal, g, h => D3 Kn g h
  | .ret, g, h => D0 Kr g h
  | _, _, _ => False
abbrev n4 (x0b : Option Addr) (x0n x0c : Nat) (x3 x4 : Addr) (ds : List Deferred) (Kn Kr : T0) (h : H) : Prop :=
  HCalls Tryz.prog 178 ⟨[.slice x0b x0n x0c]⟩ h fun v115 h116 => n5 x3 x4 v115 ds Kn Kr h116
theorem n4_ok (x0b : Option Addr) (x0n x0c : Nat) (x3 x4 : Addr) (ds : List Deferred) (Kn Kr : T0) (g : Env) (hg : E2 g x0b x0n x0c x3 x4 ds) (h : H) (hS : n4 x0b x0n x0c x3 x4 ds Kn Kr h) : wpC none Tryz.prog 28 n2_c1 (Q0 Kn Kr) g h := by
  obtain ⟨hg0, hg3, hg4, hds⟩ := hg
  refine wpC_seq' (x := n4_c1) (y := n4_c2) (Q' := (Q2 (fun z3 z4 z8 zds h => n5 z3 z4 z8 zds Kn Kr h) Kr)) (by kernel_rfl) ?_ ?_
  · refine wpC_of_wpx (by kernel_rfl) (by kernel_rfl) (g' := (((⟨g.v, ds⟩ : Env).upd (some 0) (.slice x0b x0n x0c)).upd (some 3) (.pointer (some x3))).upd (some 4) (.pointer (some x4))) (by rw [env_ds hds, upd_self hg0, upd_self hg3, upd_self hg4]) ?_
    have e : (n4 x0b x0n x0c x3 x4 ds Kn Kr h) = wpx none Tryz.prog 28 n4_c1 (Q2 (fun z3 z4 z8 zds h => n5 z3 z4 z8 zds Kn Kr h) Kr) ((((⟨g.v, ds⟩ : Env).upd (some 0) (.slice x0b x0n x0c)).upd (some 3) (.pointer (some x3))).upd (some 4) (.pointer (some x4))) h := by kernel_rfl
    exact e ▸ hS
  · intro e g' h' hq
    cases e with
    | normal =>
      have hq : D3 (fun z3 z4 z8 zds h => n5 z3 z4 z8 zds Kn Kr h) g' h' := hq
      obtain ⟨y3, y4, y8, yds, hg', hq⟩ := D3_ok hq
      exact n5_ok y3 y4 y8 yds Kn Kr g' hg' h' hq
    | _ => exact hq
abbrev n2 (x0b : Option Addr) (x0n x0c : Nat) (x3 x4 : Addr) (ds : List Deferred) (Kn Kr : T0) (h : H) : Prop := n4 x0b x0n x0c x3 x4 ds (fun z4 zds h => n3 z4 zds Kn Kr h) Kr h
theorem n2_ok (x0b : Option Addr) (x0n x0c : Nat) (x3 x4 : Addr) (ds : List Deferred) (Kn Kr : T0) (g : Env) (hg : E2 g x0b x0n x0c x3 x4 ds) (h : H) (hS : n2 x0b x0n x0c x3 x4 ds Kn Kr h) : wpC none Tryz.prog 28 n1_c2 (Q0 Kn Kr) g h := by
  refine wpC_seq' (x := n2_c1) (y := n2_c2) (by kernel_rfl) (n4_ok x0b x0n x0c x3 x4 ds (fun z4 zds h => n3 z4 zds Kn Kr h) Kr g hg h hS) ?_
  intro e g' h' hq
  cases e with
  | normal =>
    have hq : D0 (fun z4 zds h => n3 z4 zds Kn Kr h) g' h' := hq
    obtain ⟨y4, yds, hg', hq⟩ := D0_ok hq
    exact n3_ok y4 yds Kn Kr g' hg' h' hq
  | _ => exact hq
def Q3 (Kn : T2) (Kr : T0) : XPost
  | .normal, g, h => D2 Kn g h
  | .ret, g, h => D0 Kr g h
  | _, _, _ => False
abbrev n1 (x0b : Option Addr) (x0n x0c : Nat) (x1b : Option Addr) (x1n x1c : Nat) (ds : List Deferred) (Kn Kr : T0) (h : H) : Prop :=
  newx h #[.slice x1b x1n x1c] 104 fun a117 h118 => newx h118 #[.int .i64 (0 : Int)] 3 fun a119 h120 => n2 x0b x0n x0c a117 a119 ds Kn Kr h120
theorem n1_ok (x0b : Option Addr) (x0n x0c : Nat) (x1b : Option Addr) (x1n x1c : Nat) (ds : List Deferred) (Kn Kr : T0) (g : Env) (hg : E1 g x0b x0n x0c x1b x1n x1c ds) (h : H) (hS : n1 x0b x0n x0c x1b x1n x1c ds Kn Kr h) : wpC none Tryz.prog 28 code (Q0 Kn Kr) g h := by
  obtain ⟨hg0, hg1, hds⟩ := hg
  refine wpC_seq' (x := n1_c1) (y := n1_c2) (Q' := (Q3 (fun z0b z0n z0c z3 z4 zds h => n2 z0b z0n z0c z3 z4 zds Kn Kr h) Kr)) (by kernel_rfl) ?_ ?_
  · refine wpC_of_wpx (by kernel_rfl) (by kernel_rfl) (g' := ((⟨g.v, ds⟩ : Env).upd (some 0) (.slice x0b x0n x0c)).upd (some 1) (.slice x1b x1n x1c)) (by rw [env_ds hds, upd_self hg0, upd_self hg1]) ?_
    have e : (n1 x0b x0n x0c x1b x1n x1c ds Kn Kr h) = wpx none Tryz.prog 28 n1_c1 (Q3 (fun z0b z0n z0c z3 z4 zds h => n2 z0b z0n z0c z3 z4 zds Kn Kr h) Kr) (((⟨g.v, ds⟩ : Env).upd (some 0) (.slice x0b x0n x0c)).upd (some 1) (.slice x1b x1n x1c)) h := by kernel_rfl
    exact e ▸ hS
  · intro e g' h' hq
    cases e with
    | normal =>
      have hq : D2 (fun z0b z0n z0c z3 z4 zds h => n2 z0b z0n z0c z3 z4 zds Kn Kr h) g' h' := hq
      obtain ⟨y0b, y0n, y0c, y3, y4, yds, hg', hq⟩ := D2_ok hq
      exact n2_ok y0b y0n y0c y3 y4 yds Kn Kr g' hg' h' hq
    | _ => exact hq
abbrev asks (x0b : Option Addr) (x0n x0c : Nat) (x1b : Option Addr) (x1n x1c : Nat) (K : Value -> H -> Prop) (h : H) : Prop := n1 x0b x0n x0c x1b x1n x1c [] (fun y4 ds h => leaveX ds h fun h => ∃ i121, cell h y4 = some (.int .i64 i121) /\ (K (.int .i64 i121) h)) (fun y4 ds h => leaveX ds h fun h => ∃ i121, cell h y4 = some (.int .i64 i121) /\ (K (.int .i64 i121) h)) h
theorem ok (x0b : Option Addr) (x0n x0c : Nat) (x1b : Option Addr) (x1n x1c : Nat) (K : Value -> H -> Prop) (h : H) (hS : asks x0b x0n x0c x1b x1n x1c K h) : HCalls Tryz.prog 190 ⟨[.slice x0b x0n x0c, .slice x1b x1n x1c]⟩ h K := by
  refine calls_of_wpC (c := code) Tryz.func190 (by kernel_rfl) (Nat.le_of_ble_eq_true (by kernel_rfl)) ?_
  refine (n1_ok x0b x0n x0c x1b x1n x1c [] (fun y4 ds h => leaveX ds h fun h => ∃ i121, cell h y4 = some (.int .i64 i121) /\ (K (.int .i64 i121) h)) (fun y4 ds h => leaveX ds h fun h => ∃ i121, cell h y4 = some (.int .i64 i121) /\ (K (.int .i64 i121) h)) (env0 [.slice x0b x0n x0c, .slice x1b x1n x1c]) ⟨rfl, rfl, rfl⟩ h hS).mono ?_
  intro e g' h' hq
  cases e with
  | normal =>
    have hq : D0 (fun y4 ds h => leaveX ds h fun h => ∃ i121, cell h y4 = some (.int .i64 i121) /\ (K (.int .i64 i121) h)) g' h' := hq
    obtain ⟨y4, ds, ⟨hg4, hd⟩, hq⟩ := D0_ok hq
    show leaveX g'.ds h' _
    rw [hd]
    show leaveX ds h' fun h => vAddr (g'.v 4) fun a122 => ldx Tryz.prog 3 a122 h fun v123 => K v123 h
    rw [hg4]
    exact hq
  | ret =>
    have hq : D0 (fun y4 ds h => leaveX ds h fun h => ∃ i121, cell h y4 = some (.int .i64 i121) /\ (K (.int .i64 i121) h)) g' h' := hq
    obtain ⟨y4, ds, ⟨hg4, hd⟩, hq⟩ := D0_ok hq
    show leaveX g'.ds h' _
    rw [hd]
    show leaveX ds h' fun h => vAddr (g'.v 4) fun a122 => ldx Tryz.prog 3 a122 h fun v123 => K v123 h
    rw [hg4]
    exact hq
  | _ => exact hq
end Sx.open_Item
namespace Sx.open_Implied
noncomputable def code : Code := bodyOf Tryz.f192
abbrev T0 := Addr -> (List Deferred) -> H -> Prop
def E0 (g : Env) (x4 : Addr) (ds : List Deferred) : Prop := g.v 4 = (.pointer (some x4)) /\ g.ds = ds
def D0 (K : T0) (g : Env) (h : H) : Prop := vAddr (g.v 4) fun a1 => K a1 g.ds h
theorem D0_ok {K : T0} {g : Env} {h : H} (hq : D0 K g h) : ∃ (x4 : Addr) (ds : List Deferred), E0 g x4 ds /\ K x4 ds h := by
  obtain ⟨y3, e2, q4⟩ := vAddr_ok hq
  exact ⟨y3, g.ds, ⟨e2, rfl⟩, q4⟩
def Q0 (Kn Kr : T0) : XPost
  | .normal, g, h => D0 Kn g h
  | .ret, g, h => D0 Kr g h
  | _, _, _ => False
def E1 (g : Env) (x0b : Option Addr) (x0n x0c : Nat) (x1 : List UInt8) (ds : List Deferred) : Prop := g.v 0 = (.slice x0b x0n x0c) /\ g.v 1 = (S x1) /\ g.ds = ds
noncomputable def n1_c1 : Code := cFst code
noncomputable def n1_c2 : Code := cSnd code
abbrev T2 := (Option Addr) -> Nat -> Nat -> Addr -> Addr -> (List Deferred) -> H -> Prop
def E2 (g : Env) (x0b : Option Addr) (x0n x0c : Nat) (x3 x4 : Addr) (ds : List Deferred) : Prop := g.v 0 = (.slice x0b x0n x0c) /\ g.v 3 = (.pointer (some x3)) /\ g.v 4 = (.pointer (some x4)) /\ g.ds = ds
def D2 (K : T2) (g : Env) (h : H) : Prop := vSlice (g.v 0) fun s13b s13n s13c => vAddr (g.v 3) fun a14 => vAddr (g.v 4) fun a15 => K s13b s13n s13c a14 a15 g.ds h
theorem D2_ok {K : T2} {g : Env} {h : H} (hq : D2 K g h) : ∃ (x0b : Option Addr) (x0n x0c : Nat) (x3 x4 : Addr) (ds : List Deferred), E2 g x0b x0n x0c x3 x4 ds /\ K x0b x0n x0c x3 x4 ds h := by
  obtain ⟨y17b, y17n, y17c, e16, q18⟩ := vSlice_ok hq
  obtain ⟨y20, e19, q21⟩ := vAddr_ok q18
  obtain ⟨y23, e22, q24⟩ := vAddr_ok q21
  exact ⟨y17b, y17n, y17c, y20, y23, g.ds, ⟨e16, e19, e22, rfl⟩, q24⟩
noncomputable def n2_c1 : Code := cFst n1_c2
noncomputable def n2_c2 : Code := cSnd n1_c2
abbrev n3 (x4 : Addr) (ds : List Deferred) (Kn Kr : T0) (h : H) : Prop :=
  stL x4 [.int .i64 (0 : Int)] 0 h fun h25 => Kr x4 ds h25
theorem n3_ok (x4 : Addr) (ds : List Deferred) (Kn Kr : T0) (g : Env) (hg : E0 g x4 ds) (h : H) (hS : n3 x4 ds Kn Kr h) : wpC none Tryz.prog 28 n2_c2 (Q0 Kn Kr) g h := by
  obtain ⟨hg4, hds⟩ := hg
  refine wpC_of_wpx (by kernel_rfl) (by kernel_rfl) (g' := (⟨g.v, ds⟩ : Env).upd (some 4) (.pointer (some x4))) (by rw [env_ds hds, upd_self hg4]) ?_
  have e : (n3 x4 ds Kn Kr h) = wpx none Tryz.prog 28 n2_c2 (Q0 Kn Kr) ((⟨g.v, ds⟩ : Env).upd (some 4) (.pointer (some x4))) h := by kernel_rfl
  exact e ▸ hS
noncomputable def n4_c1 : Code := cFst n2_c1
noncomputable def n4_c2 : Code := cSnd n2_c1
abbrev T3 := Addr -> Addr -> Value -> (List Deferred) -> H -> Prop
def E3 (g : Env) (x3 x4 : Addr) (x8 : Value) (ds : List Deferred) : Prop := g.v 3 = (.pointer (some x3)) /\ g.v 4 = (.pointer (some x4)) /\ g.v 8 = x8 /\ g.ds = ds
def D3 (K : T3) (g : Env) (h : H) : Prop := vAddr (g.v 3) fun a26 => vAddr (g.v 4) fun a27 => K a26 a27 (g.v 8) g.ds h
theorem D3_ok {K : T3} {g : Env} {h : H} (hq : D3 K g h) : ∃ (x3 x4 : Addr) (x8 : Value) (ds : List Deferred), E3 g x3 x4 x8 ds /\ K x3 x4 x8 ds h := by
  obtain ⟨y29, e28, q30⟩ := vAddr_ok hq
  obtain ⟨y32, e31, q33⟩ := vAddr_ok q30
  exact ⟨y29, y32, (g.v 8), g.ds, ⟨e28, e31, rfl, rfl⟩, q33⟩
noncomputable def n5_c1 : Code := cFst n4_c2
def Q1 (Kn Ke0 Kr : T0) : XPost
  | .normal, g, h => D0 Kn g h
  | .ret, g, h => D0 Kr g h
  | .exit id, g, h => cond (Nat.beq id 0) (D0 Ke0 g h) (False)
  | _, _, _ => False
noncomputable def n6_c1 : Code := cFst n5_c1
noncomputable def n6_c2 : Code := cSnd n5_c1
def n6_rd (x3 x4 : Addr) (x8 : Value) (ds : List Deferred) (Kn Ke0 Kr : T0) (h : H) (p9 p10_0 p10_1 : Int) (p10_2 : List UInt8) (p10_3 : Int) (Mid : H -> (H -> Prop) -> Prop) (Kc : H -> H -> Prop) (Fin : H -> H -> (H -> Prop) -> Prop) (h1 : H) : Prop :=
  newx h1 ⟨[.int .i64 (0 : Int), .int .u8 (0 : Int), S ([] : List UInt8), .int .u8 (0 : Int)]⟩ 77 fun a34 h35 => stL a34 [.int .i64 p10_0, .int .u8 p10_1, S p10_2, .int .u8 p10_3] 0 h35 fun h36 => Mid h36 fun hb37 => ∃ i38, cell hb37 (a34.add 1) = some (.int .u8 i38) /\ (Spl (i38 = (0 : Int)) (∃ s39, cell hb37 (a34.add 2) = some (S s39) /\ (∃ s40, cell hb37 x3 = some (S s40) /\ (Spl (s39 = s40) (Rng .i64 (p9 + (1 : Int)) /\ (stL x4 [.int .i64 (p9 + (1 : Int))] 0 hb37 fun h41 => Fin hb37 h41 fun h42 => Kr x4 (markD h.size :: ds) h42)) (∃ s43, cell hb37 (a34.add 2) = some (S s43) /\ (HCalls Tryz.prog 157 ⟨[(S ([32, 100, 100, 32, 100, 116, 32, 108, 105, 32, 111, 112, 116, 103, 114, 111, 117, 112, 32, 111, 112, 116, 105, 111, 110, 32, 112, 32, 114, 98, 32, 114, 112, 32, 114, 116, 32, 114, 116, 99, 32] : List UInt8)), S s43]⟩ hb37 fun v44 h45 => vBool v44 fun b46 => cond b46 (Kc hb37 h45) (Rng .i64 (p9 + (1 : Int)) /\ (stL x4 [.int .i64 (p9 + (1 : Int))] 0 h45 fun h47 => Fin hb37 h47 fun h48 => Kr x4 (markD h.size :: ds) h48))))))) (Rng .i64 (p9 + (1 : Int)) /\ (stL x4 [.int .i64 (p9 + (1 : Int))] 0 hb37 fun h49 => Fin hb37 h49 fun h50 => Kr x4 (markD h.size :: ds) h50)))
abbrev n6 (x3 x4 : Addr) (x8 : Value) (ds : List Deferred) (Kn Ke0 Kr : T0) (h : H) : Prop := Ranges Tryz.prog x8 2 h (fun l51 Mid Kc Fin h1 => uncons l51 fun e52 l53 => vInt .i64 e52 fun i54 => uncons l53 fun e55 l56 => vAgg e55 fun l57 => uncons l57 fun e58 l59 => vInt .i64 e58 fun i60 => uncons l59 fun e61 l62 => vInt .u8 e61 fun i63 => uncons l62 fun e64 l65 => vStr e64 fun s66 => uncons l65 fun e67 l68 => vInt .u8 e67 fun i69 => unnil l68 (unnil l56 (n6_rd x3 x4 x8 ds Kn Ke0 Kr h i54 i60 i63 s66 i69 Mid Kc Fin h1))) (fun h4 => Kn x4 (markD h.size :: ds) h4)
theorem n6_ok (x3 x4 : Addr) (x8 : Value) (ds : List Deferred) (Kn Ke0 Kr : T0) (g : Env) (hg : E3 g x3 x4 x8 ds) (h : H) (hS : n6 x3 x4 x8 ds Kn Ke0 Kr h) : wpC none Tryz.prog 28 n5_c1 (Q1 Kn Ke0 Kr) g h := by
  obtain ⟨hg3, hg4, hg8, hds⟩ := hg
  subst hds
  have ho : ((((⟨g.v, g.ds⟩ : Env).upd (some 3) (.pointer (some x3))).upd (some 4) (.pointer (some x4))).upd (some 8) x8 : Env) = g := by rw [env_ds rfl, upd_self hg3, upd_self hg4, upd_self hg8]
  have hc : n5_c1 = .rangeFunc (.tmp 8) #[9, 10] n6_c1 n6_c2 := by kernel_rfl
  rw [hc]
  refine wpC_range (f := x8) (rd := (fun l51 Mid Kc Fin h1 => uncons l51 fun e52 l53 => vInt .i64 e52 fun i54 => uncons l53 fun e55 l56 => vAgg e55 fun l57 => uncons l57 fun e58 l59 => vInt .i64 e58 fun i60 => uncons l59 fun e61 l62 => vInt .u8 e61 fun i63 => uncons l62 fun e64 l65 => vStr e64 fun s66 => uncons l65 fun e67 l68 => vInt .u8 e67 fun i69 => unnil l68 (unnil l56 (n6_rd x3 x4 x8 g.ds Kn Ke0 Kr h i54 i60 i63 s66 i69 Mid Kc Fin h1)))) (done := (fun h4 => Kn x4 (markD h.size :: g.ds) h4)) ?_ hS ?_ ?_
  · rw [<- ho]; kernel_rfl
  · intro h4 hd
    have e : (Kn x4 (markD h.size :: g.ds) h4) = (Q1 Kn Ke0 Kr) .normal ⟨((((⟨g.v, g.ds⟩ : Env).upd (some 3) (.pointer (some x3))).upd (some 4) (.pointer (some x4))).upd (some 8) x8).v, markD h.size :: g.ds⟩ h4 := by kernel_rfl
    rw [ho] at e
    exact e ▸ hd
  · intro L x Mid Kc Fin h1 hM hx
    obtain ⟨u70, l71, rfl, q72⟩ := uncons_ok hx
    obtain ⟨y73, rfl, q74⟩ := vInt_ok q72
    obtain ⟨u75, l76, rfl, q77⟩ := uncons_ok q74
    obtain ⟨l78, rfl, q79⟩ := vAgg_ok q77
    obtain ⟨u80, l81, rfl, q82⟩ := uncons_ok q79
    obtain ⟨y83, rfl, q84⟩ := vInt_ok q82
    obtain ⟨u85, l86, rfl, q87⟩ := uncons_ok q84
    obtain ⟨y88, rfl, q89⟩ := vInt_ok q87
    obtain ⟨u90, l91, rfl, q92⟩ := uncons_ok q89
    obtain ⟨y93, rfl, q94⟩ := vStr_ok q92
    obtain ⟨u95, l96, rfl, q97⟩ := uncons_ok q94
    obtain ⟨y98, rfl, q99⟩ := vInt_ok q97
    obtain ⟨rfl, q100⟩ := unnil_ok q99
    obtain ⟨rfl, q101⟩ := unnil_ok q100
    have e : (n6_rd x3 x4 x8 g.ds Kn Ke0 Kr h y73 y83 y88 y93 y98 Mid Kc Fin h1) = wpx (some L) Tryz.prog 28 n6_c1 (thenX (fun g1 he => Mid he fun hb => wpx (some L) Tryz.prog 28 n6_c2 (rpost Kc Fin (Q1 Kn Ke0 Kr) ⟨((((⟨g.v, g.ds⟩ : Env).upd (some 3) (.pointer (some x3))).upd (some 4) (.pointer (some x4))).upd (some 8) x8).v, markD h.size :: g.ds⟩ hb) g1 hb) fun _ _ _ => False) (setps ((((⟨g.v, g.ds⟩ : Env).upd (some 3) (.pointer (some x3))).upd (some 4) (.pointer (some x4))).upd (some 8) x8) [9, 10] [.int .i64 y73, (.agg ⟨[.int .i64 y83, .int .u8 y88, S y93, .int .u8 y98]⟩)]) h1 := by kernel_rfl
    rw [ho] at e
    exact (wpx_ok (by kernel_rfl) _ _ _ _ (by kernel_rfl) (e ▸ q101)).mono (thenX_mono fun g1 he hm => hM he _ _ (fun hb => wpx_ok (by kernel_rfl) _ _ _ _ (by kernel_rfl)) hm)
abbrev n5 (x3 x4 : Addr) (x8 : Value) (ds : List Deferred) (Kn Kr : T0) (h : H) : Prop := n6 x3 x4 x8 ds Kn Kn Kr h
theorem n5_ok (x3 x4 : Addr) (x8 : Value) (ds : List Deferred) (Kn Kr : T0) (g : Env) (hg : E3 g x3 x4 x8 ds) (h : H) (hS : n5 x3 x4 x8 ds Kn Kr h) : wpC none Tryz.prog 28 n4_c2 (Q0 Kn Kr) g h := by
  refine wpC_block' (id := 0) (x := n5_c1) (by kernel_rfl) (n6_ok x3 x4 x8 ds Kn Kn Kr g hg h hS) ?_
  intro e g' h' hq
  cases e <;> exact hq
def Q2 (Kn : T3) (Kr : T0) : XPost
  | .normal, g, h => D3 Kn g h
  | .ret, g, h => D0 Kr g h
  | _, _, _ => False
abbrev n4 (x0b : Option Addr) (x0n x0c : Nat) (x3 x4 : Addr) (ds : List Deferred) (Kn Kr : T0) (h : H) : Prop :=
  HCalls Tryz.prog 178 ⟨[.slice x0b x0n x0c]⟩ h fun v102 h103 => n5 x3 x4 v102 ds Kn Kr h103
theorem n4_ok (x0b : Option Addr) (x0n x0c : Nat) (x3 x4 : Addr) (ds : List Deferred) (Kn Kr : T0) (g : Env) (hg : E2 g x0b x0n x0c x3 x4 ds) (h : H) (hS : n4 x0b x0n x0c x3 x4 ds Kn Kr h) : wpC none Tryz.prog 28 n2_c1 (Q0 Kn Kr) g h := by
  obtain ⟨hg0, hg3, hg4, hds⟩ := hg
  refine wpC_seq' (x := n4_c1) (y := n4_c2) (Q' := (Q2 (fun z3 z4 z8 zds h => n5 z3 z4 z8 zds Kn Kr h) Kr)) (by kernel_rfl) ?_ ?_
  · refine wpC_of_wpx (by kernel_rfl) (by kernel_rfl) (g' := (((⟨g.v, ds⟩ : Env).upd (some 0) (.slice x0b x0n x0c)).upd (some 3) (.pointer (some x3))).upd (some 4) (.pointer (some x4))) (by rw [env_ds hds, upd_self hg0, upd_self hg3, upd_self hg4]) ?_
    have e : (n4 x0b x0n x0c x3 x4 ds Kn Kr h) = wpx none Tryz.prog 28 n4_c1 (Q2 (fun z3 z4 z8 zds h => n5 z3 z4 z8 zds Kn Kr h) Kr) ((((⟨g.v, ds⟩ : Env).upd (some 0) (.slice x0b x0n x0c)).upd (some 3) (.pointer (some x3))).upd (some 4) (.pointer (some x4))) h := by kernel_rfl
    exact e ▸ hS
  · intro e g' h' hq
    cases e with
    | normal =>
      have hq : D3 (fun z3 z4 z8 zds h => n5 z3 z4 z8 zds Kn Kr h) g' h' := hq
      obtain ⟨y3, y4, y8, yds, hg', hq⟩ := D3_ok hq
      exact n5_ok y3 y4 y8 yds Kn Kr g' hg' h' hq
    | _ => exact hq
abbrev n2 (x0b : Option Addr) (x0n x0c : Nat) (x3 x4 : Addr) (ds : List Deferred) (Kn Kr : T0) (h : H) : Prop := n4 x0b x0n x0c x3 x4 ds (fun z4 zds h => n3 z4 zds Kn Kr h) Kr h
theorem n2_ok (x0b : Option Addr) (x0n x0c : Nat) (x3 x4 : Addr) (ds : List Deferred) (Kn Kr : T0) (g : Env) (hg : E2 g x0b x0n x0c x3 x4 ds) (h : H) (hS : n2 x0b x0n x0c x3 x4 ds Kn Kr h) : wpC none Tryz.prog 28 n1_c2 (Q0 Kn Kr) g h := by
  refine wpC_seq' (x := n2_c1) (y := n2_c2) (by kernel_rfl) (n4_ok x0b x0n x0c x3 x4 ds (fun z4 zds h => n3 z4 zds Kn Kr h) Kr g hg h hS) ?_
  intro e g' h' hq
  cases e with
  | normal =>
    have hq : D0 (fun z4 zds h => n3 z4 zds Kn Kr h) g' h' := hq
    obtain ⟨y4, yds, hg', hq⟩ := D0_ok hq
    exact n3_ok y4 yds Kn Kr g' hg' h' hq
  | _ => exact hq
def Q3 (Kn : T2) (Kr : T0) : XPost
  | .normal, g, h => D2 Kn g h
  | .ret, g, h => D0 Kr g h
  | _, _, _ => False
abbrev n1 (x0b : Option Addr) (x0n x0c : Nat) (x1 : List UInt8) (ds : List Deferred) (Kn Kr : T0) (h : H) : Prop :=
  newx h #[S x1] 9 fun a104 h105 => newx h105 #[.int .i64 (0 : Int)] 3 fun a106 h107 => n2 x0b x0n x0c a104 a106 ds Kn Kr h107
theorem n1_ok (x0b : Option Addr) (x0n x0c : Nat) (x1 : List UInt8) (ds : List Deferred) (Kn Kr : T0) (g : Env) (hg : E1 g x0b x0n x0c x1 ds) (h : H) (hS : n1 x0b x0n x0c x1 ds Kn Kr h) : wpC none Tryz.prog 28 code (Q0 Kn Kr) g h := by
  obtain ⟨hg0, hg1, hds⟩ := hg
  refine wpC_seq' (x := n1_c1) (y := n1_c2) (Q' := (Q3 (fun z0b z0n z0c z3 z4 zds h => n2 z0b z0n z0c z3 z4 zds Kn Kr h) Kr)) (by kernel_rfl) ?_ ?_
  · refine wpC_of_wpx (by kernel_rfl) (by kernel_rfl) (g' := ((⟨g.v, ds⟩ : Env).upd (some 0) (.slice x0b x0n x0c)).upd (some 1) (S x1)) (by rw [env_ds hds, upd_self hg0, upd_self hg1]) ?_
    have e : (n1 x0b x0n x0c x1 ds Kn Kr h) = wpx none Tryz.prog 28 n1_c1 (Q3 (fun z0b z0n z0c z3 z4 zds h => n2 z0b z0n z0c z3 z4 zds Kn Kr h) Kr) (((⟨g.v, ds⟩ : Env).upd (some 0) (.slice x0b x0n x0c)).upd (some 1) (S x1)) h := by kernel_rfl
    exact e ▸ hS
  · intro e g' h' hq
    cases e with
    | normal =>
      have hq : D2 (fun z0b z0n z0c z3 z4 zds h => n2 z0b z0n z0c z3 z4 zds Kn Kr h) g' h' := hq
      obtain ⟨y0b, y0n, y0c, y3, y4, yds, hg', hq⟩ := D2_ok hq
      exact n2_ok y0b y0n y0c y3 y4 yds Kn Kr g' hg' h' hq
    | _ => exact hq
abbrev asks (x0b : Option Addr) (x0n x0c : Nat) (x1 : List UInt8) (K : Value -> H -> Prop) (h : H) : Prop := n1 x0b x0n x0c x1 [] (fun y4 ds h => leaveX ds h fun h => ∃ i108, cell h y4 = some (.int .i64 i108) /\ (K (.int .i64 i108) h)) (fun y4 ds h => leaveX ds h fun h => ∃ i108, cell h y4 = some (.int .i64 i108) /\ (K (.int .i64 i108) h)) h
theorem ok (x0b : Option Addr) (x0n x0c : Nat) (x1 : List UInt8) (K : Value -> H -> Prop) (h : H) (hS : asks x0b x0n x0c x1 K h) : HCalls Tryz.prog 192 ⟨[.slice x0b x0n x0c, S x1]⟩ h K := by
  refine calls_of_wpC (c := code) Tryz.func192 (by kernel_rfl) (Nat.le_of_ble_eq_true (by kernel_rfl)) ?_
  refine (n1_ok x0b x0n x0c x1 [] (fun y4 ds h => leaveX ds h fun h => ∃ i108, cell h y4 = some (.int .i64 i108) /\ (K (.int .i64 i108) h)) (fun y4 ds h => leaveX ds h fun h => ∃ i108, cell h y4 = some (.int .i64 i108) /\ (K (.int .i64 i108) h)) (env0 [.slice x0b x0n x0c, S x1]) ⟨rfl, rfl, rfl⟩ h hS).mono ?_
  intro e g' h' hq
  cases e with
  | normal =>
    have hq : D0 (fun y4 ds h => leaveX ds h fun h => ∃ i108, cell h y4 = some (.int .i64 i108) /\ (K (.int .i64 i108) h)) g' h' := hq
    obtain ⟨y4, ds, ⟨hg4, hd⟩, hq⟩ := D0_ok hq
    show leaveX g'.ds h' _
    rw [hd]
    show leaveX ds h' fun h => vAddr (g'.v 4) fun a109 => ldx Tryz.prog 3 a109 h fun v110 => K v110 h
    rw [hg4]
    exact hq
  | ret =>
    have hq : D0 (fun y4 ds h => leaveX ds h fun h => ∃ i108, cell h y4 = some (.int .i64 i108) /\ (K (.int .i64 i108) h)) g' h' := hq
    obtain ⟨y4, ds, ⟨hg4, hd⟩, hq⟩ := D0_ok hq
    show leaveX g'.ds h' _
    rw [hd]
    show leaveX ds h' fun h => vAddr (g'.v 4) fun a109 => ldx Tryz.prog 3 a109 h fun v110 => K v110 h
    rw [hg4]
    exact hq
  | _ => exact hq
end Sx.open_Implied
namespace Sx.slices_DeleteFunc_apiMark
abbrev L0 : List Sl := [.o 4 .l]
abbrev L3 : List Sl := [.o 0 .l, .o 5 (.i .i64)]
abbrev L4 : List Sl := [.o 0 .l, .o 1 .r, .o 5 (.i .i64), .o 6 (.i .i64)]
abbrev L2 : List Sl := [.o 0 .l, .o 1 .r, .o 5 (.i .i64)]
abbrev L1 : List Sl := [.o 0 .l, .o 1 .r]
abbrev T0 := TK L0
abbrev T3 := TK L3
abbrev T4 := TK L4
variable (x0b : Option Addr) (x0n x0c : Nat) (x1 : Value) (x5 : Int)
abbrev n5 (Kn Kr : T0) (h : H) : Prop :=
  (0 <= x5 /\ x5 <= (x0n : Int) /\ (x0n : Int) <= (x0c : Int)) /\ (SemH Tryz.prog (Builtin.clear_ #[40] 0 ⟨[(.slice (if x0c = Int.toNat x5 then x0b else Option.map (fun q => q.add (Int.toNat x5 * 3)) x0b) (Int.toNat (x0n : Int) - Int.toNat x5) (x0c - Int.toNat x5))]⟩) h fun v1 h2 => (0 <= (0 : Int) /\ (0 : Int) <= x5 /\ x5 <= (x0c : Int)) /\ (Kr (if x0c = Int.toNat (0 : Int) then x0b else Option.map (fun q => q.add (Int.toNat (0 : Int) * 3)) x0b) (Int.toNat x5 - Int.toNat (0 : Int)) (x0c - Int.toNat (0 : Int)) h2))
abbrev n8_B (Kn Ke0 : T3) (Kr : T0) : T4 -> T4 := fun K2 x0b x0n x0c x1 x5 x6 h => Spl (x6 < (x0n : Int)) ((0 <= x6 /\ x6 < (x0n : Int)) /\ (vSome x0b fun a3 => ∃ i4, cell h (((a3.add (Int.toNat x6 * 3))).add 0) = some (.int .i64 i4) /\ (∃ s5, cell h (((a3.add (Int.toNat x6 * 3))).add 1) = some (S s5) /\ (∃ s6b s6n s6c, cell h (((a3.add (Int.toNat x6 * 3))).add 2) = some (.slice s6b s6n s6c) /\ (newx h ⟨[.int .i64 (0 : Int), S ([] : List UInt8), .slice none 0 0]⟩ 79 fun a7 h8 => stL a7 [.int .i64 i4, S s5, .slice s6b s6n s6c] 0 h8 fun h9 => ∃ i10, cell h9 (a7.add 0) = some (.int .i64 i10) /\ (∃ s11, cell h9 (a7.add 1) = some (S s11) /\ (∃ s12b s12n s12c, cell h9 (a7.add 2) = some (.slice s12b s12n s12c) /\ (CallV Tryz.prog 4 x1 ⟨[(.agg ⟨[.int .i64 i10, S s11, .slice s12b s12n s12c]⟩)]⟩ h9 fun v13 h14 => vBool v13 fun b15 => cond b15 (Rng .i64 (x6 + (1 : Int)) /\ (K2 x0b x0n x0c x1 x5 (x6 + (1 : Int)) h14)) (∃ i16, cell h14 (a7.add 0) = some (.int .i64 i16) /\ (∃ s17, cell h14 (a7.add 1) = some (S s17) /\ (∃ s18b s18n s18c, cell h14 (a7.add 2) = some (.slice s18b s18n s18c) /\ ((0 <= x5 /\ x5 < (x0n : Int)) /\ (vSome x0b fun a19 => stL (a19.add (Int.toNat x5 * 3)) [.int .i64 i16, S s17, .slice s18b s18n s18c] 0 h14 fun h20 => Rng .i64 (x5 + (1 : Int)) /\ (Rng .i64 (x6 + (1 : Int)) /\ (K2 x0b x0n x0c x1 (x5 + (1 : Int)) (x6 + (1 : Int)) h20))))))))))))))) (Ke0 x0b x0n x0c x5 h)
abbrev n8_L (Kn Ke0 : T3) (Kr : T0) : Nat -> T4 := LP L4 (n8_B Kn Ke0 Kr)
variable (K : Value -> H -> Prop) (h : H)
abbrev asks (x0b : Option Addr) (x0n x0c : Nat) (x1 : Value) (K : Value -> H -> Prop) (h : H) : Prop := cF L0 (fun Kr => sqF L1 (fun K6 => K6 x0b x0n x0c x1 h) fun x0b x0n x0c x1 h => sqF L2 (fun K5 => HCalls Tryz.prog 193 ⟨[.slice x0b x0n x0c, x1]⟩ h fun v21 h22 => vInt .i64 v21 fun i23 => K5 x0b x0n x0c x1 i23 h22) fun x0b x0n x0c x1 x5 h => sqF L2 (fun K4 => Spl (x5 = (-1 : Int)) (Kr x0b x0n x0c h) (K4 x0b x0n x0c x1 x5 h)) fun x0b x0n x0c x1 x5 h => sqF L3 (fun K1 => sqF L4 (fun K3 => Rng .i64 (x5 + (1 : Int)) /\ (K3 x0b x0n x0c x1 x5 (x5 + (1 : Int)) h)) fun x0b x0n x0c x1 x5 x6 h => lpF L4 (n8_B K1 K1 Kr) fun K2 => K2 x0b x0n x0c x1 x5 x6 h) fun x0b x0n x0c x5 h => n5 x0b x0n x0c x5 Kr Kr h) fun y4b y4n y4c h => K (.slice y4b y4n y4c) h
theorem ok (hS : asks x0b x0n x0c x1 K h) : HCalls Tryz.prog 153 ⟨[.slice x0b x0n x0c, x1]⟩ h K :=
  cl Tryz.func153 hS (fun hg hS => sq (l := L1) hg hS fun hg hS => sq (l := L2) hg hS fun hg hS => sq (l := L2) hg hS fun hg hS => sc (l := L3) hS (fun hS => sq (l := L4) hg hS fun hg hS => bl (b := 0) (lp hg hS fun hg hS => lf hg hS)) fun hg hS => lf hg hS) fun hg hS => rt hg hS
end Sx.slices_DeleteFunc_apiMark
namespace Sx.marks_Push
abbrev L0 : List Sl := [.o 4 .l]
abbrev L5 : List Sl := [.o 5 .l, .o 6 .l]
abbrev L6 : List Sl := [.o 0 .l, .o 3 .a, .o 5 .l, .o 6 .l, .o 7 (.i .i64)]
abbrev L4 : List Sl := [.o 0 .l, .o 3 .a, .o 5 .l, .o 6 .l]
abbrev L3 : List Sl := [.o 0 .l, .o 3 .a, .o 5 .l]
abbrev L2 : List Sl := [.o 0 .l, .o 3 .a]
abbrev T0 := TK L0
abbrev T5 := TK L5
abbrev T6 := TK L6
variable (x0b : Option Addr) (x0n x0c : Nat) (x1_0 : Int) (x1_1 : List UInt8) (x1_2b : Option Addr) (x1_2n x1_2c : Nat) (x5b : Option Addr) (x5n x5c : Nat) (x6b : Option Addr) (x6n x6c : Nat)
abbrev n6 (x5b : Option Addr) (x5n x5c : Nat) (x6b : Option Addr) (x6n x6c : Nat) (Kn Kr : T0) (h : H) : Prop :=
  Spl ((x6n : Int) < (3 : Int)) (Kr x5b x5n x5c h) ((0 <= (0 : Int) /\ (0 : Int) < (x6n : Int)) /\ (vSome x6b fun a1 => ∃ i2, cell h (a1.add (Int.toNat (0 : Int) * 1)) = some (.int .i64 i2) /\ ((0 <= (0 : Int) /\ (0 : Int) <= i2 /\ i2 <= (x5c : Int)) /\ ((0 <= (0 : Int) /\ (0 : Int) < (x6n : Int)) /\ (vSome x6b fun a3 => ∃ i4, cell h (a3.add (Int.toNat (0 : Int) * 1)) = some (.int .i64 i4) /\ (Rng .i64 (i4 + (1 : Int)) /\ ((0 <= (i4 + (1 : Int)) /\ (i4 + (1 : Int)) <= (x5n : Int) /\ (x5n : Int) <= (x5c : Int)) /\ (HCalls Tryz.prog 63 ⟨[(.slice (if x5c = Int.toNat (0 : Int) then x5b else Option.map (fun q => q.add (Int.toNat (0 : Int) * 3)) x5b) (Int.toNat i2 - Int.toNat (0 : Int)) (x5c - Int.toNat (0 : Int)))]⟩ h fun v5 h6 => vSlice v5 fun s7b s7n s7c => ExtH h h6 /\ (SemH Tryz.prog (Builtin.append_ #[40, 40] 40 ⟨[.slice s7b s7n s7c, (.slice (if x5c = Int.toNat (i4 + (1 : Int)) then x5b else Option.map (fun q => q.add (Int.toNat (i4 + (1 : Int)) * 3)) x5b) (Int.toNat (x5n : Int) - Int.toNat (i4 + (1 : Int))) (x5c - Int.toNat (i4 + (1 : Int))))]⟩) h6 fun v8 h9 => vSlice v8 fun s10b s10n s10c => Kr s10b s10n s10c h9)))))))))
abbrev n9_B (Kn Ke0 : T5) (Kr : T0) : T6 -> T6 := fun K2 x0b x0n x0c x3 x5b x5n x5c x6b x6n x6c x7 h => Spl (x7 < (x0n : Int)) (∃ i11, cell h (x3.add 0) = some (.int .i64 i11) /\ (∃ s12, cell h (x3.add 1) = some (S s12) /\ (∃ s13b s13n s13c, cell h (x3.add 2) = some (.slice s13b s13n s13c) /\ ((0 <= x7 /\ x7 < (x0n : Int)) /\ (vSome x0b fun a14 => ∃ i15, cell h (((a14.add (Int.toNat x7 * 3))).add 0) = some (.int .i64 i15) /\ (∃ s16, cell h (((a14.add (Int.toNat x7 * 3))).add 1) = some (S s16) /\ (∃ s17b s17n s17c, cell h (((a14.add (Int.toNat x7 * 3))).add 2) = some (.slice s17b s17n s17c) /\ (HCalls Tryz.prog 198 ⟨[(.agg ⟨[.int .i64 i11, S s12, .slice s13b s13n s13c]⟩), (.agg ⟨[.int .i64 i15, S s16, .slice s17b s17n s17c]⟩)]⟩ h fun v18 h19 => vBool v18 fun b20 => cond b20 (newx h19 #[.int .i64 x7] 3 fun a21 h22 => SemH Tryz.prog (Builtin.append_ #[82, 82] 82 ⟨[.slice x6b x6n x6c, .slice (some a21) 1 1]⟩) h22 fun v23 h24 => vSlice v23 fun s25b s25n s25c => Rng .i64 (x7 + (1 : Int)) /\ (K2 x0b x0n x0c x3 x5b x5n x5c s25b s25n s25c (x7 + (1 : Int)) h24)) (Rng .i64 (x7 + (1 : Int)) /\ (K2 x0b x0n x0c x3 x5b x5n x5c x6b x6n x6c (x7 + (1 : Int)) h19)))))))))) (Ke0 x5b x5n x5c x6b x6n x6c h)
abbrev n9_L (Kn Ke0 : T5) (Kr : T0) : Nat -> T6 := LP L6 (n9_B Kn Ke0 Kr)
variable (K : Value -> H -> Prop) (h : H)
abbrev asks (x0b : Option Addr) (x0n x0c : Nat) (x1_0 : Int) (x1_1 : List UInt8) (x1_2b : Option Addr) (x1_2n x1_2c : Nat) (K : Value -> H -> Prop) (h : H) : Prop := cF L0 (fun Kr => sqF L2 (fun K7 => newx h ⟨[.int .i64 x1_0, S x1_1, .slice x1_2b x1_2n x1_2c]⟩ 79 fun a38 h39 => K7 x0b x0n x0c a38 h39) fun x0b x0n x0c x3 h => sqF L3 (fun K6 => (0 <= (0 : Int) /\ (0 : Int) <= (x0n : Int) /\ (x0n : Int) <= (x0n : Int) /\ (x0n : Int) <= (x0c : Int)) /\ (∃ i30, cell h (x3.add 0) = some (.int .i64 i30) /\ (∃ s31, cell h (x3.add 1) = some (S s31) /\ (∃ s32b s32n s32c, cell h (x3.add 2) = some (.slice s32b s32n s32c) /\ (newx h #[.int .i64 i30, S s31, .slice s32b s32n s32c] 79 fun a33 h34 => SemH Tryz.prog (Builtin.append_ #[40, 40] 40 ⟨[(.slice (if Int.toNat (x0n : Int) = Int.toNat (0 : Int) then x0b else Option.map (fun q => q.add (Int.toNat (0 : Int) * 3)) x0b) (Int.toNat (x0n : Int) - Int.toNat (0 : Int)) (Int.toNat (x0n : Int) - Int.toNat (0 : Int))), .slice (some a33) 1 1]⟩) h34 fun v35 h36 => vSlice v35 fun s37b s37n s37c => K6 x0b x0n x0c x3 s37b s37n s37c h36))))) fun x0b x0n x0c x3 x5b x5n x5c h => sqF L3 (fun K5 => ∃ i29, cell h (x3.add 0) = some (.int .i64 i29) /\ (Spl (i29 < (0 : Int)) (Kr x5b x5n x5c h) (K5 x0b x0n x0c x3 x5b x5n x5c h))) fun x0b x0n x0c x3 x5b x5n x5c h => sqF L4 (fun K4 => K4 x0b x0n x0c x3 x5b x5n x5c none 0 0 h) fun x0b x0n x0c x3 x5b x5n x5c x6b x6n x6c h => sqF L5 (fun K1 => sqF L6 (fun K3 => HCalls Tryz.prog 197 ⟨[.slice x0b x0n x0c]⟩ h fun v26 h27 => vInt .i64 v26 fun i28 => K3 x0b x0n x0c x3 x5b x5n x5c x6b x6n x6c i28 h27) fun x0b x0n x0c x3 x5b x5n x5c x6b x6n x6c x7 h => lpF L6 (n9_B K1 K1 Kr) fun K2 => K2 x0b x0n x0c x3 x5b x5n x5c x6b x6n x6c x7 h) fun x5b x5n x5c x6b x6n x6c h => n6 x5b x5n x5c x6b x6n x6c Kr Kr h) fun y4b y4n y4c h => K (.slice y4b y4n y4c) h
theorem ok (hS : asks x0b x0n x0c x1_0 x1_1 x1_2b x1_2n x1_2c K h) : HCalls Tryz.prog 156 ⟨[.slice x0b x0n x0c, (.agg ⟨[.int .i64 x1_0, S x1_1, .slice x1_2b x1_2n x1_2c]⟩)]⟩ h K :=
  cl Tryz.func156 hS (fun hg hS => sq (l := L2) hg hS fun hg hS => sq (l := L3) hg hS fun hg hS => sq (l := L3) hg hS fun hg hS => sq (l := L4) hg hS fun hg hS => sc (l := L5) hS (fun hS => sq (l := L6) hg hS fun hg hS => bl (b := 0) (lp hg hS fun hg hS => lf hg hS)) fun hg hS => lf hg hS) fun hg hS => rt hg hS
end Sx.marks_Push
namespace Sx.marks_fresh
noncomputable def code : Code := bodyOf Tryz.f197
abbrev T0 := Addr -> (List Deferred) -> H -> Prop
def E0 (g : Env) (x2 : Addr) (ds : List Deferred) : Prop := g.v 2 = (.pointer (some x2)) /\ g.ds = ds
def D0 (K : T0) (g : Env) (h : H) : Prop := vAddr (g.v 2) fun a1 => K a1 g.ds h
theorem D0_ok {K : T0} {g : Env} {h : H} (hq : D0 K g h) : ∃ (x2 : Addr) (ds : List Deferred), E0 g x2 ds /\ K x2 ds h := by
  obtain ⟨y3, e2, q4⟩ := vAddr_ok hq
  exact ⟨y3, g.ds, ⟨e2, rfl⟩, q4⟩
def Q0 (Kn Kr : T0) : XPost
  | .normal, g, h => D0 Kn g h
  | .ret, g, h => D0 Kr g h
  | _, _, _ => False
def E1 (g : Env) (x0b : Option Addr) (x0n x0c : Nat) (ds : List Deferred) : Prop := g.v 0 = (.slice x0b x0n x0c) /\ g.ds = ds
noncomputable def n1_c1 : Code := cFst code
noncomputable def n1_c2 : Code := cSnd code
abbrev T2 := (Option Addr) -> Nat -> Nat -> Addr -> (List Deferred) -> H -> Prop
def E2 (g : Env) (x0b : Option Addr) (x0n x0c : Nat) (x2 : Addr) (ds : List Deferred) : Prop := g.v 0 = (.slice x0b x0n x0c) /\ g.v 2 = (.pointer (some x2)) /\ g.ds = ds
def D2 (K : T2) (g : Env) (h : H) : Prop := vSlice (g.v 0) fun s9b s9n s9c => vAddr (g.v 2) fun a10 => K s9b s9n s9c a10 g.ds h
theorem D2_ok {K : T2} {g : Env} {h : H} (hq : D2 K g h) : ∃ (x0b : Option Addr) (x0n x0c : Nat) (x2 : Addr) (ds : List Deferred), E2 g x0b x0n x0c x2 ds /\ K x0b x0n x0c x2 ds h := by
  obtain ⟨y12b, y12n, y12c, e11, q13⟩ := vSlice_ok hq
  obtain ⟨y15, e14, q16⟩ := vAddr_ok q13
  exact ⟨y12b, y12n, y12c, y15, g.ds, ⟨e11, e14, rfl⟩, q16⟩
noncomputable def n2_c1 : Code := cFst n1_c2
noncomputable def n2_c2 : Code := cSnd n1_c2
abbrev n3 (x2 : Addr) (ds : List Deferred) (Kn Kr : T0) (h : H) : Prop :=
  stL x2 [.int .i64 (0 : Int)] 0 h fun h17 => Kr x2 ds h17
theorem n3_ok (x2 : Addr) (ds : List Deferred) (Kn Kr : T0) (g : Env) (hg : E0 g x2 ds) (h : H) (hS : n3 x2 ds Kn Kr h) : wpC none Tryz.prog 14 n2_c2 (Q0 Kn Kr) g h := by
  obtain ⟨hg2, hds⟩ := hg
  refine wpC_of_wpx (by kernel_rfl) (by kernel_rfl) (g' := (⟨g.v, ds⟩ : Env).upd (some 2) (.pointer (some x2))) (by rw [env_ds hds, upd_self hg2]) ?_
  have e : (n3 x2 ds Kn Kr h) = wpx none Tryz.prog 14 n2_c2 (Q0 Kn Kr) ((⟨g.v, ds⟩ : Env).upd (some 2) (.pointer (some x2))) h := by kernel_rfl
  exact e ▸ hS
noncomputable def n4_c1 : Code := cFst n2_c1
noncomputable def n4_c2 : Code := cSnd n2_c1
abbrev T3 := Addr -> Value -> (List Deferred) -> H -> Prop
def E3 (g : Env) (x2 : Addr) (x6 : Value) (ds : List Deferred) : Prop := g.v 2 = (.pointer (some x2)) /\ g.v 6 = x6 /\ g.ds = ds
def D3 (K : T3) (g : Env) (h : H) : Prop := vAddr (g.v 2) fun a18 => K a18 (g.v 6) g.ds h
theorem D3_ok {K : T3} {g : Env} {h : H} (hq : D3 K g h) : ∃ (x2 : Addr) (x6 : Value) (ds : List Deferred), E3 g x2 x6 ds /\ K x2 x6 ds h := by
  obtain ⟨y20, e19, q21⟩ := vAddr_ok hq
  exact ⟨y20, (g.v 6), g.ds, ⟨e19, rfl, rfl⟩, q21⟩
noncomputable def n5_c1 : Code := cFst n4_c2
def Q1 (Kn Ke0 Kr : T0) : XPost
  | .normal, g, h => D0 Kn g h
  | .ret, g, h => D0 Kr g h
  | .exit id, g, h => cond (Nat.beq id 0) (D0 Ke0 g h) (False)
  | _, _, _ => False
noncomputable def n6_c1 : Code := cFst n5_c1
noncomputable def n6_c2 : Code := cSnd n5_c1
def n6_rd (x2 : Addr) (x6 : Value) (ds : List Deferred) (Kn Ke0 Kr : T0) (h : H) (p7 p8_0 : Int) (p8_1 : List UInt8) (p8_2b : Option Addr) (p8_2n p8_2c : Nat) (Mid : H -> (H -> Prop) -> Prop) (Kc : H -> H -> Prop) (Fin : H -> H -> (H -> Prop) -> Prop) (h1 : H) : Prop :=
  newx h1 ⟨[.int .i64 (0 : Int), S ([] : List UInt8), .slice none 0 0]⟩ 79 fun a22 h23 => stL a22 [.int .i64 p8_0, S p8_1, .slice p8_2b p8_2n p8_2c] 0 h23 fun h24 => Mid h24 fun hb25 => ∃ i26, cell hb25 (a22.add 0) = some (.int .i64 i26) /\ (Spl (i26 < (0 : Int)) (Rng .i64 (p7 + (1 : Int)) /\ (stL x2 [.int .i64 (p7 + (1 : Int))] 0 hb25 fun h27 => Fin hb25 h27 fun h28 => Kr x2 (markD h.size :: ds) h28)) (Kc hb25 hb25))
abbrev n6 (x2 : Addr) (x6 : Value) (ds : List Deferred) (Kn Ke0 Kr : T0) (h : H) : Prop := Ranges Tryz.prog x6 2 h (fun l29 Mid Kc Fin h1 => uncons l29 fun e30 l31 => vInt .i64 e30 fun i32 => uncons l31 fun e33 l34 => vAgg e33 fun l35 => uncons l35 fun e36 l37 => vInt .i64 e36 fun i38 => uncons l37 fun e39 l40 => vStr e39 fun s41 => uncons l40 fun e42 l43 => vSlice e42 fun s44b s44n s44c => unnil l43 (unnil l34 (n6_rd x2 x6 ds Kn Ke0 Kr h i32 i38 s41 s44b s44n s44c Mid Kc Fin h1))) (fun h4 => Kn x2 (markD h.size :: ds) h4)
theorem n6_ok (x2 : Addr) (x6 : Value) (ds : List Deferred) (Kn Ke0 Kr : T0) (g : Env) (hg : E3 g x2 x6 ds) (h : H) (hS : n6 x2 x6 ds Kn Ke0 Kr h) : wpC none Tryz.prog 14 n5_c1 (Q1 Kn Ke0 Kr) g h := by
  obtain ⟨hg2, hg6, hds⟩ := hg
  subst hds
  have ho : (((⟨g.v, g.ds⟩ : Env).upd (some 2) (.pointer (some x2))).upd (some 6) x6 : Env) = g := by rw [env_ds rfl, upd_self hg2, upd_self hg6]
  have hc : n5_c1 = .rangeFunc (.tmp 6) #[7, 8] n6_c1 n6_c2 := by kernel_rfl
  rw [hc]
  refine wpC_range (f := x6) (rd := (fun l29 Mid Kc Fin h1 => uncons l29 fun e30 l31 => vInt .i64 e30 fun i32 => uncons l31 fun e33 l34 => vAgg e33 fun l35 => uncons l35 fun e36 l37 => vInt .i64 e36 fun i38 => uncons l37 fun e39 l40 => vStr e39 fun s41 => uncons l40 fun e42 l43 => vSlice e42 fun s44b s44n s44c => unnil l43 (unnil l34 (n6_rd x2 x6 g.ds Kn Ke0 Kr h i32 i38 s41 s44b s44n s44c Mid Kc Fin h1)))) (done := (fun h4 => Kn x2 (markD h.size :: g.ds) h4)) ?_ hS ?_ ?_
  · rw [<- ho]; kernel_rfl
  · intro h4 hd
    have e : (Kn x2 (markD h.size :: g.ds) h4) = (Q1 Kn Ke0 Kr) .normal ⟨(((⟨g.v, g.ds⟩ : Env).upd (some 2) (.pointer (some x2))).upd (some 6) x6).v, markD h.size :: g.ds⟩ h4 := by kernel_rfl
    rw [ho] at e
    exact e ▸ hd
  · intro L x Mid Kc Fin h1 hM hx
    obtain ⟨u45, l46, rfl, q47⟩ := uncons_ok hx
    obtain ⟨y48, rfl, q49⟩ := vInt_ok q47
    obtain ⟨u50, l51, rfl, q52⟩ := uncons_ok q49
    obtain ⟨l53, rfl, q54⟩ := vAgg_ok q52
    obtain ⟨u55, l56, rfl, q57⟩ := uncons_ok q54
    obtain ⟨y58, rfl, q59⟩ := vInt_ok q57
    obtain ⟨u60, l61, rfl, q62⟩ := uncons_ok q59
    obtain ⟨y63, rfl, q64⟩ := vStr_ok q62
    obtain ⟨u65, l66, rfl, q67⟩ := uncons_ok q64
    obtain ⟨y68b, y68n, y68c, rfl, q69⟩ := vSlice_ok q67
    obtain ⟨rfl, q70⟩ := unnil_ok q69
    obtain ⟨rfl, q71⟩ := unnil_ok q70
    have e : (n6_rd x2 x6 g.ds Kn Ke0 Kr h y48 y58 y63 y68b y68n y68c Mid Kc Fin h1) = wpx (some L) Tryz.prog 14 n6_c1 (thenX (fun g1 he => Mid he fun hb => wpx (some L) Tryz.prog 14 n6_c2 (rpost Kc Fin (Q1 Kn Ke0 Kr) ⟨(((⟨g.v, g.ds⟩ : Env).upd (some 2) (.pointer (some x2))).upd (some 6) x6).v, markD h.size :: g.ds⟩ hb) g1 hb) fun _ _ _ => False) (setps (((⟨g.v, g.ds⟩ : Env).upd (some 2) (.pointer (some x2))).upd (some 6) x6) [7, 8] [.int .i64 y48, (.agg ⟨[.int .i64 y58, S y63, .slice y68b y68n y68c]⟩)]) h1 := by kernel_rfl
    rw [ho] at e
    exact (wpx_ok (by kernel_rfl) _ _ _ _ (by kernel_rfl) (e ▸ q71)).mono (thenX_mono fun g1 he hm => hM he _ _ (fun hb => wpx_ok (by kernel_rfl) _ _ _ _ (by kernel_rfl)) hm)
abbrev n5 (x2 : Addr) (x6 : Value) (ds : List Deferred) (Kn Kr : T0) (h : H) : Prop := n6 x2 x6 ds Kn Kn Kr h
theorem n5_ok (x2 : Addr) (x6 : Value) (ds : List Deferred) (Kn Kr : T0) (g : Env) (hg : E3 g x2 x6 ds) (h : H) (hS : n5 x2 x6 ds Kn Kr h) : wpC none Tryz.prog 14 n4_c2 (Q0 Kn Kr) g h := by
  refine wpC_block' (id := 0) (x := n5_c1) (by kernel_rfl) (n6_ok x2 x6 ds Kn Kn Kr g hg h hS) ?_
  intro e g' h' hq
  cases e <;> exact hq
def Q2 (Kn : T3) (Kr : T0) : XPost
  | .normal, g, h => D3 Kn g h
  | .ret, g, h => D0 Kr g h
  | _, _, _ => False
abbrev n4 (x0b : Option Addr) (x0n x0c : Nat) (x2 : Addr) (ds : List Deferred) (Kn Kr : T0) (h : H) : Prop :=
  HCalls Tryz.prog 136 ⟨[.slice x0b x0n x0c]⟩ h fun v72 h73 => n5 x2 v72 ds Kn Kr h73
theorem n4_ok (x0b : Option Addr) (x0n x0c : Nat) (x2 : Addr) (ds : List Deferred) (Kn Kr : T0) (g : Env) (hg : E2 g x0b x0n x0c x2 ds) (h : H) (hS : n4 x0b x0n x0c x2 ds Kn Kr h) : wpC none Tryz.prog 14 n2_c1 (Q0 Kn Kr) g h := by
  obtain ⟨hg0, hg2, hds⟩ := hg
  refine wpC_seq' (x := n4_c1) (y := n4_c2) (Q' := (Q2 (fun z2 z6 zds h => n5 z2 z6 zds Kn Kr h) Kr)) (by kernel_rfl) ?_ ?_
  · refine wpC_of_wpx (by kernel_rfl) (by kernel_rfl) (g' := ((⟨g.v, ds⟩ : Env).upd (some 0) (.slice x0b x0n x0c)).upd (some 2) (.pointer (some x2))) (by rw [env_ds hds, upd_self hg0, upd_self hg2]) ?_
    have e : (n4 x0b x0n x0c x2 ds Kn Kr h) = wpx none Tryz.prog 14 n4_c1 (Q2 (fun z2 z6 zds h => n5 z2 z6 zds Kn Kr h) Kr) (((⟨g.v, ds⟩ : Env).upd (some 0) (.slice x0b x0n x0c)).upd (some 2) (.pointer (some x2))) h := by kernel_rfl
    exact e ▸ hS
  · intro e g' h' hq
    cases e with
    | normal =>
      have hq : D3 (fun z2 z6 zds h => n5 z2 z6 zds Kn Kr h) g' h' := hq
      obtain ⟨y2, y6, yds, hg', hq⟩ := D3_ok hq
      exact n5_ok y2 y6 yds Kn Kr g' hg' h' hq
    | _ => exact hq
abbrev n2 (x0b : Option Addr) (x0n x0c : Nat) (x2 : Addr) (ds : List Deferred) (Kn Kr : T0) (h : H) : Prop := n4 x0b x0n x0c x2 ds (fun z2 zds h => n3 z2 zds Kn Kr h) Kr h
theorem n2_ok (x0b : Option Addr) (x0n x0c : Nat) (x2 : Addr) (ds : List Deferred) (Kn Kr : T0) (g : Env) (hg : E2 g x0b x0n x0c x2 ds) (h : H) (hS : n2 x0b x0n x0c x2 ds Kn Kr h) : wpC none Tryz.prog 14 n1_c2 (Q0 Kn Kr) g h := by
  refine wpC_seq' (x := n2_c1) (y := n2_c2) (by kernel_rfl) (n4_ok x0b x0n x0c x2 ds (fun z2 zds h => n3 z2 zds Kn Kr h) Kr g hg h hS) ?_
  intro e g' h' hq
  cases e with
  | normal =>
    have hq : D0 (fun z2 zds h => n3 z2 zds Kn Kr h) g' h' := hq
    obtain ⟨y2, yds, hg', hq⟩ := D0_ok hq
    exact n3_ok y2 yds Kn Kr g' hg' h' hq
  | _ => exact hq
def Q3 (Kn : T2) (Kr : T0) : XPost
  | .normal, g, h => D2 Kn g h
  | .ret, g, h => D0 Kr g h
  | _, _, _ => False
abbrev n1 (x0b : Option Addr) (x0n x0c : Nat) (ds : List Deferred) (Kn Kr : T0) (h : H) : Prop :=
  newx h #[.int .i64 (0 : Int)] 3 fun a74 h75 => n2 x0b x0n x0c a74 ds Kn Kr h75
theorem n1_ok (x0b : Option Addr) (x0n x0c : Nat) (ds : List Deferred) (Kn Kr : T0) (g : Env) (hg : E1 g x0b x0n x0c ds) (h : H) (hS : n1 x0b x0n x0c ds Kn Kr h) : wpC none Tryz.prog 14 code (Q0 Kn Kr) g h := by
  obtain ⟨hg0, hds⟩ := hg
  refine wpC_seq' (x := n1_c1) (y := n1_c2) (Q' := (Q3 (fun z0b z0n z0c z2 zds h => n2 z0b z0n z0c z2 zds Kn Kr h) Kr)) (by kernel_rfl) ?_ ?_
  · refine wpC_of_wpx (by kernel_rfl) (by kernel_rfl) (g' := (⟨g.v, ds⟩ : Env).upd (some 0) (.slice x0b x0n x0c)) (by rw [env_ds hds, upd_self hg0]) ?_
    have e : (n1 x0b x0n x0c ds Kn Kr h) = wpx none Tryz.prog 14 n1_c1 (Q3 (fun z0b z0n z0c z2 zds h => n2 z0b z0n z0c z2 zds Kn Kr h) Kr) ((⟨g.v, ds⟩ : Env).upd (some 0) (.slice x0b x0n x0c)) h := by kernel_rfl
    exact e ▸ hS
  · intro e g' h' hq
    cases e with
    | normal =>
      have hq : D2 (fun z0b z0n z0c z2 zds h => n2 z0b z0n z0c z2 zds Kn Kr h) g' h' := hq
      obtain ⟨y0b, y0n, y0c, y2, yds, hg', hq⟩ := D2_ok hq
      exact n2_ok y0b y0n y0c y2 yds Kn Kr g' hg' h' hq
    | _ => exact hq
abbrev asks (x0b : Option Addr) (x0n x0c : Nat) (K : Value -> H -> Prop) (h : H) : Prop := n1 x0b x0n x0c [] (fun y2 ds h => leaveX ds h fun h => ∃ i76, cell h y2 = some (.int .i64 i76) /\ (K (.int .i64 i76) h)) (fun y2 ds h => leaveX ds h fun h => ∃ i76, cell h y2 = some (.int .i64 i76) /\ (K (.int .i64 i76) h)) h
theorem ok (x0b : Option Addr) (x0n x0c : Nat) (K : Value -> H -> Prop) (h : H) (hS : asks x0b x0n x0c K h) : HCalls Tryz.prog 197 ⟨[.slice x0b x0n x0c]⟩ h K := by
  refine calls_of_wpC (c := code) Tryz.func197 (by kernel_rfl) (Nat.le_of_ble_eq_true (by kernel_rfl)) ?_
  refine (n1_ok x0b x0n x0c [] (fun y2 ds h => leaveX ds h fun h => ∃ i76, cell h y2 = some (.int .i64 i76) /\ (K (.int .i64 i76) h)) (fun y2 ds h => leaveX ds h fun h => ∃ i76, cell h y2 = some (.int .i64 i76) /\ (K (.int .i64 i76) h)) (env0 [.slice x0b x0n x0c]) ⟨rfl, rfl⟩ h hS).mono ?_
  intro e g' h' hq
  cases e with
  | normal =>
    have hq : D0 (fun y2 ds h => leaveX ds h fun h => ∃ i76, cell h y2 = some (.int .i64 i76) /\ (K (.int .i64 i76) h)) g' h' := hq
    obtain ⟨y2, ds, ⟨hg2, hd⟩, hq⟩ := D0_ok hq
    show leaveX g'.ds h' _
    rw [hd]
    show leaveX ds h' fun h => vAddr (g'.v 2) fun a77 => ldx Tryz.prog 3 a77 h fun v78 => K v78 h
    rw [hg2]
    exact hq
  | ret =>
    have hq : D0 (fun y2 ds h => leaveX ds h fun h => ∃ i76, cell h y2 = some (.int .i64 i76) /\ (K (.int .i64 i76) h)) g' h' := hq
    obtain ⟨y2, ds, ⟨hg2, hd⟩, hq⟩ := D0_ok hq
    show leaveX g'.ds h' _
    rw [hd]
    show leaveX ds h' fun h => vAddr (g'.v 2) fun a77 => ldx Tryz.prog 3 a77 h fun v78 => K v78 h
    rw [hg2]
    exact hq
  | _ => exact hq
end Sx.marks_fresh
namespace Sx.marks_alike
abbrev L0 : List Sl := [.o 4 .b]
variable (x0_0 : Int) (x0_1 : List UInt8) (x0_2b : Option Addr) (x0_2n x0_2c : Nat) (x1_0 : Int) (x1_1 : List UInt8) (x1_2b : Option Addr) (x1_2n x1_2c : Nat)
variable (K : Value -> H -> Prop) (h : H)
abbrev asks : Prop := cF L0 (fun Kr => newx h ⟨[.int .i64 x0_0, S x0_1, .slice x0_2b x0_2n x0_2c]⟩ 79 fun a1 h2 => newx h2 ⟨[.int .i64 x1_0, S x1_1, .slice x1_2b x1_2n x1_2c]⟩ 79 fun a3 h4 => ∃ s5, cell h4 (a1.add 1) = some (S s5) /\ (∃ s6, cell h4 (a3.add 1) = some (S s6) /\ (Spl (s5 = s6) (∃ s7b s7n s7c, cell h4 (a1.add 2) = some (.slice s7b s7n s7c) /\ (∃ s8b s8n s8c, cell h4 (a3.add 2) = some (.slice s8b s8n s8c) /\ (Spl ((s7n : Int) = (s8n : Int)) (∃ s9b s9n s9c, cell h4 (a1.add 2) = some (.slice s9b s9n s9c) /\ (HCalls Tryz.prog 219 ⟨[.slice s9b s9n s9c, (.func (.func 217) ⟨[]⟩ ⟨[.pointer (some a3)]⟩)]⟩ h4 fun v10 h11 => vBool v10 fun b12 => cond b12 (Kr false h11) (Kr true h11))) (Kr false h4)))) (Kr false h4)))) fun y4 h => K (.bool y4) h
theorem ok (hS : asks x0_0 x0_1 x0_2b x0_2n x0_2c x1_0 x1_1 x1_2b x1_2n x1_2c K h) : HCalls Tryz.prog 198 ⟨[(.agg ⟨[.int .i64 x0_0, S x0_1, .slice x0_2b x0_2n x0_2c]⟩), (.agg ⟨[.int .i64 x1_0, S x1_1, .slice x1_2b x1_2n x1_2c]⟩)]⟩ h K :=
  cl Tryz.func198 hS (fun hg hS => lf hg hS) fun hg hS => rt hg hS
end Sx.marks_alike
namespace Sx.marks_alike_1
abbrev L0 : List Sl := [.o 3 .b]
variable (x0_0 x0_1 : List UInt8) (x1 : Addr)
variable (K : Value -> H -> Prop) (h : H)
abbrev asks : Prop := cF L0 (fun Kr => newx h ⟨[S x0_0, S x0_1]⟩ 67 fun a1 h2 => ∃ s3b s3n s3c, cell h2 (x1.add 2) = some (.slice s3b s3n s3c) /\ (∃ s4, cell h2 (a1.add 0) = some (S s4) /\ (∃ s5, cell h2 (a1.add 1) = some (S s5) /\ (HCalls Tryz.prog 218 ⟨[.slice s3b s3n s3c, (.agg ⟨[S s4, S s5]⟩)]⟩ h2 fun v6 h7 => vBool v6 fun b8 => cond b8 (Kr false h7) (Kr true h7))))) fun y3 h => K (.bool y3) h
theorem ok (hS : asks x0_0 x0_1 x1 K h) : HCalls Tryz.prog 217 ⟨[(.agg ⟨[S x0_0, S x0_1]⟩), .pointer (some x1)]⟩ h K :=
  cl Tryz.func217 hS (fun hg hS => lf hg hS) fun hg hS => rt hg hS
end Sx.marks_alike_1
namespace Sx.slices_Contains_apiAttr
abbrev L0 : List Sl := [.o 4 .b]
variable (x0b : Option Addr) (x0n x0c : Nat) (x1_0 x1_1 : List UInt8)
variable (K : Value -> H -> Prop) (h : H)
abbrev asks : Prop := cF L0 (fun Kr => newx h ⟨[S x1_0, S x1_1]⟩ 67 fun a1 h2 => ∃ s3, cell h2 (a1.add 0) = some (S s3) /\ (∃ s4, cell h2 (a1.add 1) = some (S s4) /\ (HCalls Tryz.prog 233 ⟨[.slice x0b x0n x0c, (.agg ⟨[S s3, S s4]⟩)]⟩ h2 fun v5 h6 => vInt .i64 v5 fun i7 => Spl (i7 ≥ (0 : Int)) (Kr true h6) (Kr false h6)))) fun y4 h => K (.bool y4) h
theorem ok (hS : asks x0b x0n x0c x1_0 x1_1 K h) : HCalls Tryz.prog 218 ⟨[.slice x0b x0n x0c, (.agg ⟨[S x1_0, S x1_1]⟩)]⟩ h K :=
  cl Tryz.func218 hS (fun hg hS => lf hg hS) fun hg hS => rt hg hS
end Sx.slices_Contains_apiAttr
namespace Sx.slices_ContainsFunc_apiAttr
abbrev L0 : List Sl := [.o 4 .b]
variable (x0b : Option Addr) (x0n x0c : Nat) (x1 : Value)
variable (K : Value -> H -> Prop) (h : H)
abbrev asks : Prop := cF L0 (fun Kr => HCalls Tryz.prog 234 ⟨[.slice x0b x0n x0c, x1]⟩ h fun v1 h2 => vInt .i64 v1 fun i3 => Spl (i3 ≥ (0 : Int)) (Kr true h2) (Kr false h2)) fun y4 h => K (.bool y4) h
theorem ok (hS : asks x0b x0n x0c x1 K h) : HCalls Tryz.prog 219 ⟨[.slice x0b x0n x0c, x1]⟩ h K :=
  cl Tryz.func219 hS (fun hg hS => lf hg hS) fun hg hS => rt hg hS
end Sx.slices_ContainsFunc_apiAttr
namespace Sx.slices_Index_apiAttr
abbrev L3 : List Sl := []
abbrev L4 : List Sl := [.o 0 .l, .o 3 .a, .o 7 (.i .i64), .o 8 (.i .i64)]
abbrev L0 : List Sl := [.o 4 (.i .i64)]
abbrev L2 : List Sl := [.o 0 .l, .o 3 .a]
abbrev T3 := TK L3
abbrev T0 := TK L0
abbrev T4 := TK L4
variable (x0b : Option Addr) (x0n x0c : Nat) (x1_0 x1_1 : List UInt8)
abbrev n6_B (Kn Ke0 : T3) (Kr : T0) : T4 -> T4 := fun K2 x0b x0n x0c x3 x7 x8 h => Spl (x8 < x7) (∃ s1, cell h (x3.add 0) = some (S s1) /\ (∃ s2, cell h (x3.add 1) = some (S s2) /\ ((0 <= x8 /\ x8 < (x0n : Int)) /\ (vSome x0b fun a3 => ∃ s4, cell h (((a3.add (Int.toNat x8 * 2))).add 0) = some (S s4) /\ (∃ s5, cell h (((a3.add (Int.toNat x8 * 2))).add 1) = some (S s5) /\ (SemR Tryz.prog (binS .eql 67 (.tmp 11) (.tmp 15) (.agg ⟨[S s1, S s2]⟩) (.agg ⟨[S s4, S s5]⟩)) h fun v6 => vBool v6 fun b7 => cond b7 (Kr x8 h) (Rng .i64 (x8 + (1 : Int)) /\ (K2 x0b x0n x0c x3 x7 (x8 + (1 : Int)) h)))))))) (Ke0 h)
abbrev n6_L (Kn Ke0 : T3) (Kr : T0) : Nat -> T4 := LP L4 (n6_B Kn Ke0 Kr)
variable (K : Value -> H -> Prop) (h : H)
abbrev asks (x0b : Option Addr) (x0n x0c : Nat) (x1_0 x1_1 : List UInt8) (K : Value -> H -> Prop) (h : H) : Prop := cF L0 (fun Kr => sqF L2 (fun K4 => newx h ⟨[S x1_0, S x1_1]⟩ 67 fun a8 h9 => K4 x0b x0n x0c a8 h9) fun x0b x0n x0c x3 h => sqF L3 (fun K1 => sqF L4 (fun K3 => K3 x0b x0n x0c x3 (x0n : Int) (0 : Int) h) fun x0b x0n x0c x3 x7 x8 h => lpF L4 (n6_B K1 K1 Kr) fun K2 => K2 x0b x0n x0c x3 x7 x8 h) fun h => Kr (-1 : Int) h) fun y4 h => K (.int .i64 y4) h
theorem ok (hS : asks x0b x0n x0c x1_0 x1_1 K h) : HCalls Tryz.prog 233 ⟨[.slice x0b x0n x0c, (.agg ⟨[S x1_0, S x1_1]⟩)]⟩ h K :=
  cl Tryz.func233 hS (fun hg hS => sq (l := L2) hg hS fun hg hS => sc (l := L3) hS (fun hS => sq (l := L4) hg hS fun hg hS => bl (b := 0) (lp hg hS fun hg hS => lf hg hS)) fun hg hS => lf hg hS) fun hg hS => rt hg hS
end Sx.slices_Index_apiAttr
namespace Sx.slices_IndexFunc_apiAttr
abbrev L2 : List Sl := []
abbrev L3 : List Sl := [.o 0 .l, .o 1 .r, .o 7 (.i .i64), .o 8 (.i .i64)]
abbrev L0 : List Sl := [.o 4 (.i .i64)]
abbrev L1 : List Sl := [.o 0 .l, .o 1 .r]
abbrev T2 := TK L2
abbrev T0 := TK L0
abbrev T3 := TK L3
variable (x0b : Option Addr) (x0n x0c : Nat) (x1 : Value)
abbrev n6_B (Kn Ke0 : T2) (Kr : T0) : T3 -> T3 := fun K2 x0b x0n x0c x1 x7 x8 h => Spl (x8 < x7) ((0 <= x8 /\ x8 < (x0n : Int)) /\ (vSome x0b fun a1 => ∃ s2, cell h (((a1.add (Int.toNat x8 * 2))).add 0) = some (S s2) /\ (∃ s3, cell h (((a1.add (Int.toNat x8 * 2))).add 1) = some (S s3) /\ (CallV Tryz.prog 4 x1 ⟨[(.agg ⟨[S s2, S s3]⟩)]⟩ h fun v4 h5 => vBool v4 fun b6 => cond b6 (Kr x8 h5) (Rng .i64 (x8 + (1 : Int)) /\ (K2 x0b x0n x0c x1 x7 (x8 + (1 : Int)) h5)))))) (Ke0 h)
abbrev n6_L (Kn Ke0 : T2) (Kr : T0) : Nat -> T3 := LP L3 (n6_B Kn Ke0 Kr)
variable (K : Value -> H -> Prop) (h : H)
abbrev asks (x0b : Option Addr) (x0n x0c : Nat) (x1 : Value) (K : Value -> H -> Prop) (h : H) : Prop := cF L0 (fun Kr => sqF L1 (fun K4 => K4 x0b x0n x0c x1 h) fun x0b x0n x0c x1 h => sqF L2 (fun K1 => sqF L3 (fun K3 => K3 x0b x0n x0c x1 (x0n : Int) (0 : Int) h) fun x0b x0n x0c x1 x7 x8 h => lpF L3 (n6_B K1 K1 Kr) fun K2 => K2 x0b x0n x0c x1 x7 x8 h) fun h => Kr (-1 : Int) h) fun y4 h => K (.int .i64 y4) h
theorem ok (hS : asks x0b x0n x0c x1 K h) : HCalls Tryz.prog 234 ⟨[.slice x0b x0n x0c, x1]⟩ h K :=
  cl Tryz.func234 hS (fun hg hS => sq (l := L1) hg hS fun hg hS => sc (l := L2) hS (fun hS => sq (l := L3) hg hS fun hg hS => bl (b := 0) (lp hg hS fun hg hS => lf hg hS)) fun hg hS => lf hg hS) fun hg hS => rt hg hS
end Sx.slices_IndexFunc_apiAttr
namespace Sx.marks_Clear
abbrev L0 : List Sl := [.o 2 .l]
variable (x0b : Option Addr) (x0n x0c : Nat)
variable (K : Value -> H -> Prop) (h : H)
abbrev asks : Prop := cF L0 (fun Kr => HCalls Tryz.prog 197 ⟨[.slice x0b x0n x0c]⟩ h fun v1 h2 => vInt .i64 v1 fun i3 => Spl (i3 > (0 : Int)) (Rng .i64 (i3 - (1 : Int)) /\ ((0 <= (0 : Int) /\ (0 : Int) <= (i3 - (1 : Int)) /\ (i3 - (1 : Int)) <= (x0c : Int)) /\ (HCalls Tryz.prog 63 ⟨[(.slice (if x0c = Int.toNat (0 : Int) then x0b else Option.map (fun q => q.add (Int.toNat (0 : Int) * 3)) x0b) (Int.toNat (i3 - (1 : Int)) - Int.toNat (0 : Int)) (x0c - Int.toNat (0 : Int)))]⟩ h2 fun v4 h5 => vSlice v4 fun s6b s6n s6c => Kr s6b s6n s6c h5))) (Kr none 0 0 h2)) fun y2b y2n y2c h => K (.slice y2b y2n y2c) h
theorem ok (hS : asks x0b x0n x0c K h) : HCalls Tryz.prog 159 ⟨[.slice x0b x0n x0c]⟩ h K :=
  cl Tryz.func159 hS (fun hg hS => lf hg hS) fun hg hS => rt hg hS
end Sx.marks_Clear
end Go.Proofs
