/- The shallow forms of functions, printed by sh.py out of the translation; each with its proof. No condition. -/
import Derived.Test.YtijoifkjeamonaaGreatShQ
import Derived.Test.YtijoifkjeamonaaGreatProg
namespace Go.Proofs
open Go Go.Sh
set_option linter.unusedVariables false
set_option maxRecDepth 100000
namespace Sx.adopt_Close
noncomputable def code : Code := bodyOf Tryz.f101
abbrev T0 := (List Deferred) -> H -> Prop
def E0 (g : Env) (ds : List Deferred) : Prop := g.ds = ds
def D0 (K : T0) (g : Env) (h : H) : Prop := K g.ds h
theorem D0_ok {K : T0} {g : Env} {h : H} (hq : D0 K g h) : ∃ (ds : List Deferred), E0 g ds /\ K ds h := by
  skip
  exact ⟨g.ds, rfl, hq⟩
def Q0 (Kn Kr : T0) : XPost
  | .normal, g, h => D0 Kn g h
  | .ret, g, h => D0 Kr g h
  | _, _, _ => False
def E1 (g : Env) (x0 : Option Addr) (x1 : List UInt8) (ds : List Deferred) : Prop := g.v 0 = (.pointer x0) /\ g.v 1 = (S x1) /\ g.ds = ds
noncomputable def n1_c1 : Code := cFst code
noncomputable def n1_c2 : Code := cSnd code
abbrev T2 := Addr -> Addr -> (List Deferred) -> H -> Prop
def E2 (g : Env) (x2 x3 : Addr) (ds : List Deferred) : Prop := g.v 2 = (.pointer (some x2)) /\ g.v 3 = (.pointer (some x3)) /\ g.ds = ds
def D2 (K : T2) (g : Env) (h : H) : Prop := vAddr (g.v 2) fun a9 => vAddr (g.v 3) fun a10 => K a9 a10 g.ds h
theorem D2_ok {K : T2} {g : Env} {h : H} (hq : D2 K g h) : ∃ (x2 x3 : Addr) (ds : List Deferred), E2 g x2 x3 ds /\ K x2 x3 ds h := by
  obtain ⟨y12, e11, q13⟩ := vAddr_ok hq
  obtain ⟨y15, e14, q16⟩ := vAddr_ok q13
  exact ⟨y12, y15, g.ds, ⟨e11, e14, rfl⟩, q16⟩
noncomputable def n2_c1 : Code := cFst n1_c2
noncomputable def n2_c2 : Code := cSnd n1_c2
abbrev T3 := Addr -> Addr -> Value -> (List Deferred) -> H -> Prop
def E3 (g : Env) (x2 x3 : Addr) (x10 : Value) (ds : List Deferred) : Prop := g.v 2 = (.pointer (some x2)) /\ g.v 3 = (.pointer (some x3)) /\ g.v 10 = x10 /\ g.ds = ds
def D3 (K : T3) (g : Env) (h : H) : Prop := vAddr (g.v 2) fun a17 => vAddr (g.v 3) fun a18 => K a17 a18 (g.v 10) g.ds h
theorem D3_ok {K : T3} {g : Env} {h : H} (hq : D3 K g h) : ∃ (x2 x3 : Addr) (x10 : Value) (ds : List Deferred), E3 g x2 x3 x10 ds /\ K x2 x3 x10 ds h := by
  obtain ⟨y20, e19, q21⟩ := vAddr_ok hq
  obtain ⟨y23, e22, q24⟩ := vAddr_ok q21
  exact ⟨y20, y23, (g.v 10), g.ds, ⟨e19, e22, rfl, rfl⟩, q24⟩
noncomputable def n3_c1 : Code := cFst n2_c2
def Q1 (Kn Ke0 Kr : T0) : XPost
  | .normal, g, h => D0 Kn g h
  | .ret, g, h => D0 Kr g h
  | .exit id, g, h => cond (Nat.beq id 0) (D0 Ke0 g h) (False)
  | _, _, _ => False
noncomputable def n4_c1 : Code := cFst n3_c1
noncomputable def n4_c2 : Code := cSnd n3_c1
def n4_rd (x2 x3 : Addr) (x10 : Value) (ds : List Deferred) (Kn Ke0 Kr : T0) (h : H) (p11 p12_0 p12_1 : Int) (p12_2 : List UInt8) (p12_3 : Int) (Mid : H -> (H -> Prop) -> Prop) (Kc : H -> H -> Prop) (Fin : H -> H -> (H -> Prop) -> Prop) (h1 : H) : Prop :=
  newx h1 ⟨[.int .i64 (0 : Int), .int .u8 (0 : Int), S ([] : List UInt8), .int .u8 (0 : Int)]⟩ 77 fun a25 h26 => stL a25 [.int .i64 p12_0, .int .u8 p12_1, S p12_2, .int .u8 p12_3] 0 h26 fun h27 => Mid h27 fun hb28 => Spl (p11 = (0 : Int)) (Fin hb28 hb28 fun h29 => Kr (markD h.size :: ds) h29) (∃ i30, cell hb28 (a25.add 1) = some (.int .u8 i30) /\ (Spl (i30 = (0 : Int)) (∃ s31, cell hb28 (a25.add 2) = some (S s31) /\ (∃ s32, cell hb28 x3 = some (S s32) /\ (Spl (s31 = s32) (∃ p33, cell hb28 x2 = some (.pointer p33) /\ (HCalls Tryz.prog 57 ⟨[.pointer p33, .int .i64 p11]⟩ hb28 fun v34 h35 => Fin hb28 h35 fun h36 => Kr (markD h.size :: ds) h36)) (∃ i37, cell hb28 (a25.add 1) = some (.int .u8 i37) /\ (∃ s38, cell hb28 (a25.add 2) = some (S s38) /\ (HCalls Tryz.prog 162 ⟨[.int .u8 i37, S s38]⟩ hb28 fun v39 h40 => vBool v39 fun b41 => cond b41 (Fin hb28 h40 fun h42 => Kr (markD h.size :: ds) h42) (Kc hb28 h40))))))) (∃ i43, cell hb28 (a25.add 1) = some (.int .u8 i43) /\ (∃ s44, cell hb28 (a25.add 2) = some (S s44) /\ (HCalls Tryz.prog 162 ⟨[.int .u8 i43, S s44]⟩ hb28 fun v45 h46 => vBool v45 fun b47 => cond b47 (Fin hb28 h46 fun h48 => Kr (markD h.size :: ds) h48) (Kc hb28 h46))))))
abbrev n4 (x2 x3 : Addr) (x10 : Value) (ds : List Deferred) (Kn Ke0 Kr : T0) (h : H) : Prop := Ranges Tryz.prog x10 2 h (fun l49 Mid Kc Fin h1 => uncons l49 fun e50 l51 => vInt .i64 e50 fun i52 => uncons l51 fun e53 l54 => vAgg e53 fun l55 => uncons l55 fun e56 l57 => vInt .i64 e56 fun i58 => uncons l57 fun e59 l60 => vInt .u8 e59 fun i61 => uncons l60 fun e62 l63 => vStr e62 fun s64 => uncons l63 fun e65 l66 => vInt .u8 e65 fun i67 => unnil l66 (unnil l54 (n4_rd x2 x3 x10 ds Kn Ke0 Kr h i52 i58 i61 s64 i67 Mid Kc Fin h1))) (fun h4 => Kn (markD h.size :: ds) h4)
theorem n4_ok (x2 x3 : Addr) (x10 : Value) (ds : List Deferred) (Kn Ke0 Kr : T0) (g : Env) (hg : E3 g x2 x3 x10 ds) (h : H) (hS : n4 x2 x3 x10 ds Kn Ke0 Kr h) : wpC none Tryz.prog 35 n3_c1 (Q1 Kn Ke0 Kr) g h := by
  obtain ⟨hg2, hg3, hg10, hds⟩ := hg
  subst hds
  have ho : ((((⟨g.v, g.ds⟩ : Env).upd (some 2) (.pointer (some x2))).upd (some 3) (.pointer (some x3))).upd (some 10) x10 : Env) = g := by rw [env_ds rfl, upd_self hg2, upd_self hg3, upd_self hg10]
  have hc : n3_c1 = .rangeFunc (.tmp 10) #[11, 12] n4_c1 n4_c2 := by kernel_rfl
  rw [hc]
  refine wpC_range (f := x10) (rd := (fun l49 Mid Kc Fin h1 => uncons l49 fun e50 l51 => vInt .i64 e50 fun i52 => uncons l51 fun e53 l54 => vAgg e53 fun l55 => uncons l55 fun e56 l57 => vInt .i64 e56 fun i58 => uncons l57 fun e59 l60 => vInt .u8 e59 fun i61 => uncons l60 fun e62 l63 => vStr e62 fun s64 => uncons l63 fun e65 l66 => vInt .u8 e65 fun i67 => unnil l66 (unnil l54 (n4_rd x2 x3 x10 g.ds Kn Ke0 Kr h i52 i58 i61 s64 i67 Mid Kc Fin h1)))) (done := (fun h4 => Kn (markD h.size :: g.ds) h4)) ?_ hS ?_ ?_
  · rw [<- ho]; kernel_rfl
  · intro h4 hd
    have e : (Kn (markD h.size :: g.ds) h4) = (Q1 Kn Ke0 Kr) .normal ⟨((((⟨g.v, g.ds⟩ : Env).upd (some 2) (.pointer (some x2))).upd (some 3) (.pointer (some x3))).upd (some 10) x10).v, markD h.size :: g.ds⟩ h4 := by kernel_rfl
    rw [ho] at e
    exact e ▸ hd
  · intro L x Mid Kc Fin h1 hM hx
    obtain ⟨u68, l69, rfl, q70⟩ := uncons_ok hx
    obtain ⟨y71, rfl, q72⟩ := vInt_ok q70
    obtain ⟨u73, l74, rfl, q75⟩ := uncons_ok q72
    obtain ⟨l76, rfl, q77⟩ := vAgg_ok q75
    obtain ⟨u78, l79, rfl, q80⟩ := uncons_ok q77
    obtain ⟨y81, rfl, q82⟩ := vInt_ok q80
    obtain ⟨u83, l84, rfl, q85⟩ := uncons_ok q82
    obtain ⟨y86, rfl, q87⟩ := vInt_ok q85
    obtain ⟨u88, l89, rfl, q90⟩ := uncons_ok q87
    obtain ⟨y91, rfl, q92⟩ := vStr_ok q90
    obtain ⟨u93, l94, rfl, q95⟩ := uncons_ok q92
    obtain ⟨y96, rfl, q97⟩ := vInt_ok q95
    obtain ⟨rfl, q98⟩ := unnil_ok q97
    obtain ⟨rfl, q99⟩ := unnil_ok q98
    have e : (n4_rd x2 x3 x10 g.ds Kn Ke0 Kr h y71 y81 y86 y91 y96 Mid Kc Fin h1) = wpx (some L) Tryz.prog 35 n4_c1 (thenX (fun g1 he => Mid he fun hb => wpx (some L) Tryz.prog 35 n4_c2 (rpost Kc Fin (Q1 Kn Ke0 Kr) ⟨((((⟨g.v, g.ds⟩ : Env).upd (some 2) (.pointer (some x2))).upd (some 3) (.pointer (some x3))).upd (some 10) x10).v, markD h.size :: g.ds⟩ hb) g1 hb) fun _ _ _ => False) (setps ((((⟨g.v, g.ds⟩ : Env).upd (some 2) (.pointer (some x2))).upd (some 3) (.pointer (some x3))).upd (some 10) x10) [11, 12] [.int .i64 y71, (.agg ⟨[.int .i64 y81, .int .u8 y86, S y91, .int .u8 y96]⟩)]) h1 := by kernel_rfl
    rw [ho] at e
    exact (wpx_ok (by kernel_rfl) _ _ _ _ (by kernel_rfl) (e ▸ q99)).mono (thenX_mono fun g1 he hm => hM he _ _ (fun hb => wpx_ok (by kernel_rfl) _ _ _ _ (by kernel_rfl)) hm)
abbrev n3 (x2 x3 : Addr) (x10 : Value) (ds : List Deferred) (Kn Kr : T0) (h : H) : Prop := n4 x2 x3 x10 ds Kn Kn Kr h
theorem n3_ok (x2 x3 : Addr) (x10 : Value) (ds : List Deferred) (Kn Kr : T0) (g : Env) (hg : E3 g x2 x3 x10 ds) (h : H) (hS : n3 x2 x3 x10 ds Kn Kr h) : wpC none Tryz.prog 35 n2_c2 (Q0 Kn Kr) g h := by
  refine wpC_block' (id := 0) (x := n3_c1) (by kernel_rfl) (n4_ok x2 x3 x10 ds Kn Kn Kr g hg h hS) ?_
  intro e g' h' hq
  cases e <;> exact hq
def Q2 (Kn : T3) (Kr : T0) : XPost
  | .normal, g, h => D3 Kn g h
  | .ret, g, h => D0 Kr g h
  | _, _, _ => False
abbrev n2 (x2 x3 : Addr) (ds : List Deferred) (Kn Kr : T0) (h : H) : Prop :=
  ∃ p100, cell h x2 = some (.pointer p100) /\ (vSome p100 fun a101 => ∃ s102b s102n s102c, cell h (a101.add 1) = some (.slice s102b s102n s102c) /\ (HCalls Tryz.prog 161 ⟨[.slice s102b s102n s102c]⟩ h fun v103 h104 => n3 x2 x3 v103 ds Kn Kr h104))
theorem n2_ok (x2 x3 : Addr) (ds : List Deferred) (Kn Kr : T0) (g : Env) (hg : E2 g x2 x3 ds) (h : H) (hS : n2 x2 x3 ds Kn Kr h) : wpC none Tryz.prog 35 n1_c2 (Q0 Kn Kr) g h := by
  obtain ⟨hg2, hg3, hds⟩ := hg
  refine wpC_seq' (x := n2_c1) (y := n2_c2) (Q' := (Q2 (fun z2 z3 z10 zds h => n3 z2 z3 z10 zds Kn Kr h) Kr)) (by kernel_rfl) ?_ ?_
  · refine wpC_of_wpx (by kernel_rfl) (by kernel_rfl) (g' := ((⟨g.v, ds⟩ : Env).upd (some 2) (.pointer (some x2))).upd (some 3) (.pointer (some x3))) (by rw [env_ds hds, upd_self hg2, upd_self hg3]) ?_
    have e : (n2 x2 x3 ds Kn Kr h) = wpx none Tryz.prog 35 n2_c1 (Q2 (fun z2 z3 z10 zds h => n3 z2 z3 z10 zds Kn Kr h) Kr) (((⟨g.v, ds⟩ : Env).upd (some 2) (.pointer (some x2))).upd (some 3) (.pointer (some x3))) h := by kernel_rfl
    exact e ▸ hS
  · intro e g' h' hq
    cases e with
    | normal =>
      have hq : D3 (fun z2 z3 z10 zds h => n3 z2 z3 z10 zds Kn Kr h) g' h' := hq
      obtain ⟨y2, y3, y10, yds, hg', hq⟩ := D3_ok hq
      exact n3_ok y2 y3 y10 yds Kn Kr g' hg' h' hq
    | _ => exact hq
def Q3 (Kn : T2) (Kr : T0) : XPost
  | .normal, g, h => D2 Kn g h
  | .ret, g, h => D0 Kr g h
  | _, _, _ => False
abbrev n1 (x0 : Option Addr) (x1 : List UInt8) (ds : List Deferred) (Kn Kr : T0) (h : H) : Prop :=
  newx h #[.pointer x0] 35 fun a105 h106 => newx h106 #[S x1] 9 fun a107 h108 => n2 a105 a107 ds Kn Kr h108
theorem n1_ok (x0 : Option Addr) (x1 : List UInt8) (ds : List Deferred) (Kn Kr : T0) (g : Env) (hg : E1 g x0 x1 ds) (h : H) (hS : n1 x0 x1 ds Kn Kr h) : wpC none Tryz.prog 35 code (Q0 Kn Kr) g h := by
  obtain ⟨hg0, hg1, hds⟩ := hg
  refine wpC_seq' (x := n1_c1) (y := n1_c2) (Q' := (Q3 (fun z2 z3 zds h => n2 z2 z3 zds Kn Kr h) Kr)) (by kernel_rfl) ?_ ?_
  · refine wpC_of_wpx (by kernel_rfl) (by kernel_rfl) (g' := ((⟨g.v, ds⟩ : Env).upd (some 0) (.pointer x0)).upd (some 1) (S x1)) (by rw [env_ds hds, upd_self hg0, upd_self hg1]) ?_
    have e : (n1 x0 x1 ds Kn Kr h) = wpx none Tryz.prog 35 n1_c1 (Q3 (fun z2 z3 zds h => n2 z2 z3 zds Kn Kr h) Kr) (((⟨g.v, ds⟩ : Env).upd (some 0) (.pointer x0)).upd (some 1) (S x1)) h := by kernel_rfl
    exact e ▸ hS
  · intro e g' h' hq
    cases e with
    | normal =>
      have hq : D2 (fun z2 z3 zds h => n2 z2 z3 zds Kn Kr h) g' h' := hq
      obtain ⟨y2, y3, yds, hg', hq⟩ := D2_ok hq
      exact n2_ok y2 y3 yds Kn Kr g' hg' h' hq
    | _ => exact hq
abbrev asks (x0 : Option Addr) (x1 : List UInt8) (K : Value -> H -> Prop) (h : H) : Prop := n1 x0 x1 [] (fun ds h => leaveX ds h fun h => K (.tuple ⟨[]⟩) h) (fun ds h => leaveX ds h fun h => K (.tuple ⟨[]⟩) h) h
theorem ok (x0 : Option Addr) (x1 : List UInt8) (K : Value -> H -> Prop) (h : H) (hS : asks x0 x1 K h) : HCalls Tryz.prog 101 ⟨[.pointer x0, S x1]⟩ h K := by
  refine calls_of_wpC (c := code) Tryz.func101 (by kernel_rfl) (Nat.le_of_ble_eq_true (by kernel_rfl)) ?_
  refine (n1_ok x0 x1 [] (fun ds h => leaveX ds h fun h => K (.tuple ⟨[]⟩) h) (fun ds h => leaveX ds h fun h => K (.tuple ⟨[]⟩) h) (env0 [.pointer x0, S x1]) ⟨rfl, rfl, rfl⟩ h hS).mono ?_
  intro e g' h' hq
  cases e with
  | normal =>
    have hq : D0 (fun ds h => leaveX ds h fun h => K (.tuple ⟨[]⟩) h) g' h' := hq
    obtain ⟨ds, hd, hq⟩ := D0_ok hq
    show leaveX g'.ds h' _
    rw [hd]
    show leaveX ds h' fun h => K (.tuple ⟨[]⟩) h
    exact hq
  | ret =>
    have hq : D0 (fun ds h => leaveX ds h fun h => K (.tuple ⟨[]⟩) h) g' h' := hq
    obtain ⟨ds, hd, hq⟩ := D0_ok hq
    show leaveX g'.ds h' _
    rw [hd]
    show leaveX ds h' fun h => K (.tuple ⟨[]⟩) h
    exact hq
  | _ => exact hq
end Sx.adopt_Close
namespace Sx.adopt_Run
abbrev L0 : List Sl := [.o 4 .b]
abbrev L3 : List Sl := []
abbrev L4 : List Sl := [.o 0 .p, .o 1 .s, .o 6 .p, .o 41 (.i .i64)]
abbrev L5 : List Sl := [.o 0 .p, .o 1 .s, .o 6 .p, .o 41 (.i .i64), .o 42 .b]
abbrev L2 : List Sl := [.o 0 .p, .o 1 .s, .o 6 .p]
abbrev L1 : List Sl := [.o 0 .p, .o 1 .s]
abbrev L7 : List Sl := [.o 0 .p, .o 1 .s, .o 28 .b]
abbrev L6 : List Sl := [.o 0 .p, .o 1 .s, .o 5 .a]
abbrev T0 := TK L0
abbrev T3 := TK L3
abbrev T4 := TK L4
abbrev T1 := TK L1
variable (x0 : Option Addr) (x1 : List UInt8) (x5 : Addr) (x6 : Option Addr) (x28 : Bool) (x41 : Int) (x42 : Bool)
abbrev n5 (Kn Kr : T0) (h : H) : Prop :=
  Kr true h
abbrev n10 (Kn : T4) (Ke0 : T3) (Kr : T0) (h : H) : Prop :=
  cond x42 (vSome x0 fun a1 => ∃ s2b s2n s2c, cell h (a1.add 2) = some (.slice s2b s2n s2c) /\ (HCalls Tryz.prog 152 ⟨[.slice s2b s2n s2c, S x1]⟩ h fun v3 h4 => vInt .i64 v3 fun i5 => Spl (i5 < (0 : Int)) (Kr false h4) (HCalls Tryz.prog 202 ⟨[.pointer x6, .int .i64 i5]⟩ h4 fun v6 h7 => vBool v6 fun b8 => cond b8 (Rng .i64 (x41 + (1 : Int)) /\ (Kn x0 x1 x6 (x41 + (1 : Int)) h7)) (Ke0 h7)))) (Ke0 h)
abbrev n9 (x0 : Option Addr) (x1 : List UInt8) (x6 : Option Addr) (x41 : Int) (Kn : T4) (Ke0 : T3) (Kr : T0) (h : H) : Prop :=
  sqF L5 (fun K3 => Spl (x41 < (8 : Int)) (K3 x0 x1 x6 x41 true h) (K3 x0 x1 x6 x41 false h)) fun x0 x1 x6 x41 x42 h => n10 x0 x1 x6 x41 x42 Kn Ke0 Kr h
abbrev n8_B (Kn Ke0 : T3) (Kr : T0) : T4 -> T4 := fun K2 x0 x1 x6 x41 h => n9 x0 x1 x6 x41 K2 Ke0 Kr h
abbrev n8_L (Kn Ke0 : T3) (Kr : T0) : Nat -> T4 := LP L4 (n8_B Kn Ke0 Kr)
abbrev n6 (x0 : Option Addr) (x1 : List UInt8) (x6 : Option Addr) (Kn : T3) (Kr : T0) (h : H) : Prop :=
  sqF L4 (fun K4 => K4 x0 x1 x6 (0 : Int) h) fun x0 x1 x6 x41 h => lpF L4 (n8_B Kn Kn Kr) fun K2 => K2 x0 x1 x6 x41 h
abbrev n4 (Kn Kr : T0) (h : H) : Prop :=
  sqF L3 (fun K1 => n6 x0 x1 x6 K1 Kr h) fun h => n5 Kn Kr h
abbrev n3 (x0 : Option Addr) (x1 : List UInt8) (Kn Kr : T0) (h : H) : Prop :=
  sqF L2 (fun K5 => newx h ⟨[.pointer x0, S x1, .int .i64 (0 : Int), .int .i64 (0 : Int), .int .u8 (0 : Int), S ([] : List UInt8), .int .u8 (0 : Int), .int .i64 (0 : Int)]⟩ 168 fun a9 h10 => K5 x0 x1 (some a9) h10) fun x0 x1 x6 h => n4 x0 x1 x6 Kn Kr h
abbrev n13 (Kn : T1) (Kr : T0) (h : H) : Prop :=
  cond x28 (vSome x0 fun a11 => ∃ s12b s12n s12c, cell h (a11.add 1) = some (.slice s12b s12n s12c) /\ (Rng .i64 ((s12n : Int) - (1 : Int)) /\ (HCalls Tryz.prog 57 ⟨[.pointer x0, .int .i64 ((s12n : Int) - (1 : Int))]⟩ h fun v13 h14 => Kr true h14))) (Kn x0 x1 h)
abbrev n12 (x0 : Option Addr) (x1 : List UInt8) (x5 : Addr) (Kn : T1) (Kr : T0) (h : H) : Prop :=
  sqF L7 (fun K7 => ∃ i15, cell h (x5.add 1) = some (.int .u8 i15) /\ (Spl (i15 = (0 : Int)) (∃ s16, cell h (x5.add 2) = some (S s16) /\ (Spl (s16 = x1) (vSome x0 fun a17 => ∃ s18b s18n s18c, cell h (a17.add 2) = some (.slice s18b s18n s18c) /\ (∃ i19, cell h (x5.add 0) = some (.int .i64 i19) /\ (HCalls Tryz.prog 201 ⟨[.slice s18b s18n s18c, .int .i64 i19]⟩ h fun v20 h21 => vInt .i64 v20 fun i22 => Spl (i22 < (0 : Int)) (K7 x0 x1 true h21) (K7 x0 x1 false h21)))) (K7 x0 x1 false h))) (K7 x0 x1 false h))) fun x0 x1 x28 h => n13 x0 x1 x28 Kn Kr h
abbrev n11 (x0 : Option Addr) (x1 : List UInt8) (Kn : T1) (Kr : T0) (h : H) : Prop :=
  sqF L6 (fun K8 => HCalls Tryz.prog 55 ⟨[.pointer x0]⟩ h fun v23 h24 => vAgg v23 fun l25 => uncons l25 fun e26 l27 => vInt .i64 e26 fun i28 => uncons l27 fun e29 l30 => vInt .u8 e29 fun i31 => uncons l30 fun e32 l33 => vStr e32 fun s34 => uncons l33 fun e35 l36 => vInt .u8 e35 fun i37 => unnil l36 (newx h24 ⟨[.int .i64 (0 : Int), .int .u8 (0 : Int), S ([] : List UInt8), .int .u8 (0 : Int)]⟩ 77 fun a38 h39 => stL a38 [.int .i64 i28, .int .u8 i31, S s34, .int .u8 i37] 0 h39 fun h40 => K8 x0 x1 a38 h40)) fun x0 x1 x5 h => n12 x0 x1 x5 Kn Kr h
abbrev n2 (x0 : Option Addr) (x1 : List UInt8) (Kn Kr : T0) (h : H) : Prop :=
  sqF L1 (fun K6 => n11 x0 x1 K6 Kr h) fun x0 x1 h => n3 x0 x1 Kn Kr h
abbrev n1 (x0 : Option Addr) (x1 : List UInt8) (Kn Kr : T0) (h : H) : Prop :=
  sqF L1 (fun K9 => K9 x0 x1 h) fun x0 x1 h => n2 x0 x1 Kn Kr h
variable (K : Value -> H -> Prop) (h : H)
abbrev asks : Prop := cF L0 (fun Kr => n1 x0 x1 Kr Kr h) fun y4 h => K (.bool y4) h
theorem ok (hS : asks x0 x1 K h) : HCalls Tryz.prog 160 ⟨[.pointer x0, S x1]⟩ h K :=
  cl Tryz.func160 hS (fun hg hS => sq (l := L1) hg hS fun hg hS => sc (l := L1) hS (fun hS => sq (l := L6) hg hS fun hg hS => sq (l := L7) hg hS fun hg hS => lf hg hS) fun hg hS => sq (l := L2) hg hS fun hg hS => sc (l := L3) hS (fun hS => sq (l := L4) hg hS fun hg hS => bl (b := 0) (lp hg hS fun hg hS => sq (l := L5) hg hS fun hg hS => lf hg hS)) fun hg hS => lf hg hS) fun hg hS => rt hg hS
end Sx.adopt_Run
namespace Sx.adopt_agency_round
abbrev L0 : List Sl := [.o 4 .b]
abbrev L4 : List Sl := [.o 0 .p, .o 5 (.i .i64), .o 6 (.i .i64)]
abbrev L3 : List Sl := [.o 0 .p, .o 1 (.i .i64), .o 5 (.i .i64), .o 6 (.i .i64)]
abbrev L2 : List Sl := [.o 0 .p, .o 1 (.i .i64), .o 5 (.i .i64)]
abbrev L1 : List Sl := [.o 0 .p, .o 1 (.i .i64)]
abbrev T0 := TK L0
variable (x0 : Option Addr) (x1 x5 x6 : Int)
abbrev n7 (Kn Kr : T0) (h : H) : Prop :=
  Rng .i64 (x5 + (1 : Int)) /\ (Rng .i64 (x6 + (x5 + (1 : Int))) /\ (vSome x0 fun a1 => ∃ p2, cell h (a1.add 0) = some (.pointer p2) /\ (vSome p2 fun a3 => ∃ s4b s4n s4c, cell h (a3.add 1) = some (.slice s4b s4n s4c) /\ ((0 <= (x6 + (x5 + (1 : Int))) /\ (x6 + (x5 + (1 : Int))) < (s4n : Int)) /\ (vSome s4b fun a5 => ∃ i6, cell h (((a5.add (Int.toNat (x6 + (x5 + (1 : Int))) * 4))).add 0) = some (.int .i64 i6) /\ (∃ i7, cell h (((a5.add (Int.toNat (x6 + (x5 + (1 : Int))) * 4))).add 1) = some (.int .u8 i7) /\ (∃ s8, cell h (((a5.add (Int.toNat (x6 + (x5 + (1 : Int))) * 4))).add 2) = some (S s8) /\ (∃ i9, cell h (((a5.add (Int.toNat (x6 + (x5 + (1 : Int))) * 4))).add 3) = some (.int .u8 i9) /\ (vSome x0 fun a10 => stL (a10.add 3) [.int .i64 i6, .int .u8 i7, S s8, .int .u8 i9] 0 h fun h11 => vSome x0 fun a12 => ∃ p13, cell h11 (a12.add 0) = some (.pointer p13) /\ (vSome p13 fun a14 => ∃ s15b s15n s15c, cell h11 (a14.add 1) = some (.slice s15b s15n s15c) /\ (Rng .i64 (x5 - (1 : Int)) /\ ((0 <= (x5 - (1 : Int)) /\ (x5 - (1 : Int)) < (s15n : Int)) /\ (vSome s15b fun a16 => ∃ i17, cell h11 (((a16.add (Int.toNat (x5 - (1 : Int)) * 4))).add 0) = some (.int .i64 i17) /\ (∃ i18, cell h11 (((a16.add (Int.toNat (x5 - (1 : Int)) * 4))).add 1) = some (.int .u8 i18) /\ (∃ s19, cell h11 (((a16.add (Int.toNat (x5 - (1 : Int)) * 4))).add 2) = some (S s19) /\ (∃ i20, cell h11 (((a16.add (Int.toNat (x5 - (1 : Int)) * 4))).add 3) = some (.int .u8 i20) /\ (newx h11 ⟨[.int .i64 (0 : Int), .int .u8 (0 : Int), S ([] : List UInt8), .int .u8 (0 : Int)]⟩ 77 fun a21 h22 => stL a21 [.int .i64 i17, .int .u8 i18, S s19, .int .u8 i20] 0 h22 fun h23 => HCalls Tryz.prog 226 ⟨[.pointer x0, (.int .i64 (x6 + (x5 + (1 : Int))))]⟩ h23 fun v24 h25 => vInt .i64 v24 fun i26 => vSome x0 fun a27 => ∃ p28, cell h25 (a27.add 0) = some (.pointer p28) /\ (∃ i29, cell h25 (a21.add 0) = some (.int .i64 i29) /\ (∃ i30, cell h25 (a21.add 1) = some (.int .u8 i30) /\ (∃ s31, cell h25 (a21.add 2) = some (S s31) /\ (∃ i32, cell h25 (a21.add 3) = some (.int .u8 i32) /\ (HCalls Tryz.prog 54 ⟨[.pointer p28, (.agg ⟨[.int .i64 i29, .int .u8 i30, S s31, .int .u8 i32]⟩)]⟩ h25 fun v33 h34 => vTup v33 fun l35 => uncons l35 fun e36 l37 => vInt .i64 e36 fun i38 => uncons l37 fun e39 l40 => vInt .i64 e39 fun i41 => unnil l40 (vSome x0 fun a42 => ∃ p43, cell h34 (a42.add 0) = some (.pointer p43) /\ (vSome p43 fun a44 => ∃ p45, cell h34 (a44.add 0) = some (.pointer p45) /\ (HCalls Tryz.prog 65 ⟨[.pointer p45, .int .i64 i38, .int .i64 i41, .int .i64 i26]⟩ h34 fun v46 h47 => vBool v46 fun b48 => cond b48 (HCalls Tryz.prog 227 ⟨[.pointer x0]⟩ h47 fun v49 h50 => Kr true h50) (HCalls Tryz.prog 227 ⟨[.pointer x0]⟩ h47 fun v51 h52 => Kr true h52))))))))))))))))))))))))))
abbrev n6 (x0 : Option Addr) (x1 x5 x6 : Int) (Kn Kr : T0) (h : H) : Prop :=
  sqF L4 (fun K1 => Spl (x6 < (0 : Int)) (vSome x0 fun a53 => ∃ p54, cell h (a53.add 0) = some (.pointer p54) /\ (HCalls Tryz.prog 57 ⟨[.pointer p54, .int .i64 x5]⟩ h fun v55 h56 => HCalls Tryz.prog 223 ⟨[.pointer x0, .int .i64 x1]⟩ h56 fun v57 h58 => Kr false h58)) (K1 x0 x5 x6 h)) fun x0 x5 x6 h => n7 x0 x5 x6 Kn Kr h
abbrev n5 (x0 : Option Addr) (x1 x5 : Int) (Kn Kr : T0) (h : H) : Prop :=
  sqF L3 (fun K2 => vSome x0 fun a59 => ∃ p60, cell h (a59.add 0) = some (.pointer p60) /\ (vSome p60 fun a61 => ∃ s62b s62n s62c, cell h (a61.add 1) = some (.slice s62b s62n s62c) /\ (Rng .i64 (x5 + (1 : Int)) /\ ((0 <= (x5 + (1 : Int)) /\ (x5 + (1 : Int)) <= (s62n : Int) /\ (s62n : Int) <= (s62c : Int)) /\ (HCalls Tryz.prog 183 ⟨[(.slice (if s62c = Int.toNat (x5 + (1 : Int)) then s62b else Option.map (fun q => q.add (Int.toNat (x5 + (1 : Int)) * 4)) s62b) (Int.toNat (s62n : Int) - Int.toNat (x5 + (1 : Int))) (s62c - Int.toNat (x5 + (1 : Int)))), (.func (.func 225) ⟨[]⟩ ⟨[]⟩)]⟩ h fun v63 h64 => vInt .i64 v63 fun i65 => K2 x0 x1 x5 i65 h64))))) fun x0 x1 x5 x6 h => n6 x0 x1 x5 x6 Kn Kr h
abbrev n4 (x0 : Option Addr) (x1 x5 : Int) (Kn Kr : T0) (h : H) : Prop :=
  sqF L2 (fun K3 => Spl (x5 < (0 : Int)) (HCalls Tryz.prog 223 ⟨[.pointer x0, .int .i64 x1]⟩ h fun v66 h67 => Kr false h67) (HCalls Tryz.prog 224 ⟨[.pointer x0, .int .i64 x5]⟩ h fun v68 h69 => vBool v68 fun b70 => cond b70 (K3 x0 x1 x5 h69) (Kr false h69))) fun x0 x1 x5 h => n5 x0 x1 x5 Kn Kr h
abbrev n3 (x0 : Option Addr) (x1 : Int) (Kn Kr : T0) (h : H) : Prop :=
  sqF L2 (fun K4 => vSome x0 fun a71 => ∃ i72, cell h (a71.add 2) = some (.int .i64 i72) /\ (HCalls Tryz.prog 222 ⟨[.pointer x0, .int .i64 i72]⟩ h fun v73 h74 => vInt .i64 v73 fun i75 => K4 x0 x1 i75 h74)) fun x0 x1 x5 h => n4 x0 x1 x5 Kn Kr h
abbrev n2 (x0 : Option Addr) (x1 : Int) (Kn Kr : T0) (h : H) : Prop :=
  sqF L1 (fun K5 => vSome x0 fun a76 => ∃ p77, cell h (a76.add 0) = some (.pointer p77) /\ (vSome p77 fun a78 => ∃ s79b s79n s79c, cell h (a78.add 2) = some (.slice s79b s79n s79c) /\ ((0 <= x1 /\ x1 < (s79n : Int)) /\ (vSome s79b fun a80 => ∃ i81, cell h ((a80.add (Int.toNat x1 * 3)).add 0) = some (.int .i64 i81) /\ (vSome x0 fun a82 => stL (a82.add 2) [.int .i64 i81] 0 h fun h83 => vSome x0 fun a84 => stL (a84.add 7) [.int .i64 x1] 0 h83 fun h85 => K5 x0 x1 h85))))) fun x0 x1 h => n3 x0 x1 Kn Kr h
abbrev n1 (x0 : Option Addr) (x1 : Int) (Kn Kr : T0) (h : H) : Prop :=
  sqF L1 (fun K6 => K6 x0 x1 h) fun x0 x1 h => n2 x0 x1 Kn Kr h
variable (K : Value -> H -> Prop) (h : H)
abbrev asks : Prop := cF L0 (fun Kr => n1 x0 x1 Kr Kr h) fun y4 h => K (.bool y4) h
theorem ok (hS : asks x0 x1 K h) : HCalls Tryz.prog 202 ⟨[.pointer x0, .int .i64 x1]⟩ h K :=
  cl Tryz.func202 hS (fun hg hS => sq (l := L1) hg hS fun hg hS => sq (l := L1) hg hS fun hg hS => sq (l := L2) hg hS fun hg hS => sq (l := L2) hg hS fun hg hS => sq (l := L3) hg hS fun hg hS => sq (l := L4) hg hS fun hg hS => lf hg hS) fun hg hS => rt hg hS
end Sx.adopt_agency_round
namespace Sx.adopt_agency_round_1
abbrev L0 : List Sl := [.o 2 .b]
abbrev T0 := TK L0
variable (x0_0 x0_1 : Int) (x0_2 : List UInt8) (x0_3 : Int)
abbrev n1 (Kn Kr : T0) (h : H) : Prop :=
  newx h ⟨[.int .i64 x0_0, .int .u8 x0_1, S x0_2, .int .u8 x0_3]⟩ 77 fun a1 h2 => ∃ i3, cell h2 (a1.add 1) = some (.int .u8 i3) /\ (∃ s4, cell h2 (a1.add 2) = some (S s4) /\ (HCalls Tryz.prog 162 ⟨[.int .u8 i3, S s4]⟩ h2 fun v5 h6 => vBool v5 fun b7 => cond b7 (Kr true h6) (Kr false h6)))
variable (K : Value -> H -> Prop) (h : H)
abbrev asks : Prop := cF L0 (fun Kr => n1 x0_0 x0_1 x0_2 x0_3 Kr Kr h) fun y2 h => K (.bool y2) h
theorem ok (hS : asks x0_0 x0_1 x0_2 x0_3 K h) : HCalls Tryz.prog 225 ⟨[(.agg ⟨[.int .i64 x0_0, .int .u8 x0_1, S x0_2, .int .u8 x0_3]⟩)]⟩ h K :=
  cl Tryz.func225 hS (fun hg hS => lf hg hS) fun hg hS => rt hg hS
end Sx.adopt_agency_round_1
namespace Sx.adopt_agency_at
abbrev L0 : List Sl := [.o 4 (.i .i64)]
abbrev T0 := TK L0
variable (x0 : Option Addr) (x1 : Int)
abbrev n1 (Kn Kr : T0) (h : H) : Prop :=
  newx h #[.int .i64 x1] 3 fun a1 h2 => vSome x0 fun a3 => ∃ p4, cell h2 (a3.add 0) = some (.pointer p4) /\ (vSome p4 fun a5 => ∃ s6b s6n s6c, cell h2 (a5.add 1) = some (.slice s6b s6n s6c) /\ (HCalls Tryz.prog 183 ⟨[.slice s6b s6n s6c, (.func (.func 236) ⟨[]⟩ ⟨[.pointer (some a1)]⟩)]⟩ h2 fun v7 h8 => vInt .i64 v7 fun i9 => Kr i9 h8))
variable (K : Value -> H -> Prop) (h : H)
abbrev asks : Prop := cF L0 (fun Kr => n1 x0 x1 Kr Kr h) fun y4 h => K (.int .i64 y4) h
theorem ok (hS : asks x0 x1 K h) : HCalls Tryz.prog 222 ⟨[.pointer x0, .int .i64 x1]⟩ h K :=
  cl Tryz.func222 hS (fun hg hS => lf hg hS) fun hg hS => rt hg hS
end Sx.adopt_agency_at
namespace Sx.adopt_agency_at_1
abbrev L0 : List Sl := [.o 3 .b]
abbrev T0 := TK L0
variable (x0_0 x0_1 : Int) (x0_2 : List UInt8) (x0_3 : Int) (x1 : Addr)
abbrev n1 (Kn Kr : T0) (h : H) : Prop :=
  newx h ⟨[.int .i64 x0_0, .int .u8 x0_1, S x0_2, .int .u8 x0_3]⟩ 77 fun a1 h2 => ∃ i3, cell h2 (a1.add 0) = some (.int .i64 i3) /\ (∃ i4, cell h2 x1 = some (.int .i64 i4) /\ (Spl (i3 = i4) (Kr true h2) (Kr false h2)))
variable (K : Value -> H -> Prop) (h : H)
abbrev asks : Prop := cF L0 (fun Kr => n1 x0_0 x0_1 x0_2 x0_3 x1 Kr Kr h) fun y3 h => K (.bool y3) h
theorem ok (hS : asks x0_0 x0_1 x0_2 x0_3 x1 K h) : HCalls Tryz.prog 236 ⟨[(.agg ⟨[.int .i64 x0_0, .int .u8 x0_1, S x0_2, .int .u8 x0_3]⟩), .pointer (some x1)]⟩ h K :=
  cl Tryz.func236 hS (fun hg hS => lf hg hS) fun hg hS => rt hg hS
end Sx.adopt_agency_at_1
namespace Sx.adopt_agency_unmark
abbrev L0 : List Sl := []
abbrev L1 : List Sl := [.o 0 .p, .o 1 (.i .i64)]
abbrev T0 := TK L0
variable (x0 : Option Addr) (x1 : Int)
abbrev n2 (Kn Kr : T0) (h : H) : Prop :=
  vSome x0 fun a1 => ∃ i2, cell h (a1.add 7) = some (.int .i64 i2) /\ (Spl (x1 < i2) (vSome x0 fun a3 => ∃ i4, cell h (a3.add 7) = some (.int .i64 i4) /\ (Rng .i64 (i4 - (1 : Int)) /\ (vSome x0 fun a5 => stL (a5.add 7) [.int .i64 (i4 - (1 : Int))] 0 h fun h6 => Kn h6))) (Kn h))
abbrev n1 (x0 : Option Addr) (x1 : Int) (Kn Kr : T0) (h : H) : Prop :=
  sqF L1 (fun K1 => (vSome x0 fun a7 => vSome x0 fun a8 => ∃ p9, cell h (a8.add 0) = some (.pointer p9) /\ (vSome p9 fun a10 => ∃ s11b s11n s11c, cell h (a10.add 2) = some (.slice s11b s11n s11c) /\ (Rng .i64 (x1 + (1 : Int)) /\ (HCalls Tryz.prog 63 ⟨[.slice s11b s11n s11c]⟩ h fun v12 h13 => vSlice v12 fun s14b s14n s14c => ExtH h h13 /\ (HCalls Tryz.prog 237 ⟨[.slice s14b s14n s14c, .int .i64 x1, .int .i64 (x1 + (1 : Int))]⟩ h13 fun v15 h16 => vSlice v15 fun s17b s17n s17c => ∃ p18, cell h16 (a7.add 0) = some (.pointer p18) /\ (vSome p18 fun a19 => stL (a19.add 2) [.slice s17b s17n s17c] 0 h16 fun h20 => K1 x0 x1 h20)))))) /\ (vSome x0 fun a21 => ∃ p22, cell h (a21.add 0) = some (.pointer p22) /\ (vSome x0 fun a23 => ∃ p24, cell h (a23.add 0) = some (.pointer p24) /\ (vSome p24 fun a25 => ∃ s26b s26n s26c, cell h (a25.add 2) = some (.slice s26b s26n s26c) /\ (Rng .i64 (x1 + (1 : Int)) /\ (HCalls Tryz.prog 63 ⟨[.slice s26b s26n s26c]⟩ h fun v27 h28 => vSlice v27 fun s29b s29n s29c => ExtH h h28 /\ (HCalls Tryz.prog 237 ⟨[.slice s29b s29n s29c, .int .i64 x1, .int .i64 (x1 + (1 : Int))]⟩ h28 fun v30 h31 => vSlice v30 fun s32b s32n s32c => vSome p22 fun a33 => stL (a33.add 2) [.slice s32b s32n s32c] 0 h31 fun h34 => K1 x0 x1 h34))))))) fun x0 x1 h => n2 x0 x1 Kn Kr h
variable (K : Value -> H -> Prop) (h : H)
abbrev asks : Prop := cF L0 (fun Kr => n1 x0 x1 Kr Kr h) fun h => K (.tuple ⟨[]⟩) h
theorem ok (hS : asks x0 x1 K h) : HCalls Tryz.prog 223 ⟨[.pointer x0, .int .i64 x1]⟩ h K :=
  cl Tryz.func223 hS (fun hg hS => sq (l := L1) hg hS fun hg hS => lf hg hS) fun hg hS => rt hg hS
end Sx.adopt_agency_unmark
namespace Sx.adopt_agency_scoped
abbrev L0 : List Sl := [.o 4 .b]
abbrev L2 : List Sl := []
abbrev L3 : List Sl := [.o 17 .l, .o 18 (.i .i64), .o 19 (.i .i64)]
abbrev L1 : List Sl := [.o 0 .p, .o 1 (.i .i64)]
abbrev T0 := TK L0
abbrev T2 := TK L2
abbrev T3 := TK L3
variable (x0 : Option Addr) (x1 : Int)
abbrev n3 (Kn Kr : T0) (h : H) : Prop :=
  Kr true h
abbrev n6_B (Kn Ke0 : T2) (Kr : T0) : T3 -> T3 := fun K2 x17b x17n x17c x18 x19 h => Spl (x19 < x18) ((0 <= x19 /\ x19 < (x17n : Int)) /\ (vSome x17b fun a1 => ∃ i2, cell h (((a1.add (Int.toNat x19 * 4))).add 0) = some (.int .i64 i2) /\ (∃ i3, cell h (((a1.add (Int.toNat x19 * 4))).add 1) = some (.int .u8 i3) /\ (∃ s4, cell h (((a1.add (Int.toNat x19 * 4))).add 2) = some (S s4) /\ (∃ i5, cell h (((a1.add (Int.toNat x19 * 4))).add 3) = some (.int .u8 i5) /\ (newx h ⟨[.int .i64 (0 : Int), .int .u8 (0 : Int), S ([] : List UInt8), .int .u8 (0 : Int)]⟩ 77 fun a6 h7 => stL a6 [.int .i64 i2, .int .u8 i3, S s4, .int .u8 i5] 0 h7 fun h8 => ∃ i9, cell h8 (a6.add 0) = some (.int .i64 i9) /\ (∃ i10, cell h8 (a6.add 1) = some (.int .u8 i10) /\ (∃ s11, cell h8 (a6.add 2) = some (S s11) /\ (∃ i12, cell h8 (a6.add 3) = some (.int .u8 i12) /\ (newx h8 #[.int .i64 (0 : Int), .int .u8 (0 : Int), (S ([42] : List UInt8)), .int .u8 (0 : Int), .int .i64 i9, .int .u8 i10, S s11, .int .u8 i12] 77 fun a13 h14 => newx h14 #[(S ([42] : List UInt8))] 9 fun a15 h16 => HCalls Tryz.prog 191 ⟨[.slice (some a13) 2 2, .int .u8 (0 : Int), .slice (some a15) 1 1]⟩ h16 fun v17 h18 => vBool v17 fun b19 => cond b19 (Rng .i64 (x19 + (1 : Int)) /\ (K2 x17b x17n x17c x18 (x19 + (1 : Int)) h18)) (Kr false h18))))))))))) (Ke0 h)
abbrev n6_L (Kn Ke0 : T2) (Kr : T0) : Nat -> T3 := LP L3 (n6_B Kn Ke0 Kr)
abbrev n4 (Kn : T2) (Kr : T0) (h : H) : Prop :=
  sqF L3 (fun K3 => vSome x0 fun a20 => ∃ p21, cell h (a20.add 0) = some (.pointer p21) /\ (vSome p21 fun a22 => ∃ s23b s23n s23c, cell h (a22.add 1) = some (.slice s23b s23n s23c) /\ (Rng .i64 (x1 + (1 : Int)) /\ ((0 <= (x1 + (1 : Int)) /\ (x1 + (1 : Int)) <= (s23n : Int) /\ (s23n : Int) <= (s23c : Int)) /\ (K3 (if s23c = Int.toNat (x1 + (1 : Int)) then s23b else Option.map (fun q => q.add (Int.toNat (x1 + (1 : Int)) * 4)) s23b) (Int.toNat (s23n : Int) - Int.toNat (x1 + (1 : Int))) (s23c - Int.toNat (x1 + (1 : Int))) (((Int.toNat (s23n : Int) - Int.toNat (x1 + (1 : Int))) : Nat) : Int) (0 : Int) h))))) fun x17b x17n x17c x18 x19 h => lpF L3 (n6_B Kn Kn Kr) fun K2 => K2 x17b x17n x17c x18 x19 h
abbrev n2 (Kn Kr : T0) (h : H) : Prop :=
  sqF L2 (fun K1 => n4 x0 x1 K1 Kr h) fun h => n3 Kn Kr h
abbrev n1 (x0 : Option Addr) (x1 : Int) (Kn Kr : T0) (h : H) : Prop :=
  sqF L1 (fun K4 => K4 x0 x1 h) fun x0 x1 h => n2 x0 x1 Kn Kr h
variable (K : Value -> H -> Prop) (h : H)
abbrev asks : Prop := cF L0 (fun Kr => n1 x0 x1 Kr Kr h) fun y4 h => K (.bool y4) h
theorem ok (hS : asks x0 x1 K h) : HCalls Tryz.prog 224 ⟨[.pointer x0, .int .i64 x1]⟩ h K :=
  cl Tryz.func224 hS (fun hg hS => sq (l := L1) hg hS fun hg hS => sc (l := L2) hS (fun hS => sq (l := L3) hg hS fun hg hS => bl (b := 0) (lp hg hS fun hg hS => lf hg hS)) fun hg hS => lf hg hS) fun hg hS => rt hg hS
end Sx.adopt_agency_scoped
namespace Sx.adopt_agency_climb
abbrev L0 : List Sl := [.o 4 (.i .i64)]
abbrev L3 : List Sl := [.o 5 (.i .i64)]
abbrev L2 : List Sl := [.o 0 .p, .o 1 (.i .i64), .o 5 (.i .i64), .o 6 (.i .i64)]
abbrev L7 : List Sl := [.o 0 .p, .o 1 (.i .i64), .o 5 (.i .i64), .o 6 (.i .i64), .o 9 (.i .i64)]
abbrev L6 : List Sl := [.o 0 .p, .o 1 (.i .i64), .o 5 (.i .i64), .o 6 (.i .i64), .o 8 (.i .i64), .o 9 (.i .i64)]
abbrev L5 : List Sl := [.o 0 .p, .o 1 (.i .i64), .o 5 (.i .i64), .o 6 (.i .i64), .o 7 .a, .o 8 (.i .i64)]
abbrev L4 : List Sl := [.o 0 .p, .o 1 (.i .i64), .o 5 (.i .i64), .o 6 (.i .i64), .o 7 .a]
abbrev L1 : List Sl := [.o 0 .p, .o 1 (.i .i64)]
abbrev T0 := TK L0
abbrev T3 := TK L3
abbrev T2 := TK L2
variable (x0 : Option Addr) (x1 x5 x6 : Int) (x7 : Addr) (x8 x9 : Int)
abbrev n6 (Kn Kr : T0) (h : H) : Prop :=
  Kr x5 h
abbrev n20 (Kn Ke1 : T2) (Ke0 : T3) (Kr : T0) (h : H) : Prop :=
  vSome x0 fun a1 => ∃ p2, cell h (a1.add 0) = some (.pointer p2) /\ (vSome p2 fun a3 => ∃ p4, cell h (a3.add 0) = some (.pointer p4) /\ (HCalls Tryz.prog 65 ⟨[.pointer p4, .int .i64 x9, .int .i64 (-1 : Int), .int .i64 x5]⟩ h fun v5 h6 => vBool v5 fun b7 => cond b7 (Kn x0 x1 x9 x6 h6) (Kn x0 x1 x9 x6 h6)))
abbrev n19 (x0 : Option Addr) (x1 x5 x6 x8 x9 : Int) (Kn Ke1 : T2) (Ke0 : T3) (Kr : T0) (h : H) : Prop :=
  sqF L7 (fun K3 => vSome x0 fun a8 => ∃ i9, cell h ((a8.add 3).add 0) = some (.int .i64 i9) /\ (Spl (x5 = i9) (Rng .i64 (x8 + (1 : Int)) /\ (vSome x0 fun a10 => stL (a10.add 7) [.int .i64 (x8 + (1 : Int))] 0 h fun h11 => K3 x0 x1 x5 x6 x9 h11)) (K3 x0 x1 x5 x6 x9 h))) fun x0 x1 x5 x6 x9 h => n20 x0 x1 x5 x6 x9 Kn Ke1 Ke0 Kr h
abbrev n18 (x0 : Option Addr) (x1 x5 x6 x8 x9 : Int) (Kn Ke1 : T2) (Ke0 : T3) (Kr : T0) (h : H) : Prop :=
  sqF L6 (fun K4 => vSome x0 fun a12 => ∃ p13, cell h (a12.add 0) = some (.pointer p13) /\ (vSome p13 fun a14 => ∃ s15b s15n s15c, cell h (a14.add 1) = some (.slice s15b s15n s15c) /\ (vSome x0 fun a16 => ∃ p17, cell h (a16.add 0) = some (.pointer p17) /\ (vSome p17 fun a18 => ∃ s19b s19n s19c, cell h (a18.add 2) = some (.slice s19b s19n s19c) /\ ((0 <= x1 /\ x1 < (s15n : Int)) /\ (vSome s15b fun a20 => stL ((a20.add (Int.toNat x1 * 4)).add 0) [.int .i64 x9] 0 h fun h21 => (0 <= x8 /\ x8 < (s19n : Int)) /\ (vSome s19b fun a22 => stL ((a22.add (Int.toNat x8 * 3)).add 0) [.int .i64 x9] 0 h21 fun h23 => K4 x0 x1 x5 x6 x8 x9 h23))))))) fun x0 x1 x5 x6 x8 x9 h => n19 x0 x1 x5 x6 x8 x9 Kn Ke1 Ke0 Kr h
abbrev n17 (x0 : Option Addr) (x1 x5 x6 : Int) (x7 : Addr) (x8 : Int) (Kn Ke1 : T2) (Ke0 : T3) (Kr : T0) (h : H) : Prop :=
  sqF L6 (fun K5 => vSome x0 fun a24 => ∃ p25, cell h (a24.add 0) = some (.pointer p25) /\ (vSome p25 fun a26 => ∃ p27, cell h (a26.add 0) = some (.pointer p27) /\ (∃ i28, cell h (x7.add 0) = some (.int .i64 i28) /\ (HCalls Tryz.prog 238 ⟨[.pointer p27, .int .i64 i28]⟩ h fun v29 h30 => vInt .i64 v29 fun i31 => K5 x0 x1 x5 x6 x8 i31 h30)))) fun x0 x1 x5 x6 x8 x9 h => n18 x0 x1 x5 x6 x8 x9 Kn Ke1 Ke0 Kr h
abbrev n16 (x0 : Option Addr) (x1 x5 x6 : Int) (x7 : Addr) (x8 : Int) (Kn Ke1 : T2) (Ke0 : T3) (Kr : T0) (h : H) : Prop :=
  sqF L5 (fun K6 => Spl (x8 < (0 : Int)) (vSome x0 fun a32 => ∃ p33, cell h (a32.add 0) = some (.pointer p33) /\ (∃ i34, cell h (x7.add 0) = some (.int .i64 i34) /\ (HCalls Tryz.prog 155 ⟨[.pointer p33, .int .i64 i34]⟩ h fun v35 h36 => Ke1 x0 x1 x5 x6 h36))) (K6 x0 x1 x5 x6 x7 x8 h)) fun x0 x1 x5 x6 x7 x8 h => n17 x0 x1 x5 x6 x7 x8 Kn Ke1 Ke0 Kr h
abbrev n15 (x0 : Option Addr) (x1 x5 x6 : Int) (x7 : Addr) (x8 : Int) (Kn Ke1 : T2) (Ke0 : T3) (Kr : T0) (h : H) : Prop :=
  sqF L5 (fun K7 => Spl (x8 ≥ (0 : Int)) (Spl (x6 > (3 : Int)) (HCalls Tryz.prog 223 ⟨[.pointer x0, .int .i64 x8]⟩ h fun v37 h38 => K7 x0 x1 x5 x6 x7 (-1 : Int) h38) (K7 x0 x1 x5 x6 x7 x8 h)) (K7 x0 x1 x5 x6 x7 x8 h)) fun x0 x1 x5 x6 x7 x8 h => n16 x0 x1 x5 x6 x7 x8 Kn Ke1 Ke0 Kr h
abbrev n14 (x0 : Option Addr) (x1 x5 x6 : Int) (x7 : Addr) (Kn Ke1 : T2) (Ke0 : T3) (Kr : T0) (h : H) : Prop :=
  sqF L5 (fun K8 => vSome x0 fun a39 => ∃ p40, cell h (a39.add 0) = some (.pointer p40) /\ (vSome p40 fun a41 => ∃ s42b s42n s42c, cell h (a41.add 2) = some (.slice s42b s42n s42c) /\ (∃ i43, cell h (x7.add 0) = some (.int .i64 i43) /\ (HCalls Tryz.prog 201 ⟨[.slice s42b s42n s42c, .int .i64 i43]⟩ h fun v44 h45 => vInt .i64 v44 fun i46 => K8 x0 x1 x5 x6 x7 i46 h45)))) fun x0 x1 x5 x6 x7 x8 h => n15 x0 x1 x5 x6 x7 x8 Kn Ke1 Ke0 Kr h
abbrev n13 (x0 : Option Addr) (x1 x5 x6 : Int) (x7 : Addr) (Kn Ke1 : T2) (Ke0 : T3) (Kr : T0) (h : H) : Prop :=
  sqF L4 (fun K9 => ∃ i47, cell h (x7.add 0) = some (.int .i64 i47) /\ (vSome x0 fun a48 => ∃ i49, cell h (a48.add 2) = some (.int .i64 i49) /\ (Spl (i47 = i49) (Ke0 x5 h) (K9 x0 x1 x5 x6 x7 h)))) fun x0 x1 x5 x6 x7 h => n14 x0 x1 x5 x6 x7 Kn Ke1 Ke0 Kr h
abbrev n12 (x0 : Option Addr) (x1 x5 x6 : Int) (Kn Ke1 : T2) (Ke0 : T3) (Kr : T0) (h : H) : Prop :=
  sqF L4 (fun K10 => vSome x0 fun a50 => ∃ p51, cell h (a50.add 0) = some (.pointer p51) /\ (vSome p51 fun a52 => ∃ s53b s53n s53c, cell h (a52.add 1) = some (.slice s53b s53n s53c) /\ ((0 <= x1 /\ x1 < (s53n : Int)) /\ (vSome s53b fun a54 => ∃ i55, cell h (((a54.add (Int.toNat x1 * 4))).add 0) = some (.int .i64 i55) /\ (∃ i56, cell h (((a54.add (Int.toNat x1 * 4))).add 1) = some (.int .u8 i56) /\ (∃ s57, cell h (((a54.add (Int.toNat x1 * 4))).add 2) = some (S s57) /\ (∃ i58, cell h (((a54.add (Int.toNat x1 * 4))).add 3) = some (.int .u8 i58) /\ (newx h ⟨[.int .i64 (0 : Int), .int .u8 (0 : Int), S ([] : List UInt8), .int .u8 (0 : Int)]⟩ 77 fun a59 h60 => stL a59 [.int .i64 i55, .int .u8 i56, S s57, .int .u8 i58] 0 h60 fun h61 => K10 x0 x1 x5 x6 a59 h61)))))))) fun x0 x1 x5 x6 x7 h => n13 x0 x1 x5 x6 x7 Kn Ke1 Ke0 Kr h
abbrev n11 (x0 : Option Addr) (x1 x5 x6 : Int) (Kn Ke1 : T2) (Ke0 : T3) (Kr : T0) (h : H) : Prop :=
  sqF L2 (fun K11 => Rng .i64 (x6 + (1 : Int)) /\ (K11 x0 x1 x5 (x6 + (1 : Int)) h)) fun x0 x1 x5 x6 h => n12 x0 x1 x5 x6 Kn Ke1 Ke0 Kr h
abbrev n10 (x0 : Option Addr) (x1 x5 x6 : Int) (Kn Ke1 : T2) (Ke0 : T3) (Kr : T0) (h : H) : Prop :=
  sqF L2 (fun K12 => Rng .i64 (x1 - (1 : Int)) /\ (K12 x0 (x1 - (1 : Int)) x5 x6 h)) fun x0 x1 x5 x6 h => n11 x0 x1 x5 x6 Kn Ke1 Ke0 Kr h
abbrev n8_B (Kn Ke0 : T3) (Kr : T0) : T2 -> T2 := fun K2 x0 x1 x5 x6 h => n10 x0 x1 x5 x6 K2 K2 Ke0 Kr h
abbrev n8_L (Kn Ke0 : T3) (Kr : T0) : Nat -> T2 := LP L2 (n8_B Kn Ke0 Kr)
abbrev n5 (x0 : Option Addr) (x1 x5 x6 : Int) (Kn Kr : T0) (h : H) : Prop :=
  sqF L3 (fun K1 => lpF L2 (n8_B K1 K1 Kr) fun K2 => K2 x0 x1 x5 x6 h) fun x5 h => n6 x5 Kn Kr h
abbrev n4 (x0 : Option Addr) (x1 x5 x6 : Int) (Kn Kr : T0) (h : H) : Prop :=
  sqF L2 (fun K13 => K13 x0 x1 x5 x6 h) fun x0 x1 x5 x6 h => n5 x0 x1 x5 x6 Kn Kr h
abbrev n3 (x0 : Option Addr) (x1 : Int) (Kn Kr : T0) (h : H) : Prop :=
  sqF L2 (fun K14 => vSome x0 fun a62 => ∃ i63, cell h ((a62.add 3).add 0) = some (.int .i64 i63) /\ (K14 x0 x1 i63 (0 : Int) h)) fun x0 x1 x5 x6 h => n4 x0 x1 x5 x6 Kn Kr h
abbrev n1 (x0 : Option Addr) (x1 : Int) (Kn Kr : T0) (h : H) : Prop :=
  sqF L1 (fun K15 => K15 x0 x1 h) fun x0 x1 h => n3 x0 x1 Kn Kr h
variable (K : Value -> H -> Prop) (h : H)
abbrev asks : Prop := cF L0 (fun Kr => n1 x0 x1 Kr Kr h) fun y4 h => K (.int .i64 y4) h
theorem ok (hS : asks x0 x1 K h) : HCalls Tryz.prog 226 ⟨[.pointer x0, .int .i64 x1]⟩ h K :=
  cl Tryz.func226 hS (fun hg hS => sq (l := L1) hg hS fun hg hS => so (sq (l := L2) hg hS fun hg hS => sq (l := L2) hg hS fun hg hS => sc (l := L3) hS (fun hS => bl (b := 0) (lp hg hS fun hg hS => bl (b := 1) (sq (l := L2) hg hS fun hg hS => sq (l := L2) hg hS fun hg hS => sq (l := L4) hg hS fun hg hS => sq (l := L4) hg hS fun hg hS => sq (l := L5) hg hS fun hg hS => sq (l := L5) hg hS fun hg hS => sq (l := L5) hg hS fun hg hS => sq (l := L6) hg hS fun hg hS => sq (l := L6) hg hS fun hg hS => sq (l := L7) hg hS fun hg hS => lf hg hS))) fun hg hS => lf hg hS)) fun hg hS => rt hg hS
end Sx.adopt_agency_climb
namespace Sx.adopt_agency_renew
abbrev L0 : List Sl := []
abbrev L6 : List Sl := [.o 0 .p, .o 2 (.i .i64), .o 5 .a]
abbrev L2 : List Sl := [.o 0 .p, .o 2 (.i .i64)]
abbrev L5 : List Sl := [.o 0 .p, .o 2 (.i .i64), .o 4 .a]
abbrev L4 : List Sl := [.o 0 .p, .o 2 (.i .i64), .o 3 (.i .i64), .o 4 .a]
abbrev L3 : List Sl := [.o 0 .p, .o 2 (.i .i64), .o 3 (.i .i64)]
abbrev T0 := TK L0
variable (x0 : Option Addr) (x2 x3 : Int) (x4 x5 : Addr)
abbrev n10 (Kn Kr : T0) (h : H) : Prop :=
  stL (x5.add 0) [.int .i64 x2] 0 h fun h1 => vSome x0 fun a2 => ∃ p3, cell h1 (a2.add 0) = some (.pointer p3) /\ (vSome x0 fun a4 => ∃ i5, cell h1 (a4.add 2) = some (.int .i64 i5) /\ (HCalls Tryz.prog 155 ⟨[.pointer p3, .int .i64 i5]⟩ h1 fun v6 h7 => ((vSome x0 fun a8 => vSome x0 fun a9 => ∃ p10, cell h7 (a9.add 0) = some (.pointer p10) /\ (vSome p10 fun a11 => ∃ s12b s12n s12c, cell h7 (a11.add 1) = some (.slice s12b s12n s12c) /\ (vSome x0 fun a13 => ∃ i14, cell h7 ((a13.add 3).add 0) = some (.int .i64 i14) /\ (∃ i15, cell h7 (x5.add 0) = some (.int .i64 i15) /\ (∃ i16, cell h7 (x5.add 1) = some (.int .u8 i16) /\ (∃ s17, cell h7 (x5.add 2) = some (S s17) /\ (∃ i18, cell h7 (x5.add 3) = some (.int .u8 i18) /\ (HCalls Tryz.prog 222 ⟨[.pointer x0, .int .i64 i14]⟩ h7 fun v19 h20 => vInt .i64 v19 fun i21 => ExtH h7 h20 /\ (Rng .i64 (i21 + (1 : Int)) /\ (newx h20 #[.int .i64 i15, .int .u8 i16, S s17, .int .u8 i18] 77 fun a22 h23 => ExtH h20 h23 /\ (HCalls Tryz.prog 241 ⟨[.slice s12b s12n s12c, .int .i64 (i21 + (1 : Int)), .slice (some a22) 1 1]⟩ h23 fun v24 h25 => vSlice v24 fun s26b s26n s26c => ∃ p27, cell h25 (a8.add 0) = some (.pointer p27) /\ (vSome p27 fun a28 => stL (a28.add 1) [.slice s26b s26n s26c] 0 h25 fun h29 => Kn h29)))))))))))) /\ (vSome x0 fun a30 => vSome x0 fun a31 => ∃ p32, cell h7 (a31.add 0) = some (.pointer p32) /\ (vSome p32 fun a33 => ∃ s34b s34n s34c, cell h7 (a33.add 1) = some (.slice s34b s34n s34c) /\ (vSome x0 fun a35 => ∃ i36, cell h7 ((a35.add 3).add 0) = some (.int .i64 i36) /\ (∃ i37, cell h7 (x5.add 0) = some (.int .i64 i37) /\ (∃ i38, cell h7 (x5.add 1) = some (.int .u8 i38) /\ (∃ s39, cell h7 (x5.add 2) = some (S s39) /\ (∃ i40, cell h7 (x5.add 3) = some (.int .u8 i40) /\ (newx h7 #[.int .i64 i37, .int .u8 i38, S s39, .int .u8 i40] 77 fun a41 h42 => ExtH h7 h42 /\ (HCalls Tryz.prog 222 ⟨[.pointer x0, .int .i64 i36]⟩ h42 fun v43 h44 => vInt .i64 v43 fun i45 => ExtH h42 h44 /\ (Rng .i64 (i45 + (1 : Int)) /\ (HCalls Tryz.prog 241 ⟨[.slice s34b s34n s34c, .int .i64 (i45 + (1 : Int)), .slice (some a41) 1 1]⟩ h44 fun v46 h47 => vSlice v46 fun s48b s48n s48c => ∃ p49, cell h47 (a30.add 0) = some (.pointer p49) /\ (vSome p49 fun a50 => stL (a50.add 1) [.slice s48b s48n s48c] 0 h47 fun h51 => Kn h51))))))))))))) /\ ((vSome x0 fun a52 => ∃ p53, cell h7 (a52.add 0) = some (.pointer p53) /\ (vSome x0 fun a54 => ∃ p55, cell h7 (a54.add 0) = some (.pointer p55) /\ (vSome p55 fun a56 => ∃ s57b s57n s57c, cell h7 (a56.add 1) = some (.slice s57b s57n s57c) /\ (vSome x0 fun a58 => ∃ i59, cell h7 ((a58.add 3).add 0) = some (.int .i64 i59) /\ (∃ i60, cell h7 (x5.add 0) = some (.int .i64 i60) /\ (∃ i61, cell h7 (x5.add 1) = some (.int .u8 i61) /\ (∃ s62, cell h7 (x5.add 2) = some (S s62) /\ (∃ i63, cell h7 (x5.add 3) = some (.int .u8 i63) /\ (HCalls Tryz.prog 222 ⟨[.pointer x0, .int .i64 i59]⟩ h7 fun v64 h65 => vInt .i64 v64 fun i66 => ExtH h7 h65 /\ (Rng .i64 (i66 + (1 : Int)) /\ (newx h65 #[.int .i64 i60, .int .u8 i61, S s62, .int .u8 i63] 77 fun a67 h68 => ExtH h65 h68 /\ (HCalls Tryz.prog 241 ⟨[.slice s57b s57n s57c, .int .i64 (i66 + (1 : Int)), .slice (some a67) 1 1]⟩ h68 fun v69 h70 => vSlice v69 fun s71b s71n s71c => vSome p53 fun a72 => stL (a72.add 1) [.slice s71b s71n s71c] 0 h70 fun h73 => Kn h73)))))))))))) /\ (vSome x0 fun a74 => ∃ p75, cell h7 (a74.add 0) = some (.pointer p75) /\ (vSome x0 fun a76 => ∃ p77, cell h7 (a76.add 0) = some (.pointer p77) /\ (vSome p77 fun a78 => ∃ s79b s79n s79c, cell h7 (a78.add 1) = some (.slice s79b s79n s79c) /\ (vSome x0 fun a80 => ∃ i81, cell h7 ((a80.add 3).add 0) = some (.int .i64 i81) /\ (∃ i82, cell h7 (x5.add 0) = some (.int .i64 i82) /\ (∃ i83, cell h7 (x5.add 1) = some (.int .u8 i83) /\ (∃ s84, cell h7 (x5.add 2) = some (S s84) /\ (∃ i85, cell h7 (x5.add 3) = some (.int .u8 i85) /\ (newx h7 #[.int .i64 i82, .int .u8 i83, S s84, .int .u8 i85] 77 fun a86 h87 => ExtH h7 h87 /\ (HCalls Tryz.prog 222 ⟨[.pointer x0, .int .i64 i81]⟩ h87 fun v88 h89 => vInt .i64 v88 fun i90 => ExtH h87 h89 /\ (Rng .i64 (i90 + (1 : Int)) /\ (HCalls Tryz.prog 241 ⟨[.slice s79b s79n s79c, .int .i64 (i90 + (1 : Int)), .slice (some a86) 1 1]⟩ h89 fun v91 h92 => vSlice v91 fun s93b s93n s93c => vSome p75 fun a94 => stL (a94.add 1) [.slice s93b s93n s93c] 0 h92 fun h95 => Kn h95)))))))))))))))
abbrev n9 (x0 : Option Addr) (x2 : Int) (Kn Kr : T0) (h : H) : Prop :=
  sqF L6 (fun K1 => (vSome x0 fun a96 => ∃ p97, cell h (a96.add 0) = some (.pointer p97) /\ (vSome p97 fun a98 => ∃ s99b s99n s99c, cell h (a98.add 1) = some (.slice s99b s99n s99c) /\ (vSome x0 fun a100 => ∃ i101, cell h (a100.add 2) = some (.int .i64 i101) /\ (HCalls Tryz.prog 222 ⟨[.pointer x0, .int .i64 i101]⟩ h fun v102 h103 => vInt .i64 v102 fun i104 => ExtH h h103 /\ ((0 <= i104 /\ i104 < (s99n : Int)) /\ (vSome s99b fun a105 => ∃ i106, cell h103 (((a105.add (Int.toNat i104 * 4))).add 0) = some (.int .i64 i106) /\ (∃ i107, cell h103 (((a105.add (Int.toNat i104 * 4))).add 1) = some (.int .u8 i107) /\ (∃ s108, cell h103 (((a105.add (Int.toNat i104 * 4))).add 2) = some (S s108) /\ (∃ i109, cell h103 (((a105.add (Int.toNat i104 * 4))).add 3) = some (.int .u8 i109) /\ (newx h103 ⟨[.int .i64 (0 : Int), .int .u8 (0 : Int), S ([] : List UInt8), .int .u8 (0 : Int)]⟩ 77 fun a110 h111 => ExtH h103 h111 /\ (stL a110 [.int .i64 i106, .int .u8 i107, S s108, .int .u8 i109] 0 h111 fun h112 => K1 x0 x2 a110 h112))))))))))) /\ (vSome x0 fun a113 => ∃ p114, cell h (a113.add 0) = some (.pointer p114) /\ (vSome p114 fun a115 => ∃ s116b s116n s116c, cell h (a115.add 1) = some (.slice s116b s116n s116c) /\ (vSome x0 fun a117 => ∃ i118, cell h (a117.add 2) = some (.int .i64 i118) /\ (newx h ⟨[.int .i64 (0 : Int), .int .u8 (0 : Int), S ([] : List UInt8), .int .u8 (0 : Int)]⟩ 77 fun a119 h120 => ExtH h h120 /\ (HCalls Tryz.prog 222 ⟨[.pointer x0, .int .i64 i118]⟩ h120 fun v121 h122 => vInt .i64 v121 fun i123 => ExtH h120 h122 /\ ((0 <= i123 /\ i123 < (s116n : Int)) /\ (vSome s116b fun a124 => ∃ i125, cell h122 (((a124.add (Int.toNat i123 * 4))).add 0) = some (.int .i64 i125) /\ (∃ i126, cell h122 (((a124.add (Int.toNat i123 * 4))).add 1) = some (.int .u8 i126) /\ (∃ s127, cell h122 (((a124.add (Int.toNat i123 * 4))).add 2) = some (S s127) /\ (∃ i128, cell h122 (((a124.add (Int.toNat i123 * 4))).add 3) = some (.int .u8 i128) /\ (stL a119 [.int .i64 i125, .int .u8 i126, S s127, .int .u8 i128] 0 h122 fun h129 => K1 x0 x2 a119 h129)))))))))))) fun x0 x2 x5 h => n10 x0 x2 x5 Kn Kr h
abbrev n8 (x0 : Option Addr) (x2 : Int) (x4 : Addr) (Kn Kr : T0) (h : H) : Prop :=
  sqF L2 (fun K2 => (vSome x0 fun a130 => vSome x0 fun a131 => ∃ p132, cell h (a131.add 0) = some (.pointer p132) /\ (vSome p132 fun a133 => ∃ s134b s134n s134c, cell h (a133.add 2) = some (.slice s134b s134n s134c) /\ (vSome x0 fun a135 => ∃ i136, cell h (a135.add 7) = some (.int .i64 i136) /\ (∃ i137, cell h (x4.add 0) = some (.int .i64 i137) /\ (∃ s138, cell h (x4.add 1) = some (S s138) /\ (∃ s139b s139n s139c, cell h (x4.add 2) = some (.slice s139b s139n s139c) /\ (newx h #[.int .i64 i137, S s138, .slice s139b s139n s139c] 79 fun a140 h141 => ExtH h h141 /\ (HCalls Tryz.prog 240 ⟨[.slice s134b s134n s134c, .int .i64 i136, .slice (some a140) 1 1]⟩ h141 fun v142 h143 => vSlice v142 fun s144b s144n s144c => ∃ p145, cell h143 (a130.add 0) = some (.pointer p145) /\ (vSome p145 fun a146 => stL (a146.add 2) [.slice s144b s144n s144c] 0 h143 fun h147 => K2 x0 x2 h147))))))))) /\ (vSome x0 fun a148 => ∃ p149, cell h (a148.add 0) = some (.pointer p149) /\ (vSome x0 fun a150 => ∃ p151, cell h (a150.add 0) = some (.pointer p151) /\ (vSome p151 fun a152 => ∃ s153b s153n s153c, cell h (a152.add 2) = some (.slice s153b s153n s153c) /\ (vSome x0 fun a154 => ∃ i155, cell h (a154.add 7) = some (.int .i64 i155) /\ (∃ i156, cell h (x4.add 0) = some (.int .i64 i156) /\ (∃ s157, cell h (x4.add 1) = some (S s157) /\ (∃ s158b s158n s158c, cell h (x4.add 2) = some (.slice s158b s158n s158c) /\ (newx h #[.int .i64 i156, S s157, .slice s158b s158n s158c] 79 fun a159 h160 => ExtH h h160 /\ (HCalls Tryz.prog 240 ⟨[.slice s153b s153n s153c, .int .i64 i155, .slice (some a159) 1 1]⟩ h160 fun v161 h162 => vSlice v161 fun s163b s163n s163c => vSome p149 fun a164 => stL (a164.add 2) [.slice s163b s163n s163c] 0 h162 fun h165 => K2 x0 x2 h165)))))))))) fun x0 x2 h => n9 x0 x2 Kn Kr h
abbrev n7 (x0 : Option Addr) (x2 x3 : Int) (x4 : Addr) (Kn Kr : T0) (h : H) : Prop :=
  sqF L5 (fun K3 => HCalls Tryz.prog 223 ⟨[.pointer x0, .int .i64 x3]⟩ h fun v166 h167 => K3 x0 x2 x4 h167) fun x0 x2 x4 h => n8 x0 x2 x4 Kn Kr h
abbrev n6 (x0 : Option Addr) (x2 x3 : Int) (x4 : Addr) (Kn Kr : T0) (h : H) : Prop :=
  sqF L4 (fun K4 => stL (x4.add 0) [.int .i64 x2] 0 h fun h168 => K4 x0 x2 x3 x4 h168) fun x0 x2 x3 x4 h => n7 x0 x2 x3 x4 Kn Kr h
abbrev n5 (x0 : Option Addr) (x2 x3 : Int) (Kn Kr : T0) (h : H) : Prop :=
  sqF L4 (fun K5 => vSome x0 fun a169 => ∃ p170, cell h (a169.add 0) = some (.pointer p170) /\ (vSome p170 fun a171 => ∃ s172b s172n s172c, cell h (a171.add 2) = some (.slice s172b s172n s172c) /\ ((0 <= x3 /\ x3 < (s172n : Int)) /\ (vSome s172b fun a173 => ∃ i174, cell h (((a173.add (Int.toNat x3 * 3))).add 0) = some (.int .i64 i174) /\ (∃ s175, cell h (((a173.add (Int.toNat x3 * 3))).add 1) = some (S s175) /\ (∃ s176b s176n s176c, cell h (((a173.add (Int.toNat x3 * 3))).add 2) = some (.slice s176b s176n s176c) /\ (newx h ⟨[.int .i64 (0 : Int), S ([] : List UInt8), .slice none 0 0]⟩ 79 fun a177 h178 => stL a177 [.int .i64 i174, S s175, .slice s176b s176n s176c] 0 h178 fun h179 => K5 x0 x2 x3 a177 h179))))))) fun x0 x2 x3 x4 h => n6 x0 x2 x3 x4 Kn Kr h
abbrev n4 (x0 : Option Addr) (x2 : Int) (Kn Kr : T0) (h : H) : Prop :=
  sqF L3 (fun K6 => vSome x0 fun a180 => ∃ p181, cell h (a180.add 0) = some (.pointer p181) /\ (vSome p181 fun a182 => ∃ s183b s183n s183c, cell h (a182.add 2) = some (.slice s183b s183n s183c) /\ (vSome x0 fun a184 => ∃ i185, cell h (a184.add 2) = some (.int .i64 i185) /\ (HCalls Tryz.prog 201 ⟨[.slice s183b s183n s183c, .int .i64 i185]⟩ h fun v186 h187 => vInt .i64 v186 fun i188 => K6 x0 x2 i188 h187)))) fun x0 x2 x3 h => n5 x0 x2 x3 Kn Kr h
abbrev n3 (x0 : Option Addr) (x2 : Int) (Kn Kr : T0) (h : H) : Prop :=
  sqF L2 (fun K7 => vSome x0 fun a189 => ∃ p190, cell h (a189.add 0) = some (.pointer p190) /\ (vSome p190 fun a191 => ∃ p192, cell h (a191.add 0) = some (.pointer p192) /\ (vSome x0 fun a193 => ∃ i194, cell h ((a193.add 3).add 0) = some (.int .i64 i194) /\ (HCalls Tryz.prog 65 ⟨[.pointer p192, .int .i64 i194, .int .i64 (-1 : Int), .int .i64 x2]⟩ h fun v195 h196 => vBool v195 fun b197 => cond b197 (K7 x0 x2 h196) (K7 x0 x2 h196))))) fun x0 x2 h => n4 x0 x2 Kn Kr h
abbrev n2 (x0 : Option Addr) (x2 : Int) (Kn Kr : T0) (h : H) : Prop :=
  sqF L2 (fun K8 => vSome x0 fun a198 => ∃ p199, cell h (a198.add 0) = some (.pointer p199) /\ (vSome p199 fun a200 => ∃ p201, cell h (a200.add 0) = some (.pointer p201) /\ (vSome x0 fun a202 => ∃ i203, cell h ((a202.add 3).add 0) = some (.int .i64 i203) /\ (HCalls Tryz.prog 239 ⟨[.pointer p201, .int .i64 i203, .int .i64 x2]⟩ h fun v204 h205 => vBool v204 fun b206 => cond b206 (K8 x0 x2 h205) (K8 x0 x2 h205))))) fun x0 x2 h => n3 x0 x2 Kn Kr h
abbrev n1 (x0 : Option Addr) (Kn Kr : T0) (h : H) : Prop :=
  sqF L2 (fun K9 => vSome x0 fun a207 => ∃ p208, cell h (a207.add 0) = some (.pointer p208) /\ (vSome p208 fun a209 => ∃ p210, cell h (a209.add 0) = some (.pointer p210) /\ (vSome x0 fun a211 => ∃ i212, cell h (a211.add 2) = some (.int .i64 i212) /\ (HCalls Tryz.prog 238 ⟨[.pointer p210, .int .i64 i212]⟩ h fun v213 h214 => vInt .i64 v213 fun i215 => K9 x0 i215 h214)))) fun x0 x2 h => n2 x0 x2 Kn Kr h
variable (K : Value -> H -> Prop) (h : H)
abbrev asks : Prop := cF L0 (fun Kr => n1 x0 Kr Kr h) fun h => K (.tuple ⟨[]⟩) h
theorem ok (hS : asks x0 K h) : HCalls Tryz.prog 227 ⟨[.pointer x0]⟩ h K :=
  cl Tryz.func227 hS (fun hg hS => sq (l := L2) hg hS fun hg hS => sq (l := L2) hg hS fun hg hS => sq (l := L2) hg hS fun hg hS => sq (l := L3) hg hS fun hg hS => sq (l := L4) hg hS fun hg hS => sq (l := L4) hg hS fun hg hS => sq (l := L5) hg hS fun hg hS => sq (l := L2) hg hS fun hg hS => sq (l := L6) hg hS fun hg hS => lf hg hS) fun hg hS => rt hg hS
end Sx.adopt_agency_renew
end Go.Proofs
