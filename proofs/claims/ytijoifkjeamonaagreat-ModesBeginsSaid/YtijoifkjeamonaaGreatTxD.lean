/- The shallow forms of functions, printed by sh.py out of the translation; each with its proof. No condition. -/
import Derived.Test.YtijoifkjeamonaaGreatShQ
import Derived.Test.YtijoifkjeamonaaGreatProg
namespace Go.Proofs
open Go Go.Sh
set_option linter.unusedVariables false
set_option maxRecDepth 100000
namespace Sx.r00_Tokens
abbrev L0 : List Sl := [.o 4 (.i .i64)]
abbrev L3 : List Sl := [.o 5 (.i .i64)]
abbrev L4 : List Sl := [.o 0 .l, .o 1 (.i .i64), .o 5 (.i .i64), .o 6 (.i .i64)]
abbrev L5 : List Sl := [.o 0 .l, .o 1 (.i .i64), .o 5 (.i .i64), .o 6 (.i .i64), .o 7 (.i .i64)]
abbrev L2 : List Sl := [.o 0 .l, .o 1 (.i .i64), .o 5 (.i .i64)]
abbrev L1 : List Sl := [.o 0 .l, .o 1 (.i .i64)]
abbrev T0 := TK L0
abbrev T4 := TK L4
abbrev T3 := TK L3
abbrev T5 := TK L5
variable (x0b : Option Addr) (x0n x0c : Nat) (x1 x5 x6 : Int)
abbrev n4 (Kn Kr : T0) (h : H) : Prop :=
  Kr x5 h
abbrev n10 (Kn : T4) (Ke0 : T3) (Kr : T0) (h : H) : Prop :=
  Rng .i64 (x6 + (1 : Int)) /\ (Kn x0b x0n x0c x1 x5 (x6 + (1 : Int)) h)
abbrev n15_B (Kn Ke2 Ke1 : T4) (Ke0 : T3) (Kr : T0) : T5 -> T5 := fun K4 x0b x0n x0c x1 x5 x6 x7 h => (0 <= x6 /\ x6 < (x0n : Int)) /\ (vSome x0b fun a1 => ∃ s2b s2n s2c, cell h ((a1.add (Int.toNat x6 * 5)).add 2) = some (.slice s2b s2n s2c) /\ (Spl (x7 < (s2n : Int)) (Spl (x5 <= x1) ((0 <= x6 /\ x6 < (x0n : Int)) /\ (vSome x0b fun a3 => ∃ s4b s4n s4c, cell h ((a3.add (Int.toNat x6 * 5)).add 2) = some (.slice s4b s4n s4c) /\ ((0 <= x7 /\ x7 < (s4n : Int)) /\ (vSome s4b fun a5 => ∃ s6, cell h ((a5.add (Int.toNat x7 * 2)).add 0) = some (S s6) /\ ((8 : Int) ≠ 0 /\ (Rng .i64 (Int.tdiv (s6.length : Int) (8 : Int)) /\ (Rng .i64 ((1 : Int) + (Int.tdiv (s6.length : Int) (8 : Int))) /\ ((0 <= x6 /\ x6 < (x0n : Int)) /\ (vSome x0b fun a7 => ∃ s8b s8n s8c, cell h ((a7.add (Int.toNat x6 * 5)).add 2) = some (.slice s8b s8n s8c) /\ ((0 <= x7 /\ x7 < (s8n : Int)) /\ (vSome s8b fun a9 => ∃ s10, cell h ((a9.add (Int.toNat x7 * 2)).add 1) = some (S s10) /\ ((8 : Int) ≠ 0 /\ (Rng .i64 (Int.tdiv (s10.length : Int) (8 : Int)) /\ (Rng .i64 (((1 : Int) + (Int.tdiv (s6.length : Int) (8 : Int))) + (Int.tdiv (s10.length : Int) (8 : Int))) /\ (Rng .i64 (x5 + (((1 : Int) + (Int.tdiv (s6.length : Int) (8 : Int))) + (Int.tdiv (s10.length : Int) (8 : Int)))) /\ (Rng .i64 (x7 + (1 : Int)) /\ (K4 x0b x0n x0c x1 (x5 + (((1 : Int) + (Int.tdiv (s6.length : Int) (8 : Int))) + (Int.tdiv (s10.length : Int) (8 : Int)))) x6 (x7 + (1 : Int)) h))))))))))))))))) (Ke2 x0b x0n x0c x1 x5 x6 h)) (Ke2 x0b x0n x0c x1 x5 x6 h)))
abbrev n15_L (Kn Ke2 Ke1 : T4) (Ke0 : T3) (Kr : T0) : Nat -> T5 := LP L5 (n15_B Kn Ke2 Ke1 Ke0 Kr)
abbrev n7_B (Kn Ke0 : T3) (Kr : T0) : T4 -> T4 := fun K2 x0b x0n x0c x1 x5 x6 h => sqF L4 (fun K7 => Spl (x6 < (x0n : Int)) (Spl (x5 <= x1) (K7 x0b x0n x0c x1 x5 x6 h) (Ke0 x5 h)) (Ke0 x5 h)) fun x0b x0n x0c x1 x5 x6 h => sqF L4 (fun K3 => sqF L4 (fun K6 => (0 <= x6 /\ x6 < (x0n : Int)) /\ (vSome x0b fun a11 => ∃ s12, cell h ((a11.add (Int.toNat x6 * 5)).add 4) = some (S s12) /\ ((8 : Int) ≠ 0 /\ (Rng .i64 (Int.tdiv (s12.length : Int) (8 : Int)) /\ (Rng .i64 ((1 : Int) + (Int.tdiv (s12.length : Int) (8 : Int))) /\ ((0 <= x6 /\ x6 < (x0n : Int)) /\ (vSome x0b fun a13 => ∃ s14, cell h ((a13.add (Int.toNat x6 * 5)).add 1) = some (S s14) /\ ((8 : Int) ≠ 0 /\ (Rng .i64 (Int.tdiv (s14.length : Int) (8 : Int)) /\ (Rng .i64 (((1 : Int) + (Int.tdiv (s12.length : Int) (8 : Int))) + (Int.tdiv (s14.length : Int) (8 : Int))) /\ (Rng .i64 (x5 + (((1 : Int) + (Int.tdiv (s12.length : Int) (8 : Int))) + (Int.tdiv (s14.length : Int) (8 : Int)))) /\ (K6 x0b x0n x0c x1 (x5 + (((1 : Int) + (Int.tdiv (s12.length : Int) (8 : Int))) + (Int.tdiv (s14.length : Int) (8 : Int)))) x6 h)))))))))))) fun x0b x0n x0c x1 x5 x6 h => sqF L5 (fun K5 => K5 x0b x0n x0c x1 x5 x6 (0 : Int) h) fun x0b x0n x0c x1 x5 x6 x7 h => lpF L5 (n15_B K3 K3 K3 Ke0 Kr) fun K4 => K4 x0b x0n x0c x1 x5 x6 x7 h) fun x0b x0n x0c x1 x5 x6 h => n10 x0b x0n x0c x1 x5 x6 K2 Ke0 Kr h
abbrev n7_L (Kn Ke0 : T3) (Kr : T0) : Nat -> T4 := LP L4 (n7_B Kn Ke0 Kr)
variable (K : Value -> H -> Prop) (h : H)
abbrev asks (x0b : Option Addr) (x0n x0c : Nat) (x1 : Int) (K : Value -> H -> Prop) (h : H) : Prop := cF L0 (fun Kr => sqF L1 (fun K10 => K10 x0b x0n x0c x1 h) fun x0b x0n x0c x1 h => sqF L2 (fun K9 => K9 x0b x0n x0c x1 (0 : Int) h) fun x0b x0n x0c x1 x5 h => sqF L3 (fun K1 => sqF L4 (fun K8 => K8 x0b x0n x0c x1 x5 (0 : Int) h) fun x0b x0n x0c x1 x5 x6 h => lpF L4 (n7_B K1 K1 Kr) fun K2 => K2 x0b x0n x0c x1 x5 x6 h) fun x5 h => n4 x5 Kr Kr h) fun y4 h => K (.int .i64 y4) h
theorem ok (hS : asks x0b x0n x0c x1 K h) : HCalls Tryz.prog 28 ⟨[.slice x0b x0n x0c, .int .i64 x1]⟩ h K :=
  cl Tryz.func28 hS (fun hg hS => sq (l := L1) hg hS fun hg hS => sq (l := L2) hg hS fun hg hS => sc (l := L3) hS (fun hS => sq (l := L4) hg hS fun hg hS => bl (b := 0) (lp hg hS fun hg hS => sq (l := L4) hg hS fun hg hS => sc (l := L4) hS (fun hS => bl (b := 1) (sq (l := L4) hg hS fun hg hS => sq (l := L5) hg hS fun hg hS => bl (b := 2) (lp hg hS fun hg hS => lf hg hS))) fun hg hS => lf hg hS)) fun hg hS => lf hg hS) fun hg hS => rt hg hS
end Sx.r00_Tokens
namespace Sx.marks_Lost
noncomputable def code : Code := bodyOf Tryz.f62
abbrev T0 := Addr -> (List Deferred) -> H -> Prop
def E0 (g : Env) (x4 : Addr) (ds : List Deferred) : Prop := g.v 4 = (.pointer (some x4)) /\ g.ds = ds
def D0 (K : T0) (g : Env) (h : H) : Prop := vAddr (g.v 4) fun a1 => K a1 g.ds h
theorem D0_ok {K : T0} {g : Env} {h : H} (hq : D0 K g h) : ∃ (x4 : Addr) (ds : List Deferred), E0 g x4 ds /\ K x4 ds h := by
  obtain ⟨y3, e2, q4⟩ := vAddr_ok hq
  exact ⟨y3, g.ds, ⟨e2, rfl⟩, q4⟩
def Q0 (Kn Kr : T0) : XPost
  | .normal, g, h => D0 Kn g h
  | .ret, g, h => D0 Kr g h
  | _, _, _ => False
def E1 (g : Env) (x0b : Option Addr) (x0n x0c : Nat) (x1b : Option Addr) (x1n x1c : Nat) (ds : List Deferred) : Prop := g.v 0 = (.slice x0b x0n x0c) /\ g.v 1 = (.slice x1b x1n x1c) /\ g.ds = ds
noncomputable def n1_c1 : Code := cFst code
noncomputable def n1_c2 : Code := cSnd code
abbrev T2 := (Option Addr) -> Nat -> Nat -> Addr -> Addr -> (List Deferred) -> H -> Prop
def E2 (g : Env) (x0b : Option Addr) (x0n x0c : Nat) (x3 x4 : Addr) (ds : List Deferred) : Prop := g.v 0 = (.slice x0b x0n x0c) /\ g.v 3 = (.pointer (some x3)) /\ g.v 4 = (.pointer (some x4)) /\ g.ds = ds
def D2 (K : T2) (g : Env) (h : H) : Prop := vSlice (g.v 0) fun s13b s13n s13c => vAddr (g.v 3) fun a14 => vAddr (g.v 4) fun a15 => K s13b s13n s13c a14 a15 g.ds h
theorem D2_ok {K : T2} {g : Env} {h : H} (hq : D2 K g h) : ∃ (x0b : Option Addr) (x0n x0c : Nat) (x3 x4 : Addr) (ds : List Deferred), E2 g x0b x0n x0c x3 x4 ds /\ K x0b x0n x0c x3 x4 ds h := by
  obtain ⟨y17b, y17n, y17c, e16, q18⟩ := vSlice_ok hq
  obtain ⟨y20, e19, q21⟩ := vAddr_ok q18
  obtain ⟨y23, e22, q24⟩ := vAddr_ok q21
  exact ⟨y17b, y17n, y17c, y20, y23, g.ds, ⟨e16, e19, e22, rfl⟩, q24⟩
noncomputable def n2_c1 : Code := cFst n1_c2
noncomputable def n2_c2 : Code := cSnd n1_c2
abbrev n3 (x4 : Addr) (ds : List Deferred) (Kn Kr : T0) (h : H) : Prop :=
  stL x4 [.int .i64 (0 : Int)] 0 h fun h25 => Kr x4 ds h25
theorem n3_ok (x4 : Addr) (ds : List Deferred) (Kn Kr : T0) (g : Env) (hg : E0 g x4 ds) (h : H) (hS : n3 x4 ds Kn Kr h) : wpC none Tryz.prog 21 n2_c2 (Q0 Kn Kr) g h := by
  obtain ⟨hg4, hds⟩ := hg
  refine wpC_of_wpx (by kernel_rfl) (by kernel_rfl) (g' := (⟨g.v, ds⟩ : Env).upd (some 4) (.pointer (some x4))) (by rw [env_ds hds, upd_self hg4]) ?_
  have e : (n3 x4 ds Kn Kr h) = wpx none Tryz.prog 21 n2_c2 (Q0 Kn Kr) ((⟨g.v, ds⟩ : Env).upd (some 4) (.pointer (some x4))) h := by kernel_rfl
  exact e ▸ hS
noncomputable def n4_c1 : Code := cFst n2_c1
noncomputable def n4_c2 : Code := cSnd n2_c1
abbrev T3 := Addr -> Addr -> Value -> (List Deferred) -> H -> Prop
def E3 (g : Env) (x3 x4 : Addr) (x8 : Value) (ds : List Deferred) : Prop := g.v 3 = (.pointer (some x3)) /\ g.v 4 = (.pointer (some x4)) /\ g.v 8 = x8 /\ g.ds = ds
def D3 (K : T3) (g : Env) (h : H) : Prop := vAddr (g.v 3) fun a26 => vAddr (g.v 4) fun a27 => K a26 a27 (g.v 8) g.ds h
theorem D3_ok {K : T3} {g : Env} {h : H} (hq : D3 K g h) : ∃ (x3 x4 : Addr) (x8 : Value) (ds : List Deferred), E3 g x3 x4 x8 ds /\ K x3 x4 x8 ds h := by
  obtain ⟨y29, e28, q30⟩ := vAddr_ok hq
  obtain ⟨y32, e31, q33⟩ := vAddr_ok q30
  exact ⟨y29, y32, (g.v 8), g.ds, ⟨e28, e31, rfl, rfl⟩, q33⟩
noncomputable def n5_c1 : Code := cFst n4_c2
def Q1 (Kn Ke0 Kr : T0) : XPost
  | .normal, g, h => D0 Kn g h
  | .ret, g, h => D0 Kr g h
  | .exit id, g, h => cond (Nat.beq id 0) (D0 Ke0 g h) (False)
  | _, _, _ => False
noncomputable def n6_c1 : Code := cFst n5_c1
noncomputable def n6_c2 : Code := cSnd n5_c1
def n6_rd (x3 x4 : Addr) (x8 : Value) (ds : List Deferred) (Kn Ke0 Kr : T0) (h : H) (p9 p10_0 : Int) (p10_1 : List UInt8) (p10_2b : Option Addr) (p10_2n p10_2c : Nat) (Mid : H -> (H -> Prop) -> Prop) (Kc : H -> H -> Prop) (Fin : H -> H -> (H -> Prop) -> Prop) (h1 : H) : Prop :=
  newx h1 ⟨[.int .i64 (0 : Int), S ([] : List UInt8), .slice none 0 0]⟩ 79 fun a34 h35 => stL a34 [.int .i64 p10_0, S p10_1, .slice p10_2b p10_2n p10_2c] 0 h35 fun h36 => Mid h36 fun hb37 => ∃ i38, cell hb37 (a34.add 0) = some (.int .i64 i38) /\ (Spl (i38 < (0 : Int)) (Rng .i64 (p9 + (1 : Int)) /\ (stL x4 [.int .i64 (p9 + (1 : Int))] 0 hb37 fun h39 => Fin hb37 h39 fun h40 => Kr x4 (markD h.size :: ds) h40)) (∃ s41b s41n s41c, cell hb37 x3 = some (.slice s41b s41n s41c) /\ (HCalls Tryz.prog 137 ⟨[.slice s41b s41n s41c, (.func (.func 138) ⟨[]⟩ ⟨[.pointer (some a34)]⟩)]⟩ hb37 fun v42 h43 => vBool v42 fun b44 => cond b44 (Rng .i64 (p9 + (1 : Int)) /\ (stL x4 [.int .i64 (p9 + (1 : Int))] 0 h43 fun h45 => Fin hb37 h45 fun h46 => Kr x4 (markD h.size :: ds) h46)) (Kc hb37 h43))))
abbrev n6 (x3 x4 : Addr) (x8 : Value) (ds : List Deferred) (Kn Ke0 Kr : T0) (h : H) : Prop := Ranges Tryz.prog x8 2 h (fun l47 Mid Kc Fin h1 => uncons l47 fun e48 l49 => vInt .i64 e48 fun i50 => uncons l49 fun e51 l52 => vAgg e51 fun l53 => uncons l53 fun e54 l55 => vInt .i64 e54 fun i56 => uncons l55 fun e57 l58 => vStr e57 fun s59 => uncons l58 fun e60 l61 => vSlice e60 fun s62b s62n s62c => unnil l61 (unnil l52 (n6_rd x3 x4 x8 ds Kn Ke0 Kr h i50 i56 s59 s62b s62n s62c Mid Kc Fin h1))) (fun h4 => Kn x4 (markD h.size :: ds) h4)
theorem n6_ok (x3 x4 : Addr) (x8 : Value) (ds : List Deferred) (Kn Ke0 Kr : T0) (g : Env) (hg : E3 g x3 x4 x8 ds) (h : H) (hS : n6 x3 x4 x8 ds Kn Ke0 Kr h) : wpC none Tryz.prog 21 n5_c1 (Q1 Kn Ke0 Kr) g h := by
  obtain ⟨hg3, hg4, hg8, hds⟩ := hg
  subst hds
  have ho : ((((⟨g.v, g.ds⟩ : Env).upd (some 3) (.pointer (some x3))).upd (some 4) (.pointer (some x4))).upd (some 8) x8 : Env) = g := by rw [env_ds rfl, upd_self hg3, upd_self hg4, upd_self hg8]
  have hc : n5_c1 = .rangeFunc (.tmp 8) #[9, 10] n6_c1 n6_c2 := by kernel_rfl
  rw [hc]
  refine wpC_range (f := x8) (rd := (fun l47 Mid Kc Fin h1 => uncons l47 fun e48 l49 => vInt .i64 e48 fun i50 => uncons l49 fun e51 l52 => vAgg e51 fun l53 => uncons l53 fun e54 l55 => vInt .i64 e54 fun i56 => uncons l55 fun e57 l58 => vStr e57 fun s59 => uncons l58 fun e60 l61 => vSlice e60 fun s62b s62n s62c => unnil l61 (unnil l52 (n6_rd x3 x4 x8 g.ds Kn Ke0 Kr h i50 i56 s59 s62b s62n s62c Mid Kc Fin h1)))) (done := (fun h4 => Kn x4 (markD h.size :: g.ds) h4)) ?_ hS ?_ ?_
  · rw [<- ho]; kernel_rfl
  · intro h4 hd
    have e : (Kn x4 (markD h.size :: g.ds) h4) = (Q1 Kn Ke0 Kr) .normal ⟨((((⟨g.v, g.ds⟩ : Env).upd (some 3) (.pointer (some x3))).upd (some 4) (.pointer (some x4))).upd (some 8) x8).v, markD h.size :: g.ds⟩ h4 := by kernel_rfl
    rw [ho] at e
    exact e ▸ hd
  · intro L x Mid Kc Fin h1 hM hx
    obtain ⟨u63, l64, rfl, q65⟩ := uncons_ok hx
    obtain ⟨y66, rfl, q67⟩ := vInt_ok q65
    obtain ⟨u68, l69, rfl, q70⟩ := uncons_ok q67
    obtain ⟨l71, rfl, q72⟩ := vAgg_ok q70
    obtain ⟨u73, l74, rfl, q75⟩ := uncons_ok q72
    obtain ⟨y76, rfl, q77⟩ := vInt_ok q75
    obtain ⟨u78, l79, rfl, q80⟩ := uncons_ok q77
    obtain ⟨y81, rfl, q82⟩ := vStr_ok q80
    obtain ⟨u83, l84, rfl, q85⟩ := uncons_ok q82
    obtain ⟨y86b, y86n, y86c, rfl, q87⟩ := vSlice_ok q85
    obtain ⟨rfl, q88⟩ := unnil_ok q87
    obtain ⟨rfl, q89⟩ := unnil_ok q88
    have e : (n6_rd x3 x4 x8 g.ds Kn Ke0 Kr h y66 y76 y81 y86b y86n y86c Mid Kc Fin h1) = wpx (some L) Tryz.prog 21 n6_c1 (thenX (fun g1 he => Mid he fun hb => wpx (some L) Tryz.prog 21 n6_c2 (rpost Kc Fin (Q1 Kn Ke0 Kr) ⟨((((⟨g.v, g.ds⟩ : Env).upd (some 3) (.pointer (some x3))).upd (some 4) (.pointer (some x4))).upd (some 8) x8).v, markD h.size :: g.ds⟩ hb) g1 hb) fun _ _ _ => False) (setps ((((⟨g.v, g.ds⟩ : Env).upd (some 3) (.pointer (some x3))).upd (some 4) (.pointer (some x4))).upd (some 8) x8) [9, 10] [.int .i64 y66, (.agg ⟨[.int .i64 y76, S y81, .slice y86b y86n y86c]⟩)]) h1 := by kernel_rfl
    rw [ho] at e
    exact (wpx_ok (by kernel_rfl) _ _ _ _ (by kernel_rfl) (e ▸ q89)).mono (thenX_mono fun g1 he hm => hM he _ _ (fun hb => wpx_ok (by kernel_rfl) _ _ _ _ (by kernel_rfl)) hm)
abbrev n5 (x3 x4 : Addr) (x8 : Value) (ds : List Deferred) (Kn Kr : T0) (h : H) : Prop := n6 x3 x4 x8 ds Kn Kn Kr h
theorem n5_ok (x3 x4 : Addr) (x8 : Value) (ds : List Deferred) (Kn Kr : T0) (g : Env) (hg : E3 g x3 x4 x8 ds) (h : H) (hS : n5 x3 x4 x8 ds Kn Kr h) : wpC none Tryz.prog 21 n4_c2 (Q0 Kn Kr) g h := by
  refine wpC_block' (id := 0) (x := n5_c1) (by kernel_rfl) (n6_ok x3 x4 x8 ds Kn Kn Kr g hg h hS) ?_
  intro e g' h' hq
  cases e <;> exact hq
def Q2 (Kn : T3) (Kr : T0) : XPost
  | .normal, g, h => D3 Kn g h
  | .ret, g, h => D0 Kr g h
  | _, _, _ => False
abbrev n4 (x0b : Option Addr) (x0n x0c : Nat) (x3 x4 : Addr) (ds : List Deferred) (Kn Kr : T0) (h : H) : Prop :=
  HCalls Tryz.prog 136 ⟨[.slice x0b x0n x0c]⟩ h fun v90 h91 => n5 x3 x4 v90 ds Kn Kr h91
theorem n4_ok (x0b : Option Addr) (x0n x0c : Nat) (x3 x4 : Addr) (ds : List Deferred) (Kn Kr : T0) (g : Env) (hg : E2 g x0b x0n x0c x3 x4 ds) (h : H) (hS : n4 x0b x0n x0c x3 x4 ds Kn Kr h) : wpC none Tryz.prog 21 n2_c1 (Q0 Kn Kr) g h := by
  obtain ⟨hg0, hg3, hg4, hds⟩ := hg
  refine wpC_seq' (x := n4_c1) (y := n4_c2) (Q' := (Q2 (fun z3 z4 z8 zds h => n5 z3 z4 z8 zds Kn Kr h) Kr)) (by kernel_rfl) ?_ ?_
  · refine wpC_of_wpx (by kernel_rfl) (by kernel_rfl) (g' := (((⟨g.v, ds⟩ : Env).upd (some 0) (.slice x0b x0n x0c)).upd (some 3) (.pointer (some x3))).upd (some 4) (.pointer (some x4))) (by rw [env_ds hds, upd_self hg0, upd_self hg3, upd_self hg4]) ?_
    have e : (n4 x0b x0n x0c x3 x4 ds Kn Kr h) = wpx none Tryz.prog 21 n4_c1 (Q2 (fun z3 z4 z8 zds h => n5 z3 z4 z8 zds Kn Kr h) Kr) ((((⟨g.v, ds⟩ : Env).upd (some 0) (.slice x0b x0n x0c)).upd (some 3) (.pointer (some x3))).upd (some 4) (.pointer (some x4))) h := by kernel_rfl
    exact e ▸ hS
  · intro e g' h' hq
    cases e with
    | normal =>
      have hq : D3 (fun z3 z4 z8 zds h => n5 z3 z4 z8 zds Kn Kr h) g' h' := hq
      obtain ⟨y3, y4, y8, yds, hg', hq⟩ := D3_ok hq
      exact n5_ok y3 y4 y8 yds Kn Kr g' hg' h' hq
    | _ => exact hq
abbrev n2 (x0b : Option Addr) (x0n x0c : Nat) (x3 x4 : Addr) (ds : List Deferred) (Kn Kr : T0) (h : H) : Prop := n4 x0b x0n x0c x3 x4 ds (fun z4 zds h => n3 z4 zds Kn Kr h) Kr h
theorem n2_ok (x0b : Option Addr) (x0n x0c : Nat) (x3 x4 : Addr) (ds : List Deferred) (Kn Kr : T0) (g : Env) (hg : E2 g x0b x0n x0c x3 x4 ds) (h : H) (hS : n2 x0b x0n x0c x3 x4 ds Kn Kr h) : wpC none Tryz.prog 21 n1_c2 (Q0 Kn Kr) g h := by
  refine wpC_seq' (x := n2_c1) (y := n2_c2) (by kernel_rfl) (n4_ok x0b x0n x0c x3 x4 ds (fun z4 zds h => n3 z4 zds Kn Kr h) Kr g hg h hS) ?_
  intro e g' h' hq
  cases e with
  | normal =>
    have hq : D0 (fun z4 zds h => n3 z4 zds Kn Kr h) g' h' := hq
    obtain ⟨y4, yds, hg', hq⟩ := D0_ok hq
    exact n3_ok y4 yds Kn Kr g' hg' h' hq
  | _ => exact hq
def Q3 (Kn : T2) (Kr : T0) : XPost
  | .normal, g, h => D2 Kn g h
  | .ret, g, h => D0 Kr g h
  | _, _, _ => False
abbrev n1 (x0b : Option Addr) (x0n x0c : Nat) (x1b : Option Addr) (x1n x1c : Nat) (ds : List Deferred) (Kn Kr : T0) (h : H) : Prop :=
  newx h #[.slice x1b x1n x1c] 39 fun a92 h93 => newx h93 #[.int .i64 (0 : Int)] 3 fun a94 h95 => n2 x0b x0n x0c a92 a94 ds Kn Kr h95
theorem n1_ok (x0b : Option Addr) (x0n x0c : Nat) (x1b : Option Addr) (x1n x1c : Nat) (ds : List Deferred) (Kn Kr : T0) (g : Env) (hg : E1 g x0b x0n x0c x1b x1n x1c ds) (h : H) (hS : n1 x0b x0n x0c x1b x1n x1c ds Kn Kr h) : wpC none Tryz.prog 21 code (Q0 Kn Kr) g h := by
  obtain ⟨hg0, hg1, hds⟩ := hg
  refine wpC_seq' (x := n1_c1) (y := n1_c2) (Q' := (Q3 (fun z0b z0n z0c z3 z4 zds h => n2 z0b z0n z0c z3 z4 zds Kn Kr h) Kr)) (by kernel_rfl) ?_ ?_
  · refine wpC_of_wpx (by kernel_rfl) (by kernel_rfl) (g' := ((⟨g.v, ds⟩ : Env).upd (some 0) (.slice x0b x0n x0c)).upd (some 1) (.slice x1b x1n x1c)) (by rw [env_ds hds, upd_self hg0, upd_self hg1]) ?_
    have e : (n1 x0b x0n x0c x1b x1n x1c ds Kn Kr h) = wpx none Tryz.prog 21 n1_c1 (Q3 (fun z0b z0n z0c z3 z4 zds h => n2 z0b z0n z0c z3 z4 zds Kn Kr h) Kr) (((⟨g.v, ds⟩ : Env).upd (some 0) (.slice x0b x0n x0c)).upd (some 1) (.slice x1b x1n x1c)) h := by kernel_rfl
    exact e ▸ hS
  · intro e g' h' hq
    cases e with
    | normal =>
      have hq : D2 (fun z0b z0n z0c z3 z4 zds h => n2 z0b z0n z0c z3 z4 zds Kn Kr h) g' h' := hq
      obtain ⟨y0b, y0n, y0c, y3, y4, yds, hg', hq⟩ := D2_ok hq
      exact n2_ok y0b y0n y0c y3 y4 yds Kn Kr g' hg' h' hq
    | _ => exact hq
abbrev asks (x0b : Option Addr) (x0n x0c : Nat) (x1b : Option Addr) (x1n x1c : Nat) (K : Value -> H -> Prop) (h : H) : Prop := n1 x0b x0n x0c x1b x1n x1c [] (fun y4 ds h => leaveX ds h fun h => ∃ i96, cell h y4 = some (.int .i64 i96) /\ (K (.int .i64 i96) h)) (fun y4 ds h => leaveX ds h fun h => ∃ i96, cell h y4 = some (.int .i64 i96) /\ (K (.int .i64 i96) h)) h
theorem ok (x0b : Option Addr) (x0n x0c : Nat) (x1b : Option Addr) (x1n x1c : Nat) (K : Value -> H -> Prop) (h : H) (hS : asks x0b x0n x0c x1b x1n x1c K h) : HCalls Tryz.prog 62 ⟨[.slice x0b x0n x0c, .slice x1b x1n x1c]⟩ h K := by
  refine calls_of_wpC (c := code) Tryz.func62 (by kernel_rfl) (Nat.le_of_ble_eq_true (by kernel_rfl)) ?_
  refine (n1_ok x0b x0n x0c x1b x1n x1c [] (fun y4 ds h => leaveX ds h fun h => ∃ i96, cell h y4 = some (.int .i64 i96) /\ (K (.int .i64 i96) h)) (fun y4 ds h => leaveX ds h fun h => ∃ i96, cell h y4 = some (.int .i64 i96) /\ (K (.int .i64 i96) h)) (env0 [.slice x0b x0n x0c, .slice x1b x1n x1c]) ⟨rfl, rfl, rfl⟩ h hS).mono ?_
  intro e g' h' hq
  cases e with
  | normal =>
    have hq : D0 (fun y4 ds h => leaveX ds h fun h => ∃ i96, cell h y4 = some (.int .i64 i96) /\ (K (.int .i64 i96) h)) g' h' := hq
    obtain ⟨y4, ds, ⟨hg4, hd⟩, hq⟩ := D0_ok hq
    show leaveX g'.ds h' _
    rw [hd]
    show leaveX ds h' fun h => vAddr (g'.v 4) fun a97 => ldx Tryz.prog 3 a97 h fun v98 => K v98 h
    rw [hg4]
    exact hq
  | ret =>
    have hq : D0 (fun y4 ds h => leaveX ds h fun h => ∃ i96, cell h y4 = some (.int .i64 i96) /\ (K (.int .i64 i96) h)) g' h' := hq
    obtain ⟨y4, ds, ⟨hg4, hd⟩, hq⟩ := D0_ok hq
    show leaveX g'.ds h' _
    rw [hd]
    show leaveX ds h' fun h => vAddr (g'.v 4) fun a97 => ldx Tryz.prog 3 a97 h fun v98 => K v98 h
    rw [hg4]
    exact hq
  | _ => exact hq
end Sx.marks_Lost
namespace Sx.slices_Backward_apiMark
abbrev L0 : List Sl := [.o 2 .r]
variable (x0b : Option Addr) (x0n x0c : Nat)
variable (K : Value -> H -> Prop) (h : H)
abbrev asks : Prop := cF L0 (fun Kr => newx h #[.slice x0b x0n x0c] 40 fun a1 h2 => Kr (.func (.func 182) ⟨[]⟩ ⟨[.pointer (some a1)]⟩) h2) fun y2 h => K y2 h
theorem ok (hS : asks x0b x0n x0c K h) : HCalls Tryz.prog 136 ⟨[.slice x0b x0n x0c]⟩ h K :=
  cl Tryz.func136 hS (fun hg hS => lf hg hS) fun hg hS => rt hg hS
end Sx.slices_Backward_apiMark
namespace Sx.slices_ContainsFunc_apiOpen
abbrev L0 : List Sl := [.o 4 .b]
variable (x0b : Option Addr) (x0n x0c : Nat) (x1 : Value)
variable (K : Value -> H -> Prop) (h : H)
abbrev asks : Prop := cF L0 (fun Kr => HCalls Tryz.prog 183 ⟨[.slice x0b x0n x0c, x1]⟩ h fun v1 h2 => vInt .i64 v1 fun i3 => Spl (i3 ≥ (0 : Int)) (Kr true h2) (Kr false h2)) fun y4 h => K (.bool y4) h
theorem ok (hS : asks x0b x0n x0c x1 K h) : HCalls Tryz.prog 137 ⟨[.slice x0b x0n x0c, x1]⟩ h K :=
  cl Tryz.func137 hS (fun hg hS => lf hg hS) fun hg hS => rt hg hS
end Sx.slices_ContainsFunc_apiOpen
namespace Sx.marks_Lost_1
abbrev L0 : List Sl := [.o 3 .b]
variable (x0_0 x0_1 : Int) (x0_2 : List UInt8) (x0_3 : Int) (x1 : Addr)
variable (K : Value -> H -> Prop) (h : H)
abbrev asks : Prop := cF L0 (fun Kr => newx h ⟨[.int .i64 x0_0, .int .u8 x0_1, S x0_2, .int .u8 x0_3]⟩ 77 fun a1 h2 => ∃ i3, cell h2 (a1.add 0) = some (.int .i64 i3) /\ (∃ i4, cell h2 (x1.add 0) = some (.int .i64 i4) /\ (Spl (i3 = i4) (Kr true h2) (Kr false h2)))) fun y3 h => K (.bool y3) h
theorem ok (hS : asks x0_0 x0_1 x0_2 x0_3 x1 K h) : HCalls Tryz.prog 138 ⟨[(.agg ⟨[.int .i64 x0_0, .int .u8 x0_1, S x0_2, .int .u8 x0_3]⟩), .pointer (some x1)]⟩ h K :=
  cl Tryz.func138 hS (fun hg hS => lf hg hS) fun hg hS => rt hg hS
end Sx.marks_Lost_1
namespace Sx.slices_Backward_1_apiMark1
abbrev L2 : List Sl := [.o 0 .r, .o 1 .a, .o 3 (.i .i64)]
abbrev L0 : List Sl := []
abbrev T0 := TK L0
abbrev T2 := TK L2
variable (x0 : Value) (x1 : Addr)
abbrev n3_B (Kn Ke0 Kr : T0) : T2 -> T2 := fun K1 x0 x1 x3 h => Spl (x3 ≥ (0 : Int)) (∃ s1b s1n s1c, cell h x1 = some (.slice s1b s1n s1c) /\ ((0 <= x3 /\ x3 < (s1n : Int)) /\ (vSome s1b fun a2 => ∃ i3, cell h (((a2.add (Int.toNat x3 * 3))).add 0) = some (.int .i64 i3) /\ (∃ s4, cell h (((a2.add (Int.toNat x3 * 3))).add 1) = some (S s4) /\ (∃ s5b s5n s5c, cell h (((a2.add (Int.toNat x3 * 3))).add 2) = some (.slice s5b s5n s5c) /\ (CallV Tryz.prog 4 x0 ⟨[.int .i64 x3, (.agg ⟨[.int .i64 i3, S s4, .slice s5b s5n s5c]⟩)]⟩ h fun v6 h7 => vBool v6 fun b8 => cond b8 (Rng .i64 (x3 - (1 : Int)) /\ (K1 x0 x1 (x3 - (1 : Int)) h7)) (Kr h7))))))) (Ke0 h)
abbrev n3_L (Kn Ke0 Kr : T0) : Nat -> T2 := LP L2 (n3_B Kn Ke0 Kr)
variable (K : Value -> H -> Prop) (h : H)
abbrev asks (x0 : Value) (x1 : Addr) (K : Value -> H -> Prop) (h : H) : Prop := cF L0 (fun Kr => sqF L2 (fun K2 => ∃ s9b s9n s9c, cell h x1 = some (.slice s9b s9n s9c) /\ (Rng .i64 ((s9n : Int) - (1 : Int)) /\ (K2 x0 x1 ((s9n : Int) - (1 : Int)) h))) fun x0 x1 x3 h => lpF L2 (n3_B Kr Kr Kr) fun K1 => K1 x0 x1 x3 h) fun h => K (.tuple ⟨[]⟩) h
theorem ok (hS : asks x0 x1 K h) : HCalls Tryz.prog 182 ⟨[x0, .pointer (some x1)]⟩ h K :=
  cl Tryz.func182 hS (fun hg hS => sq (l := L2) hg hS fun hg hS => bl (b := 0) (lp hg hS fun hg hS => lf hg hS)) fun hg hS => rt hg hS
end Sx.slices_Backward_1_apiMark1
namespace Sx.slices_Clone_apiMark
abbrev L0 : List Sl := [.o 2 .l]
variable (x0b : Option Addr) (x0n x0c : Nat)
variable (K : Value -> H -> Prop) (h : H)
abbrev asks : Prop := cF L0 (fun Kr => SemH Tryz.prog (binS .eql 40 (.tmp 3) (.const (.slice none 0 0)) (.slice x0b x0n x0c) (.slice none 0 0)) h fun v1 h2 => vBool v1 fun b3 => cond b3 (Kr none 0 0 h2) (newx h2 #[] 79 fun a4 h5 => SemH Tryz.prog (Builtin.append_ #[40, 40] 40 ⟨[.slice (some a4) 0 0, .slice x0b x0n x0c]⟩) h5 fun v6 h7 => vSlice v6 fun s8b s8n s8c => Kr s8b s8n s8c h7)) fun y2b y2n y2c h => K (.slice y2b y2n y2c) h
theorem ok (hS : asks x0b x0n x0c K h) : HCalls Tryz.prog 63 ⟨[.slice x0b x0n x0c]⟩ h K :=
  cl Tryz.func63 hS (fun hg hS => lf hg hS) fun hg hS => rt hg hS
end Sx.slices_Clone_apiMark
end Go.Proofs
