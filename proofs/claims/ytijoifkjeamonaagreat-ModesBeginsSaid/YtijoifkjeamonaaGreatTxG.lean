/- The shallow forms of functions, printed by sh.py out of the translation; each with its proof. No condition. -/
import Derived.Test.YtijoifkjeamonaaGreatShQ
import Derived.Test.YtijoifkjeamonaaGreatProg
namespace Go.Proofs
open Go Go.Sh
set_option linter.unusedVariables false
set_option maxRecDepth 100000
namespace Sx.slices_IndexFunc_apiMark
abbrev L2 : List Sl := []
abbrev L3 : List Sl := [.o 0 .l, .o 1 .r, .o 7 (.i .i64), .o 8 (.i .i64)]
abbrev L0 : List Sl := [.o 4 (.i .i64)]
abbrev L1 : List Sl := [.o 0 .l, .o 1 .r]
abbrev T2 := TK L2
abbrev T0 := TK L0
abbrev T3 := TK L3
variable (x0b : Option Addr) (x0n x0c : Nat) (x1 : Value)
abbrev n6_B (Kn Ke0 : T2) (Kr : T0) : T3 -> T3 := fun K2 x0b x0n x0c x1 x7 x8 h => Spl (x8 < x7) ((0 <= x8 /\ x8 < (x0n : Int)) /\ (vSome x0b fun a1 => ∃ i2, cell h (((a1.add (Int.toNat x8 * 3))).add 0) = some (.int .i64 i2) /\ (∃ s3, cell h (((a1.add (Int.toNat x8 * 3))).add 1) = some (S s3) /\ (∃ s4b s4n s4c, cell h (((a1.add (Int.toNat x8 * 3))).add 2) = some (.slice s4b s4n s4c) /\ (CallV Tryz.prog 4 x1 ⟨[(.agg ⟨[.int .i64 i2, S s3, .slice s4b s4n s4c]⟩)]⟩ h fun v5 h6 => vBool v5 fun b7 => cond b7 (Kr x8 h6) (Rng .i64 (x8 + (1 : Int)) /\ (K2 x0b x0n x0c x1 x7 (x8 + (1 : Int)) h6))))))) (Ke0 h)
abbrev n6_L (Kn Ke0 : T2) (Kr : T0) : Nat -> T3 := LP L3 (n6_B Kn Ke0 Kr)
variable (K : Value -> H -> Prop) (h : H)
abbrev asks (x0b : Option Addr) (x0n x0c : Nat) (x1 : Value) (K : Value -> H -> Prop) (h : H) : Prop := cF L0 (fun Kr => sqF L1 (fun K4 => K4 x0b x0n x0c x1 h) fun x0b x0n x0c x1 h => sqF L2 (fun K1 => sqF L3 (fun K3 => K3 x0b x0n x0c x1 (x0n : Int) (0 : Int) h) fun x0b x0n x0c x1 x7 x8 h => lpF L3 (n6_B K1 K1 Kr) fun K2 => K2 x0b x0n x0c x1 x7 x8 h) fun h => Kr (-1 : Int) h) fun y4 h => K (.int .i64 y4) h
theorem ok (hS : asks x0b x0n x0c x1 K h) : HCalls Tryz.prog 193 ⟨[.slice x0b x0n x0c, x1]⟩ h K :=
  cl Tryz.func193 hS (fun hg hS => sq (l := L1) hg hS fun hg hS => sc (l := L2) hS (fun hS => sq (l := L3) hg hS fun hg hS => bl (b := 0) (lp hg hS fun hg hS => lf hg hS)) fun hg hS => lf hg hS) fun hg hS => rt hg hS
end Sx.slices_IndexFunc_apiMark
namespace Sx.marks_Find_1
abbrev L0 : List Sl := [.o 3 .b]
variable (x0_0 : Int) (x0_1 : List UInt8) (x0_2b : Option Addr) (x0_2n x0_2c : Nat) (x1 : Addr)
variable (K : Value -> H -> Prop) (h : H)
abbrev asks : Prop := cF L0 (fun Kr => newx h ⟨[.int .i64 x0_0, S x0_1, .slice x0_2b x0_2n x0_2c]⟩ 79 fun a1 h2 => ∃ i3, cell h2 (a1.add 0) = some (.int .i64 i3) /\ (∃ i4, cell h2 x1 = some (.int .i64 i4) /\ (Spl (i3 = i4) (Kr true h2) (Kr false h2)))) fun y3 h => K (.bool y3) h
theorem ok (hS : asks x0_0 x0_1 x0_2b x0_2n x0_2c x1 K h) : HCalls Tryz.prog 221 ⟨[(.agg ⟨[.int .i64 x0_0, S x0_1, .slice x0_2b x0_2n x0_2c]⟩), .pointer (some x1)]⟩ h K :=
  cl Tryz.func221 hS (fun hg hS => lf hg hS) fun hg hS => rt hg hS
end Sx.marks_Find_1
namespace Sx.marks_Find
abbrev L0 : List Sl := [.o 4 (.i .i64)]
variable (x0b : Option Addr) (x0n x0c : Nat) (x1 : Int)
variable (K : Value -> H -> Prop) (h : H)
abbrev asks : Prop := cF L0 (fun Kr => newx h #[.int .i64 x1] 3 fun a1 h2 => ∃ i3, cell h2 a1 = some (.int .i64 i3) /\ (Spl (i3 < (0 : Int)) (Kr (-1 : Int) h2) (HCalls Tryz.prog 193 ⟨[.slice x0b x0n x0c, (.func (.func 221) ⟨[]⟩ ⟨[.pointer (some a1)]⟩)]⟩ h2 fun v4 h5 => vInt .i64 v4 fun i6 => Kr i6 h5))) fun y4 h => K (.int .i64 y4) h
theorem ok (hS : asks x0b x0n x0c x1 K h) : HCalls Tryz.prog 201 ⟨[.slice x0b x0n x0c, .int .i64 x1]⟩ h K :=
  cl Tryz.func201 hS (fun hg hS => lf hg hS) fun hg hS => rt hg hS
end Sx.marks_Find
namespace Sx.marks_Last
noncomputable def code : Code := bodyOf Tryz.f152
abbrev T0 := Addr -> (List Deferred) -> H -> Prop
def E0 (g : Env) (x4 : Addr) (ds : List Deferred) : Prop := g.v 4 = (.pointer (some x4)) /\ g.ds = ds
def D0 (K : T0) (g : Env) (h : H) : Prop := vAddr (g.v 4) fun a1 => K a1 g.ds h
theorem D0_ok {K : T0} {g : Env} {h : H} (hq : D0 K g h) : ∃ (x4 : Addr) (ds : List Deferred), E0 g x4 ds /\ K x4 ds h := by
  obtain ⟨y3, e2, q4⟩ := vAddr_ok hq
  exact ⟨y3, g.ds, ⟨e2, rfl⟩, q4⟩
def Q0 (Kn Kr : T0) : XPost
  | .normal, g, h => D0 Kn g h
  | .ret, g, h => D0 Kr g h
  | _, _, _ => False
def E1 (g : Env) (x0b : Option Addr) (x0n x0c : Nat) (x1 : List UInt8) (ds : List Deferred) : Prop := g.v 0 = (.slice x0b x0n x0c) /\ g.v 1 = (S x1) /\ g.ds = ds
noncomputable def n1_c1 : Code := cFst code
noncomputable def n1_c2 : Code := cSnd code
abbrev T2 := (Option Addr) -> Nat -> Nat -> Addr -> Addr -> (List Deferred) -> H -> Prop
def E2 (g : Env) (x0b : Option Addr) (x0n x0c : Nat) (x3 x4 : Addr) (ds : List Deferred) : Prop := g.v 0 = (.slice x0b x0n x0c) /\ g.v 3 = (.pointer (some x3)) /\ g.v 4 = (.pointer (some x4)) /\ g.ds = ds
def D2 (K : T2) (g : Env) (h : H) : Prop := vSlice (g.v 0) fun s13b s13n s13c => vAddr (g.v 3) fun a14 => vAddr (g.v 4) fun a15 => K s13b s13n s13c a14 a15 g.ds h
theorem D2_ok {K : T2} {g : Env} {h : H} (hq : D2 K g h) : ∃ (x0b : Option Addr) (x0n x0c : Nat) (x3 x4 : Addr) (ds : List Deferred), E2 g x0b x0n x0c x3 x4 ds /\ K x0b x0n x0c x3 x4 ds h := by
  obtain ⟨y17b, y17n, y17c, e16, q18⟩ := vSlice_ok hq
  obtain ⟨y20, e19, q21⟩ := vAddr_ok q18
  obtain ⟨y23, e22, q24⟩ := vAddr_ok q21
  exact ⟨y17b, y17n, y17c, y20, y23, g.ds, ⟨e16, e19, e22, rfl⟩, q24⟩
noncomputable def n2_c1 : Code := cFst n1_c2
noncomputable def n3_c1 : Code := cFst n2_c1
noncomputable def n3_c2 : Code := cSnd n2_c1
noncomputable def n4_c1 : Code := cFst n3_c2
noncomputable def n4_c2 : Code := cSnd n3_c2
abbrev n5 (x4 : Addr) (ds : List Deferred) (Kn Kr : T0) (h : H) : Prop :=
  stL x4 [.int .i64 (-1 : Int)] 0 h fun h25 => Kr x4 ds h25
theorem n5_ok (x4 : Addr) (ds : List Deferred) (Kn Kr : T0) (g : Env) (hg : E0 g x4 ds) (h : H) (hS : n5 x4 ds Kn Kr h) : wpC none Tryz.prog 21 n4_c2 (Q0 Kn Kr) g h := by
  obtain ⟨hg4, hds⟩ := hg
  refine wpC_of_wpx (by kernel_rfl) (by kernel_rfl) (g' := (⟨g.v, ds⟩ : Env).upd (some 4) (.pointer (some x4))) (by rw [env_ds hds, upd_self hg4]) ?_
  have e : (n5 x4 ds Kn Kr h) = wpx none Tryz.prog 21 n4_c2 (Q0 Kn Kr) ((⟨g.v, ds⟩ : Env).upd (some 4) (.pointer (some x4))) h := by kernel_rfl
  exact e ▸ hS
noncomputable def n6_c1 : Code := cFst n4_c1
noncomputable def n6_c2 : Code := cSnd n4_c1
abbrev T3 := Addr -> Addr -> Value -> (List Deferred) -> H -> Prop
def E3 (g : Env) (x3 x4 : Addr) (x8 : Value) (ds : List Deferred) : Prop := g.v 3 = (.pointer (some x3)) /\ g.v 4 = (.pointer (some x4)) /\ g.v 8 = x8 /\ g.ds = ds
def D3 (K : T3) (g : Env) (h : H) : Prop := vAddr (g.v 3) fun a26 => vAddr (g.v 4) fun a27 => K a26 a27 (g.v 8) g.ds h
theorem D3_ok {K : T3} {g : Env} {h : H} (hq : D3 K g h) : ∃ (x3 x4 : Addr) (x8 : Value) (ds : List Deferred), E3 g x3 x4 x8 ds /\ K x3 x4 x8 ds h := by
  obtain ⟨y29, e28, q30⟩ := vAddr_ok hq
  obtain ⟨y32, e31, q33⟩ := vAddr_ok q30
  exact ⟨y29, y32, (g.v 8), g.ds, ⟨e28, e31, rfl, rfl⟩, q33⟩
noncomputable def n7_c1 : Code := cFst n6_c2
def Q1 (Kn Ke0 Kr : T0) : XPost
  | .normal, g, h => D0 Kn g h
  | .ret, g, h => D0 Kr g h
  | .exit id, g, h => cond (Nat.beq id 0) (D0 Ke0 g h) (False)
  | _, _, _ => False
noncomputable def n8_c1 : Code := cFst n7_c1
noncomputable def n8_c2 : Code := cSnd n7_c1
def n8_rd (x3 x4 : Addr) (x8 : Value) (ds : List Deferred) (Kn Ke0 Kr : T0) (h : H) (p9 p10_0 : Int) (p10_1 : List UInt8) (p10_2b : Option Addr) (p10_2n p10_2c : Nat) (Mid : H -> (H -> Prop) -> Prop) (Kc : H -> H -> Prop) (Fin : H -> H -> (H -> Prop) -> Prop) (h1 : H) : Prop :=
  newx h1 ⟨[.int .i64 (0 : Int), S ([] : List UInt8), .slice none 0 0]⟩ 79 fun a34 h35 => stL a34 [.int .i64 p10_0, S p10_1, .slice p10_2b p10_2n p10_2c] 0 h35 fun h36 => Mid h36 fun hb37 => ∃ i38, cell hb37 (a34.add 0) = some (.int .i64 i38) /\ (Spl (i38 < (0 : Int)) (Fin hb37 hb37 fun h39 => Ke0 x4 (markD h.size :: ds) h39) (∃ s40, cell hb37 (a34.add 1) = some (S s40) /\ (∃ s41, cell hb37 x3 = some (S s41) /\ (Spl (s40 = s41) (stL x4 [.int .i64 p9] 0 hb37 fun h42 => Fin hb37 h42 fun h43 => Kr x4 (markD h.size :: ds) h43) (Kc hb37 hb37)))))
abbrev n8 (x3 x4 : Addr) (x8 : Value) (ds : List Deferred) (Kn Ke0 Kr : T0) (h : H) : Prop := Ranges Tryz.prog x8 2 h (fun l44 Mid Kc Fin h1 => uncons l44 fun e45 l46 => vInt .i64 e45 fun i47 => uncons l46 fun e48 l49 => vAgg e48 fun l50 => uncons l50 fun e51 l52 => vInt .i64 e51 fun i53 => uncons l52 fun e54 l55 => vStr e54 fun s56 => uncons l55 fun e57 l58 => vSlice e57 fun s59b s59n s59c => unnil l58 (unnil l49 (n8_rd x3 x4 x8 ds Kn Ke0 Kr h i47 i53 s56 s59b s59n s59c Mid Kc Fin h1))) (fun h4 => Kn x4 (markD h.size :: ds) h4)
theorem n8_ok (x3 x4 : Addr) (x8 : Value) (ds : List Deferred) (Kn Ke0 Kr : T0) (g : Env) (hg : E3 g x3 x4 x8 ds) (h : H) (hS : n8 x3 x4 x8 ds Kn Ke0 Kr h) : wpC none Tryz.prog 21 n7_c1 (Q1 Kn Ke0 Kr) g h := by
  obtain ⟨hg3, hg4, hg8, hds⟩ := hg
  subst hds
  have ho : ((((⟨g.v, g.ds⟩ : Env).upd (some 3) (.pointer (some x3))).upd (some 4) (.pointer (some x4))).upd (some 8) x8 : Env) = g := by rw [env_ds rfl, upd_self hg3, upd_self hg4, upd_self hg8]
  have hc : n7_c1 = .rangeFunc (.tmp 8) #[9, 10] n8_c1 n8_c2 := by kernel_rfl
  rw [hc]
  refine wpC_range (f := x8) (rd := (fun l44 Mid Kc Fin h1 => uncons l44 fun e45 l46 => vInt .i64 e45 fun i47 => uncons l46 fun e48 l49 => vAgg e48 fun l50 => uncons l50 fun e51 l52 => vInt .i64 e51 fun i53 => uncons l52 fun e54 l55 => vStr e54 fun s56 => uncons l55 fun e57 l58 => vSlice e57 fun s59b s59n s59c => unnil l58 (unnil l49 (n8_rd x3 x4 x8 g.ds Kn Ke0 Kr h i47 i53 s56 s59b s59n s59c Mid Kc Fin h1)))) (done := (fun h4 => Kn x4 (markD h.size :: g.ds) h4)) ?_ hS ?_ ?_
  · rw [<- ho]; kernel_rfl
  · intro h4 hd
    have e : (Kn x4 (markD h.size :: g.ds) h4) = (Q1 Kn Ke0 Kr) .normal ⟨((((⟨g.v, g.ds⟩ : Env).upd (some 3) (.pointer (some x3))).upd (some 4) (.pointer (some x4))).upd (some 8) x8).v, markD h.size :: g.ds⟩ h4 := by kernel_rfl
    rw [ho] at e
    exact e ▸ hd
  · intro L x Mid Kc Fin h1 hM hx
    obtain ⟨u60, l61, rfl, q62⟩ := uncons_ok hx
    obtain ⟨y63, rfl, q64⟩ := vInt_ok q62
    obtain ⟨u65, l66, rfl, q67⟩ := uncons_ok q64
    obtain ⟨l68, rfl, q69⟩ := vAgg_ok q67
    obtain ⟨u70, l71, rfl, q72⟩ := uncons_ok q69
    obtain ⟨y73, rfl, q74⟩ := vInt_ok q72
    obtain ⟨u75, l76, rfl, q77⟩ := uncons_ok q74
    obtain ⟨y78, rfl, q79⟩ := vStr_ok q77
    obtain ⟨u80, l81, rfl, q82⟩ := uncons_ok q79
    obtain ⟨y83b, y83n, y83c, rfl, q84⟩ := vSlice_ok q82
    obtain ⟨rfl, q85⟩ := unnil_ok q84
    obtain ⟨rfl, q86⟩ := unnil_ok q85
    have e : (n8_rd x3 x4 x8 g.ds Kn Ke0 Kr h y63 y73 y78 y83b y83n y83c Mid Kc Fin h1) = wpx (some L) Tryz.prog 21 n8_c1 (thenX (fun g1 he => Mid he fun hb => wpx (some L) Tryz.prog 21 n8_c2 (rpost Kc Fin (Q1 Kn Ke0 Kr) ⟨((((⟨g.v, g.ds⟩ : Env).upd (some 3) (.pointer (some x3))).upd (some 4) (.pointer (some x4))).upd (some 8) x8).v, markD h.size :: g.ds⟩ hb) g1 hb) fun _ _ _ => False) (setps ((((⟨g.v, g.ds⟩ : Env).upd (some 3) (.pointer (some x3))).upd (some 4) (.pointer (some x4))).upd (some 8) x8) [9, 10] [.int .i64 y63, (.agg ⟨[.int .i64 y73, S y78, .slice y83b y83n y83c]⟩)]) h1 := by kernel_rfl
    rw [ho] at e
    exact (wpx_ok (by kernel_rfl) _ _ _ _ (by kernel_rfl) (e ▸ q86)).mono (thenX_mono fun g1 he hm => hM he _ _ (fun hb => wpx_ok (by kernel_rfl) _ _ _ _ (by kernel_rfl)) hm)
abbrev n7 (x3 x4 : Addr) (x8 : Value) (ds : List Deferred) (Kn Kr : T0) (h : H) : Prop := n8 x3 x4 x8 ds Kn Kn Kr h
theorem n7_ok (x3 x4 : Addr) (x8 : Value) (ds : List Deferred) (Kn Kr : T0) (g : Env) (hg : E3 g x3 x4 x8 ds) (h : H) (hS : n7 x3 x4 x8 ds Kn Kr h) : wpC none Tryz.prog 21 n6_c2 (Q0 Kn Kr) g h := by
  refine wpC_block' (id := 0) (x := n7_c1) (by kernel_rfl) (n8_ok x3 x4 x8 ds Kn Kn Kr g hg h hS) ?_
  intro e g' h' hq
  cases e <;> exact hq
def Q2 (Kn : T3) (Kr : T0) : XPost
  | .normal, g, h => D3 Kn g h
  | .ret, g, h => D0 Kr g h
  | _, _, _ => False
abbrev n6 (x0b : Option Addr) (x0n x0c : Nat) (x3 x4 : Addr) (ds : List Deferred) (Kn Kr : T0) (h : H) : Prop :=
  HCalls Tryz.prog 136 ⟨[.slice x0b x0n x0c]⟩ h fun v87 h88 => n7 x3 x4 v87 ds Kn Kr h88
theorem n6_ok (x0b : Option Addr) (x0n x0c : Nat) (x3 x4 : Addr) (ds : List Deferred) (Kn Kr : T0) (g : Env) (hg : E2 g x0b x0n x0c x3 x4 ds) (h : H) (hS : n6 x0b x0n x0c x3 x4 ds Kn Kr h) : wpC none Tryz.prog 21 n4_c1 (Q0 Kn Kr) g h := by
  obtain ⟨hg0, hg3, hg4, hds⟩ := hg
  refine wpC_seq' (x := n6_c1) (y := n6_c2) (Q' := (Q2 (fun z3 z4 z8 zds h => n7 z3 z4 z8 zds Kn Kr h) Kr)) (by kernel_rfl) ?_ ?_
  · refine wpC_of_wpx (by kernel_rfl) (by kernel_rfl) (g' := (((⟨g.v, ds⟩ : Env).upd (some 0) (.slice x0b x0n x0c)).upd (some 3) (.pointer (some x3))).upd (some 4) (.pointer (some x4))) (by rw [env_ds hds, upd_self hg0, upd_self hg3, upd_self hg4]) ?_
    have e : (n6 x0b x0n x0c x3 x4 ds Kn Kr h) = wpx none Tryz.prog 21 n6_c1 (Q2 (fun z3 z4 z8 zds h => n7 z3 z4 z8 zds Kn Kr h) Kr) ((((⟨g.v, ds⟩ : Env).upd (some 0) (.slice x0b x0n x0c)).upd (some 3) (.pointer (some x3))).upd (some 4) (.pointer (some x4))) h := by kernel_rfl
    exact e ▸ hS
  · intro e g' h' hq
    cases e with
    | normal =>
      have hq : D3 (fun z3 z4 z8 zds h => n7 z3 z4 z8 zds Kn Kr h) g' h' := hq
      obtain ⟨y3, y4, y8, yds, hg', hq⟩ := D3_ok hq
      exact n7_ok y3 y4 y8 yds Kn Kr g' hg' h' hq
    | _ => exact hq
abbrev n4 (x0b : Option Addr) (x0n x0c : Nat) (x3 x4 : Addr) (ds : List Deferred) (Kn Kr : T0) (h : H) : Prop := n6 x0b x0n x0c x3 x4 ds (fun z4 zds h => n5 z4 zds Kn Kr h) Kr h
theorem n4_ok (x0b : Option Addr) (x0n x0c : Nat) (x3 x4 : Addr) (ds : List Deferred) (Kn Kr : T0) (g : Env) (hg : E2 g x0b x0n x0c x3 x4 ds) (h : H) (hS : n4 x0b x0n x0c x3 x4 ds Kn Kr h) : wpC none Tryz.prog 21 n3_c2 (Q0 Kn Kr) g h := by
  refine wpC_seq' (x := n4_c1) (y := n4_c2) (by kernel_rfl) (n6_ok x0b x0n x0c x3 x4 ds (fun z4 zds h => n5 z4 zds Kn Kr h) Kr g hg h hS) ?_
  intro e g' h' hq
  cases e with
  | normal =>
    have hq : D0 (fun z4 zds h => n5 z4 zds Kn Kr h) g' h' := hq
    obtain ⟨y4, yds, hg', hq⟩ := D0_ok hq
    exact n5_ok y4 yds Kn Kr g' hg' h' hq
  | _ => exact hq
def Q3 (Kn : T2) (Kr : T0) : XPost
  | .normal, g, h => D2 Kn g h
  | .ret, g, h => D0 Kr g h
  | _, _, _ => False
abbrev n3 (x0b : Option Addr) (x0n x0c : Nat) (x3 x4 : Addr) (ds : List Deferred) (Kn Kr : T0) (h : H) : Prop :=
  n4 x0b x0n x0c x3 x4 ds Kn Kr h
theorem n3_ok (x0b : Option Addr) (x0n x0c : Nat) (x3 x4 : Addr) (ds : List Deferred) (Kn Kr : T0) (g : Env) (hg : E2 g x0b x0n x0c x3 x4 ds) (h : H) (hS : n3 x0b x0n x0c x3 x4 ds Kn Kr h) : wpC none Tryz.prog 21 n2_c1 (Q0 Kn Kr) g h := by
  obtain ⟨hg0, hg3, hg4, hds⟩ := hg
  refine wpC_seq' (x := n3_c1) (y := n3_c2) (Q' := (Q3 (fun z0b z0n z0c z3 z4 zds h => n4 z0b z0n z0c z3 z4 zds Kn Kr h) Kr)) (by kernel_rfl) ?_ ?_
  · refine wpC_of_wpx (by kernel_rfl) (by kernel_rfl) (g' := (((⟨g.v, ds⟩ : Env).upd (some 0) (.slice x0b x0n x0c)).upd (some 3) (.pointer (some x3))).upd (some 4) (.pointer (some x4))) (by rw [env_ds hds, upd_self hg0, upd_self hg3, upd_self hg4]) ?_
    have e : (n3 x0b x0n x0c x3 x4 ds Kn Kr h) = wpx none Tryz.prog 21 n3_c1 (Q3 (fun z0b z0n z0c z3 z4 zds h => n4 z0b z0n z0c z3 z4 zds Kn Kr h) Kr) ((((⟨g.v, ds⟩ : Env).upd (some 0) (.slice x0b x0n x0c)).upd (some 3) (.pointer (some x3))).upd (some 4) (.pointer (some x4))) h := by kernel_rfl
    exact e ▸ hS
  · intro e g' h' hq
    cases e with
    | normal =>
      have hq : D2 (fun z0b z0n z0c z3 z4 zds h => n4 z0b z0n z0c z3 z4 zds Kn Kr h) g' h' := hq
      obtain ⟨y0b, y0n, y0c, y3, y4, yds, hg', hq⟩ := D2_ok hq
      exact n4_ok y0b y0n y0c y3 y4 yds Kn Kr g' hg' h' hq
    | _ => exact hq
abbrev n2 (x0b : Option Addr) (x0n x0c : Nat) (x3 x4 : Addr) (ds : List Deferred) (Kn Kr : T0) (h : H) : Prop := n3 x0b x0n x0c x3 x4 ds Kn Kr h
theorem n2_ok (x0b : Option Addr) (x0n x0c : Nat) (x3 x4 : Addr) (ds : List Deferred) (Kn Kr : T0) (g : Env) (hg : E2 g x0b x0n x0c x3 x4 ds) (h : H) (hS : n2 x0b x0n x0c x3 x4 ds Kn Kr h) : wpC none Tryz.prog 21 n1_c2 (Q0 Kn Kr) g h := by
  refine wpC_scope (body := n2_c1) (by kernel_rfl) (fun _ _ _ _ => False) (fun _ _ _ h => h) (fun _ _ _ _ h => h.elim) 0 ((n3_ok x0b x0n x0c x3 x4 ds Kn Kr g hg h hS).mono ?_)
  intro e g' h' hq
  cases e <;> exact hq
abbrev n1 (x0b : Option Addr) (x0n x0c : Nat) (x1 : List UInt8) (ds : List Deferred) (Kn Kr : T0) (h : H) : Prop :=
  newx h #[S x1] 9 fun a89 h90 => newx h90 #[.int .i64 (0 : Int)] 3 fun a91 h92 => n2 x0b x0n x0c a89 a91 ds Kn Kr h92
theorem n1_ok (x0b : Option Addr) (x0n x0c : Nat) (x1 : List UInt8) (ds : List Deferred) (Kn Kr : T0) (g : Env) (hg : E1 g x0b x0n x0c x1 ds) (h : H) (hS : n1 x0b x0n x0c x1 ds Kn Kr h) : wpC none Tryz.prog 21 code (Q0 Kn Kr) g h := by
  obtain ⟨hg0, hg1, hds⟩ := hg
  refine wpC_seq' (x := n1_c1) (y := n1_c2) (Q' := (Q3 (fun z0b z0n z0c z3 z4 zds h => n2 z0b z0n z0c z3 z4 zds Kn Kr h) Kr)) (by kernel_rfl) ?_ ?_
  · refine wpC_of_wpx (by kernel_rfl) (by kernel_rfl) (g' := ((⟨g.v, ds⟩ : Env).upd (some 0) (.slice x0b x0n x0c)).upd (some 1) (S x1)) (by rw [env_ds hds, upd_self hg0, upd_self hg1]) ?_
    have e : (n1 x0b x0n x0c x1 ds Kn Kr h) = wpx none Tryz.prog 21 n1_c1 (Q3 (fun z0b z0n z0c z3 z4 zds h => n2 z0b z0n z0c z3 z4 zds Kn Kr h) Kr) (((⟨g.v, ds⟩ : Env).upd (some 0) (.slice x0b x0n x0c)).upd (some 1) (S x1)) h := by kernel_rfl
    exact e ▸ hS
  · intro e g' h' hq
    cases e with
    | normal =>
      have hq : D2 (fun z0b z0n z0c z3 z4 zds h => n2 z0b z0n z0c z3 z4 zds Kn Kr h) g' h' := hq
      obtain ⟨y0b, y0n, y0c, y3, y4, yds, hg', hq⟩ := D2_ok hq
      exact n2_ok y0b y0n y0c y3 y4 yds Kn Kr g' hg' h' hq
    | _ => exact hq
abbrev asks (x0b : Option Addr) (x0n x0c : Nat) (x1 : List UInt8) (K : Value -> H -> Prop) (h : H) : Prop := n1 x0b x0n x0c x1 [] (fun y4 ds h => leaveX ds h fun h => ∃ i93, cell h y4 = some (.int .i64 i93) /\ (K (.int .i64 i93) h)) (fun y4 ds h => leaveX ds h fun h => ∃ i93, cell h y4 = some (.int .i64 i93) /\ (K (.int .i64 i93) h)) h
theorem ok (x0b : Option Addr) (x0n x0c : Nat) (x1 : List UInt8) (K : Value -> H -> Prop) (h : H) (hS : asks x0b x0n x0c x1 K h) : HCalls Tryz.prog 152 ⟨[.slice x0b x0n x0c, S x1]⟩ h K := by
  refine calls_of_wpC (c := code) Tryz.func152 (by kernel_rfl) (Nat.le_of_ble_eq_true (by kernel_rfl)) ?_
  refine (n1_ok x0b x0n x0c x1 [] (fun y4 ds h => leaveX ds h fun h => ∃ i93, cell h y4 = some (.int .i64 i93) /\ (K (.int .i64 i93) h)) (fun y4 ds h => leaveX ds h fun h => ∃ i93, cell h y4 = some (.int .i64 i93) /\ (K (.int .i64 i93) h)) (env0 [.slice x0b x0n x0c, S x1]) ⟨rfl, rfl, rfl⟩ h hS).mono ?_
  intro e g' h' hq
  cases e with
  | normal =>
    have hq : D0 (fun y4 ds h => leaveX ds h fun h => ∃ i93, cell h y4 = some (.int .i64 i93) /\ (K (.int .i64 i93) h)) g' h' := hq
    obtain ⟨y4, ds, ⟨hg4, hd⟩, hq⟩ := D0_ok hq
    show leaveX g'.ds h' _
    rw [hd]
    show leaveX ds h' fun h => vAddr (g'.v 4) fun a94 => ldx Tryz.prog 3 a94 h fun v95 => K v95 h
    rw [hg4]
    exact hq
  | ret =>
    have hq : D0 (fun y4 ds h => leaveX ds h fun h => ∃ i93, cell h y4 = some (.int .i64 i93) /\ (K (.int .i64 i93) h)) g' h' := hq
    obtain ⟨y4, ds, ⟨hg4, hd⟩, hq⟩ := D0_ok hq
    show leaveX g'.ds h' _
    rw [hd]
    show leaveX ds h' fun h => vAddr (g'.v 4) fun a94 => ldx Tryz.prog 3 a94 h fun v95 => K v95 h
    rw [hg4]
    exact hq
  | _ => exact hq
end Sx.marks_Last
namespace Sx.open_bounds
abbrev L0 : List Sl := [.o 4 .b]
abbrev L3 : List Sl := [.o 2 .a]
abbrev L6 : List Sl := [.o 2 .a, .o 20 .b]
abbrev L7 : List Sl := [.o 1 (.i .u8), .o 2 .a, .o 20 .b]
abbrev L5 : List Sl := [.o 1 (.i .u8), .o 2 .a, .o 11 .b]
abbrev L4 : List Sl := [.o 1 (.i .u8), .o 2 .a, .o 5 .b]
abbrev L2 : List Sl := [.o 1 (.i .u8), .o 2 .a]
abbrev T0 := TK L0
abbrev T3 := TK L3
abbrev T6 := TK L6
variable (x0_0 x0_1 : Int) (x0_2 : List UInt8) (x0_3 x1 : Int) (x2 : Addr) (x20 : Bool)
abbrev n3 (Kn Kr : T0) (h : H) : Prop :=
  ∃ s1, cell h (x2.add 2) = some (S s1) /\ (HCalls Tryz.prog 157 ⟨[(S ([32, 97, 112, 112, 108, 101, 116, 32, 99, 97, 112, 116, 105, 111, 110, 32, 104, 116, 109, 108, 32, 109, 97, 114, 113, 117, 101, 101, 32, 111, 98, 106, 101, 99, 116, 32, 116, 97, 98, 108, 101, 32, 116, 100, 32, 116, 101, 109, 112, 108, 97, 116, 101, 32, 116, 104, 32] : List UInt8)), S s1]⟩ h fun v2 h3 => vBool v2 fun b4 => cond b4 (Kr true h3) (Kr false h3))
abbrev n12 (Kn Ke0 : T3) (Kr : T0) (h : H) : Prop :=
  cond x20 (Kr true h) (Kn x2 h)
abbrev n14 (Kn : T6) (Ke0 : T3) (Kr : T0) (h : H) : Prop :=
  cond x20 (Kn x2 x20 h) (Spl (x1 = (2 : Int)) (∃ i19, cell h (x2.add 0) = some (.int .i64 i19) /\ (∃ i20, cell h (x2.add 1) = some (.int .u8 i20) /\ (∃ s21, cell h (x2.add 2) = some (S s21) /\ (∃ i22, cell h (x2.add 3) = some (.int .u8 i22) /\ (newx h #[(S ([98, 117, 116, 116, 111, 110] : List UInt8))] 9 fun a23 h24 => HCalls Tryz.prog 179 ⟨[(.agg ⟨[.int .i64 i19, .int .u8 i20, S s21, .int .u8 i22]⟩), .slice (some a23) 1 1]⟩ h24 fun v25 h26 => vBool v25 fun b27 => cond b27 (Kn x2 true h26) (Kn x2 false h26)))))) (Kn x2 false h))
variable (K : Value -> H -> Prop) (h : H)
abbrev asks (x0_0 x0_1 : Int) (x0_2 : List UInt8) (x0_3 x1 : Int) (K : Value -> H -> Prop) (h : H) : Prop := cF L0 (fun Kr => sqF L2 (fun K6 => newx h ⟨[.int .i64 x0_0, .int .u8 x0_1, S x0_2, .int .u8 x0_3]⟩ 77 fun a38 h39 => K6 x1 a38 h39) fun x1 x2 h => sqF L3 (fun K1 => sqF L4 (fun K5 => Spl (x1 = (3 : Int)) (K5 x1 x2 true h) (K5 x1 x2 false h)) fun x1 x2 x5 h => cond x5 (∃ i5, cell h (x2.add 0) = some (.int .i64 i5) /\ (∃ i6, cell h (x2.add 1) = some (.int .u8 i6) /\ (∃ s7, cell h (x2.add 2) = some (S s7) /\ (∃ i8, cell h (x2.add 3) = some (.int .u8 i8) /\ (newx h #[(S ([104, 116, 109, 108] : List UInt8)), (S ([116, 97, 98, 108, 101] : List UInt8)), (S ([116, 101, 109, 112, 108, 97, 116, 101] : List UInt8))] 9 fun a9 h10 => HCalls Tryz.prog 179 ⟨[(.agg ⟨[.int .i64 i5, .int .u8 i6, S s7, .int .u8 i8]⟩), .slice (some a9) 3 3]⟩ h10 fun v11 h12 => vBool v11 fun b13 => cond b13 (Kr true h12) (Kr false h12)))))) (sqF L5 (fun K4 => ∃ i37, cell h (x2.add 1) = some (.int .u8 i37) /\ (Spl (i37 = (0 : Int)) (K4 x1 x2 false h) (K4 x1 x2 true h))) fun x1 x2 x11 h => cond x11 (∃ i14, cell h (x2.add 1) = some (.int .u8 i14) /\ (∃ s15, cell h (x2.add 2) = some (S s15) /\ (HCalls Tryz.prog 162 ⟨[.int .u8 i14, S s15]⟩ h fun v16 h17 => vBool v16 fun b18 => cond b18 (Kr true h17) (Kr false h17)))) (sqF L6 (fun K2 => sqF L7 (fun K3 => Spl (x1 = (1 : Int)) (∃ i28, cell h (x2.add 0) = some (.int .i64 i28) /\ (∃ i29, cell h (x2.add 1) = some (.int .u8 i29) /\ (∃ s30, cell h (x2.add 2) = some (S s30) /\ (∃ i31, cell h (x2.add 3) = some (.int .u8 i31) /\ (newx h #[(S ([111, 108] : List UInt8)), (S ([117, 108] : List UInt8))] 9 fun a32 h33 => HCalls Tryz.prog 179 ⟨[(.agg ⟨[.int .i64 i28, .int .u8 i29, S s30, .int .u8 i31]⟩), .slice (some a32) 2 2]⟩ h33 fun v34 h35 => vBool v34 fun b36 => cond b36 (K3 x1 x2 true h35) (K3 x1 x2 false h35)))))) (K3 x1 x2 false h)) fun x1 x2 x20 h => n14 x1 x2 x20 K2 K1 Kr h) fun x2 x20 h => n12 x2 x20 K1 K1 Kr h))) fun x2 h => n3 x2 Kr Kr h) fun y4 h => K (.bool y4) h
theorem ok (hS : asks x0_0 x0_1 x0_2 x0_3 x1 K h) : HCalls Tryz.prog 216 ⟨[(.agg ⟨[.int .i64 x0_0, .int .u8 x0_1, S x0_2, .int .u8 x0_3]⟩), .int .u8 x1]⟩ h K :=
  cl Tryz.func216 hS (fun hg hS => sq (l := L2) hg hS fun hg hS => sc (l := L3) hS (fun hS => bl (b := 0) (sq (l := L4) hg hS fun hg hS => cn (i := 5) hg hS (fun hg hS => lf hg hS) fun hg hS => sq (l := L5) hg hS fun hg hS => cn (i := 11) hg hS (fun hg hS => lf hg hS) fun hg hS => sc (l := L6) hS (fun hS => sq (l := L7) hg hS fun hg hS => lf hg hS) fun hg hS => lf hg hS)) fun hg hS => lf hg hS) fun hg hS => rt hg hS
end Sx.open_bounds
namespace Sx.open_In
noncomputable def code : Code := bodyOf Tryz.f191
abbrev T0 := Addr -> (List Deferred) -> H -> Prop
def E0 (g : Env) (x6 : Addr) (ds : List Deferred) : Prop := g.v 6 = (.pointer (some x6)) /\ g.ds = ds
def D0 (K : T0) (g : Env) (h : H) : Prop := vAddr (g.v 6) fun a1 => K a1 g.ds h
theorem D0_ok {K : T0} {g : Env} {h : H} (hq : D0 K g h) : ∃ (x6 : Addr) (ds : List Deferred), E0 g x6 ds /\ K x6 ds h := by
  obtain ⟨y3, e2, q4⟩ := vAddr_ok hq
  exact ⟨y3, g.ds, ⟨e2, rfl⟩, q4⟩
def Q0 (Kn Kr : T0) : XPost
  | .normal, g, h => D0 Kn g h
  | .ret, g, h => D0 Kr g h
  | _, _, _ => False
def E1 (g : Env) (x0b : Option Addr) (x0n x0c : Nat) (x1 : Int) (x2b : Option Addr) (x2n x2c : Nat) (ds : List Deferred) : Prop := g.v 0 = (.slice x0b x0n x0c) /\ g.v 1 = (.int .u8 x1) /\ g.v 2 = (.slice x2b x2n x2c) /\ g.ds = ds
noncomputable def n1_c1 : Code := cFst code
noncomputable def n1_c2 : Code := cSnd code
abbrev T2 := (Option Addr) -> Nat -> Nat -> Addr -> Addr -> Addr -> (List Deferred) -> H -> Prop
def E2 (g : Env) (x0b : Option Addr) (x0n x0c : Nat) (x4 x5 x6 : Addr) (ds : List Deferred) : Prop := g.v 0 = (.slice x0b x0n x0c) /\ g.v 4 = (.pointer (some x4)) /\ g.v 5 = (.pointer (some x5)) /\ g.v 6 = (.pointer (some x6)) /\ g.ds = ds
def D2 (K : T2) (g : Env) (h : H) : Prop := vSlice (g.v 0) fun s17b s17n s17c => vAddr (g.v 4) fun a18 => vAddr (g.v 5) fun a19 => vAddr (g.v 6) fun a20 => K s17b s17n s17c a18 a19 a20 g.ds h
theorem D2_ok {K : T2} {g : Env} {h : H} (hq : D2 K g h) : ∃ (x0b : Option Addr) (x0n x0c : Nat) (x4 x5 x6 : Addr) (ds : List Deferred), E2 g x0b x0n x0c x4 x5 x6 ds /\ K x0b x0n x0c x4 x5 x6 ds h := by
  obtain ⟨y22b, y22n, y22c, e21, q23⟩ := vSlice_ok hq
  obtain ⟨y25, e24, q26⟩ := vAddr_ok q23
  obtain ⟨y28, e27, q29⟩ := vAddr_ok q26
  obtain ⟨y31, e30, q32⟩ := vAddr_ok q29
  exact ⟨y22b, y22n, y22c, y25, y28, y31, g.ds, ⟨e21, e24, e27, e30, rfl⟩, q32⟩
noncomputable def n2_c1 : Code := cFst n1_c2
noncomputable def n2_c2 : Code := cSnd n1_c2
abbrev n3 (x6 : Addr) (ds : List Deferred) (Kn Kr : T0) (h : H) : Prop :=
  stL x6 [.bool false] 0 h fun h33 => Kr x6 ds h33
theorem n3_ok (x6 : Addr) (ds : List Deferred) (Kn Kr : T0) (g : Env) (hg : E0 g x6 ds) (h : H) (hS : n3 x6 ds Kn Kr h) : wpC none Tryz.prog 19 n2_c2 (Q0 Kn Kr) g h := by
  obtain ⟨hg6, hds⟩ := hg
  refine wpC_of_wpx (by kernel_rfl) (by kernel_rfl) (g' := (⟨g.v, ds⟩ : Env).upd (some 6) (.pointer (some x6))) (by rw [env_ds hds, upd_self hg6]) ?_
  have e : (n3 x6 ds Kn Kr h) = wpx none Tryz.prog 19 n2_c2 (Q0 Kn Kr) ((⟨g.v, ds⟩ : Env).upd (some 6) (.pointer (some x6))) h := by kernel_rfl
  exact e ▸ hS
noncomputable def n4_c1 : Code := cFst n2_c1
noncomputable def n4_c2 : Code := cSnd n2_c1
abbrev T3 := Addr -> Addr -> Addr -> Value -> (List Deferred) -> H -> Prop
def E3 (g : Env) (x4 x5 x6 : Addr) (x10 : Value) (ds : List Deferred) : Prop := g.v 4 = (.pointer (some x4)) /\ g.v 5 = (.pointer (some x5)) /\ g.v 6 = (.pointer (some x6)) /\ g.v 10 = x10 /\ g.ds = ds
def D3 (K : T3) (g : Env) (h : H) : Prop := vAddr (g.v 4) fun a34 => vAddr (g.v 5) fun a35 => vAddr (g.v 6) fun a36 => K a34 a35 a36 (g.v 10) g.ds h
theorem D3_ok {K : T3} {g : Env} {h : H} (hq : D3 K g h) : ∃ (x4 x5 x6 : Addr) (x10 : Value) (ds : List Deferred), E3 g x4 x5 x6 x10 ds /\ K x4 x5 x6 x10 ds h := by
  obtain ⟨y38, e37, q39⟩ := vAddr_ok hq
  obtain ⟨y41, e40, q42⟩ := vAddr_ok q39
  obtain ⟨y44, e43, q45⟩ := vAddr_ok q42
  exact ⟨y38, y41, y44, (g.v 10), g.ds, ⟨e37, e40, e43, rfl, rfl⟩, q45⟩
noncomputable def n5_c1 : Code := cFst n4_c2
def Q1 (Kn Ke0 Kr : T0) : XPost
  | .normal, g, h => D0 Kn g h
  | .ret, g, h => D0 Kr g h
  | .exit id, g, h => cond (Nat.beq id 0) (D0 Ke0 g h) (False)
  | _, _, _ => False
noncomputable def n6_c1 : Code := cFst n5_c1
noncomputable def n6_c2 : Code := cSnd n5_c1
def n6_rd (x4 x5 x6 : Addr) (x10 : Value) (ds : List Deferred) (Kn Ke0 Kr : T0) (h : H) (p11 : Value) (p12_0 p12_1 : Int) (p12_2 : List UInt8) (p12_3 : Int) (Mid : H -> (H -> Prop) -> Prop) (Kc : H -> H -> Prop) (Fin : H -> H -> (H -> Prop) -> Prop) (h1 : H) : Prop :=
  newx h1 ⟨[.int .i64 (0 : Int), .int .u8 (0 : Int), S ([] : List UInt8), .int .u8 (0 : Int)]⟩ 77 fun a46 h47 => stL a46 [.int .i64 p12_0, .int .u8 p12_1, S p12_2, .int .u8 p12_3] 0 h47 fun h48 => Mid h48 fun hb49 => ∃ i50, cell hb49 (a46.add 0) = some (.int .i64 i50) /\ (∃ i51, cell hb49 (a46.add 1) = some (.int .u8 i51) /\ (∃ s52, cell hb49 (a46.add 2) = some (S s52) /\ (∃ i53, cell hb49 (a46.add 3) = some (.int .u8 i53) /\ (∃ s54b s54n s54c, cell hb49 x5 = some (.slice s54b s54n s54c) /\ (HCalls Tryz.prog 179 ⟨[(.agg ⟨[.int .i64 i50, .int .u8 i51, S s52, .int .u8 i53]⟩), .slice s54b s54n s54c]⟩ hb49 fun v55 h56 => vBool v55 fun b57 => cond b57 (stL x6 [.bool true] 0 h56 fun h58 => Fin hb49 h58 fun h59 => Kr x6 (markD h.size :: ds) h59) (∃ i60, cell h56 (a46.add 0) = some (.int .i64 i60) /\ (∃ i61, cell h56 (a46.add 1) = some (.int .u8 i61) /\ (∃ s62, cell h56 (a46.add 2) = some (S s62) /\ (∃ i63, cell h56 (a46.add 3) = some (.int .u8 i63) /\ (∃ i64, cell h56 x4 = some (.int .u8 i64) /\ (HCalls Tryz.prog 216 ⟨[(.agg ⟨[.int .i64 i60, .int .u8 i61, S s62, .int .u8 i63]⟩), .int .u8 i64]⟩ h56 fun v65 h66 => vBool v65 fun b67 => cond b67 (Fin hb49 h66 fun h68 => Ke0 x6 (markD h.size :: ds) h68) (Kc hb49 h66))))))))))))
abbrev n6 (x4 x5 x6 : Addr) (x10 : Value) (ds : List Deferred) (Kn Ke0 Kr : T0) (h : H) : Prop := Ranges Tryz.prog x10 2 h (fun l69 Mid Kc Fin h1 => uncons l69 fun e70 l71 => uncons l71 fun e72 l73 => vAgg e72 fun l74 => uncons l74 fun e75 l76 => vInt .i64 e75 fun i77 => uncons l76 fun e78 l79 => vInt .u8 e78 fun i80 => uncons l79 fun e81 l82 => vStr e81 fun s83 => uncons l82 fun e84 l85 => vInt .u8 e84 fun i86 => unnil l85 (unnil l73 (n6_rd x4 x5 x6 x10 ds Kn Ke0 Kr h e70 i77 i80 s83 i86 Mid Kc Fin h1))) (fun h4 => Kn x6 (markD h.size :: ds) h4)
theorem n6_ok (x4 x5 x6 : Addr) (x10 : Value) (ds : List Deferred) (Kn Ke0 Kr : T0) (g : Env) (hg : E3 g x4 x5 x6 x10 ds) (h : H) (hS : n6 x4 x5 x6 x10 ds Kn Ke0 Kr h) : wpC none Tryz.prog 19 n5_c1 (Q1 Kn Ke0 Kr) g h := by
  obtain ⟨hg4, hg5, hg6, hg10, hds⟩ := hg
  subst hds
  have ho : (((((⟨g.v, g.ds⟩ : Env).upd (some 4) (.pointer (some x4))).upd (some 5) (.pointer (some x5))).upd (some 6) (.pointer (some x6))).upd (some 10) x10 : Env) = g := by rw [env_ds rfl, upd_self hg4, upd_self hg5, upd_self hg6, upd_self hg10]
  have hc : n5_c1 = .rangeFunc (.tmp 10) #[11, 12] n6_c1 n6_c2 := by kernel_rfl
  rw [hc]
  refine wpC_range (f := x10) (rd := (fun l69 Mid Kc Fin h1 => uncons l69 fun e70 l71 => uncons l71 fun e72 l73 => vAgg e72 fun l74 => uncons l74 fun e75 l76 => vInt .i64 e75 fun i77 => uncons l76 fun e78 l79 => vInt .u8 e78 fun i80 => uncons l79 fun e81 l82 => vStr e81 fun s83 => uncons l82 fun e84 l85 => vInt .u8 e84 fun i86 => unnil l85 (unnil l73 (n6_rd x4 x5 x6 x10 g.ds Kn Ke0 Kr h e70 i77 i80 s83 i86 Mid Kc Fin h1)))) (done := (fun h4 => Kn x6 (markD h.size :: g.ds) h4)) ?_ hS ?_ ?_
  · rw [<- ho]; kernel_rfl
  · intro h4 hd
    have e : (Kn x6 (markD h.size :: g.ds) h4) = (Q1 Kn Ke0 Kr) .normal ⟨(((((⟨g.v, g.ds⟩ : Env).upd (some 4) (.pointer (some x4))).upd (some 5) (.pointer (some x5))).upd (some 6) (.pointer (some x6))).upd (some 10) x10).v, markD h.size :: g.ds⟩ h4 := by kernel_rfl
    rw [ho] at e
    exact e ▸ hd
  · intro L x Mid Kc Fin h1 hM hx
    obtain ⟨u87, l88, rfl, q89⟩ := uncons_ok hx
    obtain ⟨u90, l91, rfl, q92⟩ := uncons_ok q89
    obtain ⟨l93, rfl, q94⟩ := vAgg_ok q92
    obtain ⟨u95, l96, rfl, q97⟩ := uncons_ok q94
    obtain ⟨y98, rfl, q99⟩ := vInt_ok q97
    obtain ⟨u100, l101, rfl, q102⟩ := uncons_ok q99
    obtain ⟨y103, rfl, q104⟩ := vInt_ok q102
    obtain ⟨u105, l106, rfl, q107⟩ := uncons_ok q104
    obtain ⟨y108, rfl, q109⟩ := vStr_ok q107
    obtain ⟨u110, l111, rfl, q112⟩ := uncons_ok q109
    obtain ⟨y113, rfl, q114⟩ := vInt_ok q112
    obtain ⟨rfl, q115⟩ := unnil_ok q114
    obtain ⟨rfl, q116⟩ := unnil_ok q115
    have e : (n6_rd x4 x5 x6 x10 g.ds Kn Ke0 Kr h u87 y98 y103 y108 y113 Mid Kc Fin h1) = wpx (some L) Tryz.prog 19 n6_c1 (thenX (fun g1 he => Mid he fun hb => wpx (some L) Tryz.prog 19 n6_c2 (rpost Kc Fin (Q1 Kn Ke0 Kr) ⟨(((((⟨g.v, g.ds⟩ : Env).upd (some 4) (.pointer (some x4))).upd (some 5) (.pointer (some x5))).upd (some 6) (.pointer (some x6))).upd (some 10) x10).v, markD h.size :: g.ds⟩ hb) g1 hb) fun _ _ _ => False) (setps (((((⟨g.v, g.ds⟩ : Env).upd (some 4) (.pointer (some x4))).upd (some 5) (.pointer (some x5))).upd (some 6) (.pointer (some x6))).upd (some 10) x10) [11, 12] [u87, (.agg ⟨[.int .i64 y98, .int .u8 y103, S y108, .int .u8 y113]⟩)]) h1 := by kernel_rfl
    rw [ho] at e
    exact (wpx_ok (by kernel_rfl) _ _ _ _ (by kernel_rfl) (e ▸ q116)).mono (thenX_mono fun g1 he hm => hM he _ _ (fun hb => wpx_ok (by kernel_rfl) _ _ _ _ (by kernel_rfl)) hm)
abbrev n5 (x4 x5 x6 : Addr) (x10 : Value) (ds : List Deferred) (Kn Kr : T0) (h : H) : Prop := n6 x4 x5 x6 x10 ds Kn Kn Kr h
theorem n5_ok (x4 x5 x6 : Addr) (x10 : Value) (ds : List Deferred) (Kn Kr : T0) (g : Env) (hg : E3 g x4 x5 x6 x10 ds) (h : H) (hS : n5 x4 x5 x6 x10 ds Kn Kr h) : wpC none Tryz.prog 19 n4_c2 (Q0 Kn Kr) g h := by
  refine wpC_block' (id := 0) (x := n5_c1) (by kernel_rfl) (n6_ok x4 x5 x6 x10 ds Kn Kn Kr g hg h hS) ?_
  intro e g' h' hq
  cases e <;> exact hq
def Q2 (Kn : T3) (Kr : T0) : XPost
  | .normal, g, h => D3 Kn g h
  | .ret, g, h => D0 Kr g h
  | _, _, _ => False
abbrev n4 (x0b : Option Addr) (x0n x0c : Nat) (x4 x5 x6 : Addr) (ds : List Deferred) (Kn Kr : T0) (h : H) : Prop :=
  HCalls Tryz.prog 178 ⟨[.slice x0b x0n x0c]⟩ h fun v117 h118 => n5 x4 x5 x6 v117 ds Kn Kr h118
theorem n4_ok (x0b : Option Addr) (x0n x0c : Nat) (x4 x5 x6 : Addr) (ds : List Deferred) (Kn Kr : T0) (g : Env) (hg : E2 g x0b x0n x0c x4 x5 x6 ds) (h : H) (hS : n4 x0b x0n x0c x4 x5 x6 ds Kn Kr h) : wpC none Tryz.prog 19 n2_c1 (Q0 Kn Kr) g h := by
  obtain ⟨hg0, hg4, hg5, hg6, hds⟩ := hg
  refine wpC_seq' (x := n4_c1) (y := n4_c2) (Q' := (Q2 (fun z4 z5 z6 z10 zds h => n5 z4 z5 z6 z10 zds Kn Kr h) Kr)) (by kernel_rfl) ?_ ?_
  · refine wpC_of_wpx (by kernel_rfl) (by kernel_rfl) (g' := ((((⟨g.v, ds⟩ : Env).upd (some 0) (.slice x0b x0n x0c)).upd (some 4) (.pointer (some x4))).upd (some 5) (.pointer (some x5))).upd (some 6) (.pointer (some x6))) (by rw [env_ds hds, upd_self hg0, upd_self hg4, upd_self hg5, upd_self hg6]) ?_
    have e : (n4 x0b x0n x0c x4 x5 x6 ds Kn Kr h) = wpx none Tryz.prog 19 n4_c1 (Q2 (fun z4 z5 z6 z10 zds h => n5 z4 z5 z6 z10 zds Kn Kr h) Kr) (((((⟨g.v, ds⟩ : Env).upd (some 0) (.slice x0b x0n x0c)).upd (some 4) (.pointer (some x4))).upd (some 5) (.pointer (some x5))).upd (some 6) (.pointer (some x6))) h := by kernel_rfl
    exact e ▸ hS
  · intro e g' h' hq
    cases e with
    | normal =>
      have hq : D3 (fun z4 z5 z6 z10 zds h => n5 z4 z5 z6 z10 zds Kn Kr h) g' h' := hq
      obtain ⟨y4, y5, y6, y10, yds, hg', hq⟩ := D3_ok hq
      exact n5_ok y4 y5 y6 y10 yds Kn Kr g' hg' h' hq
    | _ => exact hq
abbrev n2 (x0b : Option Addr) (x0n x0c : Nat) (x4 x5 x6 : Addr) (ds : List Deferred) (Kn Kr : T0) (h : H) : Prop := n4 x0b x0n x0c x4 x5 x6 ds (fun z6 zds h => n3 z6 zds Kn Kr h) Kr h
theorem n2_ok (x0b : Option Addr) (x0n x0c : Nat) (x4 x5 x6 : Addr) (ds : List Deferred) (Kn Kr : T0) (g : Env) (hg : E2 g x0b x0n x0c x4 x5 x6 ds) (h : H) (hS : n2 x0b x0n x0c x4 x5 x6 ds Kn Kr h) : wpC none Tryz.prog 19 n1_c2 (Q0 Kn Kr) g h := by
  refine wpC_seq' (x := n2_c1) (y := n2_c2) (by kernel_rfl) (n4_ok x0b x0n x0c x4 x5 x6 ds (fun z6 zds h => n3 z6 zds Kn Kr h) Kr g hg h hS) ?_
  intro e g' h' hq
  cases e with
  | normal =>
    have hq : D0 (fun z6 zds h => n3 z6 zds Kn Kr h) g' h' := hq
    obtain ⟨y6, yds, hg', hq⟩ := D0_ok hq
    exact n3_ok y6 yds Kn Kr g' hg' h' hq
  | _ => exact hq
def Q3 (Kn : T2) (Kr : T0) : XPost
  | .normal, g, h => D2 Kn g h
  | .ret, g, h => D0 Kr g h
  | _, _, _ => False
abbrev n1 (x0b : Option Addr) (x0n x0c : Nat) (x1 : Int) (x2b : Option Addr) (x2n x2c : Nat) (ds : List Deferred) (Kn Kr : T0) (h : H) : Prop :=
  newx h #[.int .u8 x1] 5 fun a119 h120 => newx h120 #[.slice x2b x2n x2c] 104 fun a121 h122 => newx h122 #[.bool false] 4 fun a123 h124 => n2 x0b x0n x0c a119 a121 a123 ds Kn Kr h124
theorem n1_ok (x0b : Option Addr) (x0n x0c : Nat) (x1 : Int) (x2b : Option Addr) (x2n x2c : Nat) (ds : List Deferred) (Kn Kr : T0) (g : Env) (hg : E1 g x0b x0n x0c x1 x2b x2n x2c ds) (h : H) (hS : n1 x0b x0n x0c x1 x2b x2n x2c ds Kn Kr h) : wpC none Tryz.prog 19 code (Q0 Kn Kr) g h := by
  obtain ⟨hg0, hg1, hg2, hds⟩ := hg
  refine wpC_seq' (x := n1_c1) (y := n1_c2) (Q' := (Q3 (fun z0b z0n z0c z4 z5 z6 zds h => n2 z0b z0n z0c z4 z5 z6 zds Kn Kr h) Kr)) (by kernel_rfl) ?_ ?_
  · refine wpC_of_wpx (by kernel_rfl) (by kernel_rfl) (g' := (((⟨g.v, ds⟩ : Env).upd (some 0) (.slice x0b x0n x0c)).upd (some 1) (.int .u8 x1)).upd (some 2) (.slice x2b x2n x2c)) (by rw [env_ds hds, upd_self hg0, upd_self hg1, upd_self hg2]) ?_
    have e : (n1 x0b x0n x0c x1 x2b x2n x2c ds Kn Kr h) = wpx none Tryz.prog 19 n1_c1 (Q3 (fun z0b z0n z0c z4 z5 z6 zds h => n2 z0b z0n z0c z4 z5 z6 zds Kn Kr h) Kr) ((((⟨g.v, ds⟩ : Env).upd (some 0) (.slice x0b x0n x0c)).upd (some 1) (.int .u8 x1)).upd (some 2) (.slice x2b x2n x2c)) h := by kernel_rfl
    exact e ▸ hS
  · intro e g' h' hq
    cases e with
    | normal =>
      have hq : D2 (fun z0b z0n z0c z4 z5 z6 zds h => n2 z0b z0n z0c z4 z5 z6 zds Kn Kr h) g' h' := hq
      obtain ⟨y0b, y0n, y0c, y4, y5, y6, yds, hg', hq⟩ := D2_ok hq
      exact n2_ok y0b y0n y0c y4 y5 y6 yds Kn Kr g' hg' h' hq
    | _ => exact hq
abbrev asks (x0b : Option Addr) (x0n x0c : Nat) (x1 : Int) (x2b : Option Addr) (x2n x2c : Nat) (K : Value -> H -> Prop) (h : H) : Prop := n1 x0b x0n x0c x1 x2b x2n x2c [] (fun y6 ds h => leaveX ds h fun h => ∃ b125, cell h y6 = some (.bool b125) /\ (K (.bool b125) h)) (fun y6 ds h => leaveX ds h fun h => ∃ b125, cell h y6 = some (.bool b125) /\ (K (.bool b125) h)) h
theorem ok (x0b : Option Addr) (x0n x0c : Nat) (x1 : Int) (x2b : Option Addr) (x2n x2c : Nat) (K : Value -> H -> Prop) (h : H) (hS : asks x0b x0n x0c x1 x2b x2n x2c K h) : HCalls Tryz.prog 191 ⟨[.slice x0b x0n x0c, .int .u8 x1, .slice x2b x2n x2c]⟩ h K := by
  refine calls_of_wpC (c := code) Tryz.func191 (by kernel_rfl) (Nat.le_of_ble_eq_true (by kernel_rfl)) ?_
  refine (n1_ok x0b x0n x0c x1 x2b x2n x2c [] (fun y6 ds h => leaveX ds h fun h => ∃ b125, cell h y6 = some (.bool b125) /\ (K (.bool b125) h)) (fun y6 ds h => leaveX ds h fun h => ∃ b125, cell h y6 = some (.bool b125) /\ (K (.bool b125) h)) (env0 [.slice x0b x0n x0c, .int .u8 x1, .slice x2b x2n x2c]) ⟨rfl, rfl, rfl, rfl⟩ h hS).mono ?_
  intro e g' h' hq
  cases e with
  | normal =>
    have hq : D0 (fun y6 ds h => leaveX ds h fun h => ∃ b125, cell h y6 = some (.bool b125) /\ (K (.bool b125) h)) g' h' := hq
    obtain ⟨y6, ds, ⟨hg6, hd⟩, hq⟩ := D0_ok hq
    show leaveX g'.ds h' _
    rw [hd]
    show leaveX ds h' fun h => vAddr (g'.v 6) fun a126 => ldx Tryz.prog 4 a126 h fun v127 => K v127 h
    rw [hg6]
    exact hq
  | ret =>
    have hq : D0 (fun y6 ds h => leaveX ds h fun h => ∃ b125, cell h y6 = some (.bool b125) /\ (K (.bool b125) h)) g' h' := hq
    obtain ⟨y6, ds, ⟨hg6, hd⟩, hq⟩ := D0_ok hq
    show leaveX g'.ds h' _
    rw [hd]
    show leaveX ds h' fun h => vAddr (g'.v 6) fun a126 => ldx Tryz.prog 4 a126 h fun v127 => K v127 h
    rw [hg6]
    exact hq
  | _ => exact hq
end Sx.open_In
namespace Sx.slices_Delete_apiMark
abbrev L0 : List Sl := [.o 6 .l]
variable (x0b : Option Addr) (x0n x0c : Nat) (x1 x2 : Int)
variable (K : Value -> H -> Prop) (h : H)
abbrev asks : Prop := cF L0 (fun Kr => (0 <= x1 /\ x1 <= x2 /\ x2 <= (x0n : Int) /\ (x0n : Int) <= (x0c : Int)) /\ (Spl (x1 = x2) (Kr x0b x0n x0c h) ((0 <= (0 : Int) /\ (0 : Int) <= x1 /\ x1 <= (x0c : Int)) /\ ((0 <= x2 /\ x2 <= (x0n : Int) /\ (x0n : Int) <= (x0c : Int)) /\ (SemH Tryz.prog (Builtin.append_ #[40, 40] 40 ⟨[(.slice (if x0c = Int.toNat (0 : Int) then x0b else Option.map (fun q => q.add (Int.toNat (0 : Int) * 3)) x0b) (Int.toNat x1 - Int.toNat (0 : Int)) (x0c - Int.toNat (0 : Int))), (.slice (if x0c = Int.toNat x2 then x0b else Option.map (fun q => q.add (Int.toNat x2 * 3)) x0b) (Int.toNat (x0n : Int) - Int.toNat x2) (x0c - Int.toNat x2))]⟩) h fun v1 h2 => vSlice v1 fun s3b s3n s3c => (0 <= (s3n : Int) /\ (s3n : Int) <= (x0n : Int) /\ (x0n : Int) <= (s3c : Int)) /\ (SemH Tryz.prog (Builtin.clear_ #[40] 0 ⟨[(.slice (if s3c = Int.toNat (s3n : Int) then s3b else Option.map (fun q => q.add (Int.toNat (s3n : Int) * 3)) s3b) (Int.toNat (x0n : Int) - Int.toNat (s3n : Int)) (s3c - Int.toNat (s3n : Int)))]⟩) h2 fun v4 h5 => Kr s3b s3n s3c h5)))))) fun y6b y6n y6c h => K (.slice y6b y6n y6c) h
theorem ok (hS : asks x0b x0n x0c x1 x2 K h) : HCalls Tryz.prog 237 ⟨[.slice x0b x0n x0c, .int .i64 x1, .int .i64 x2]⟩ h K :=
  cl Tryz.func237 hS (fun hg hS => lf hg hS) fun hg hS => rt hg hS
end Sx.slices_Delete_apiMark
namespace Sx.slices_Insert_apiMark
abbrev L3 : List Sl := [.o 0 .l, .o 1 (.i .i64), .o 2 .l, .o 7 (.i .i64), .o 8 (.i .i64)]
abbrev L4 : List Sl := [.o 0 .l, .o 1 (.i .i64), .o 2 .l, .o 7 (.i .i64), .o 8 (.i .i64), .o 68 .b]
abbrev L5 : List Sl := [.o 0 .l, .o 1 (.i .i64), .o 2 .l, .o 7 (.i .i64), .o 8 (.i .i64), .o 31 .b]
abbrev L2 : List Sl := [.o 0 .l, .o 1 (.i .i64), .o 2 .l, .o 7 (.i .i64)]
abbrev L1 : List Sl := [.o 0 .l, .o 1 (.i .i64), .o 2 .l]
abbrev L0 : List Sl := [.o 6 .l]
variable (x0b : Option Addr) (x0n x0c : Nat) (x1 : Int) (x2b : Option Addr) (x2n x2c : Nat)
variable (K : Value -> H -> Prop) (h : H)
abbrev asks (x0b : Option Addr) (x0n x0c : Nat) (x1 : Int) (x2b : Option Addr) (x2n x2c : Nat) (K : Value -> H -> Prop) (h : H) : Prop := cF L0 (fun Kr => sqF L1 (fun K11 => K11 x0b x0n x0c x1 x2b x2n x2c h) fun x0b x0n x0c x1 x2b x2n x2c h => sqF L1 (fun K10 => (0 <= x1 /\ x1 <= (x0n : Int) /\ (x0n : Int) <= (x0c : Int)) /\ (K10 x0b x0n x0c x1 x2b x2n x2c h)) fun x0b x0n x0c x1 x2b x2n x2c h => sqF L2 (fun K9 => K9 x0b x0n x0c x1 x2b x2n x2c (x2n : Int) h) fun x0b x0n x0c x1 x2b x2n x2c x7 h => sqF L2 (fun K8 => Spl (x7 = (0 : Int)) (Kr x0b x0n x0c h) (K8 x0b x0n x0c x1 x2b x2n x2c x7 h)) fun x0b x0n x0c x1 x2b x2n x2c x7 h => sqF L3 (fun K7 => K7 x0b x0n x0c x1 x2b x2n x2c x7 (x0n : Int) h) fun x0b x0n x0c x1 x2b x2n x2c x7 x8 h => sqF L3 (fun K6 => Spl (x1 = x8) (SemH Tryz.prog (Builtin.append_ #[40, 40] 40 ⟨[.slice x0b x0n x0c, .slice x2b x2n x2c]⟩) h fun v28 h29 => vSlice v28 fun s30b s30n s30c => Kr s30b s30n s30c h29) (K6 x0b x0n x0c x1 x2b x2n x2c x7 x8 h)) fun x0b x0n x0c x1 x2b x2n x2c x7 x8 h => sqF L3 (fun K4 => sqF L5 (fun K5 => Rng .i64 (x8 + x7) /\ (SemH Tryz.prog (Builtin.cap_ #[40] 3 ⟨[.slice x0b x0n x0c]⟩) h fun v25 h26 => vInt .i64 v25 fun i27 => Spl ((x8 + x7) > i27) (K5 x0b x0n x0c x1 x2b x2n x2c x7 x8 true h26) (K5 x0b x0n x0c x1 x2b x2n x2c x7 x8 false h26))) fun x0b x0n x0c x1 x2b x2n x2c x7 x8 x31 h => cond x31 ((0 <= (0 : Int) /\ (0 : Int) <= x1 /\ x1 <= (x0c : Int)) /\ (Rng .i64 (x8 + x7) /\ (Rng .i64 ((x8 + x7) - x1) /\ (SemH Tryz.prog (Builtin.append_ #[40, 3] 40 ⟨[(.slice (if x0c = Int.toNat (0 : Int) then x0b else Option.map (fun q => q.add (Int.toNat (0 : Int) * 3)) x0b) (Int.toNat x1 - Int.toNat (0 : Int)) (x0c - Int.toNat (0 : Int))), .int .i64 ((x8 + x7) - x1)]⟩) h fun v16 h17 => vSlice v16 fun s18b s18n s18c => (0 <= x1 /\ x1 <= (s18n : Int) /\ (s18n : Int) <= (s18c : Int)) /\ (SemH Tryz.prog (Builtin.copy_ #[40, 40] 3 ⟨[(.slice (if s18c = Int.toNat x1 then s18b else Option.map (fun q => q.add (Int.toNat x1 * 3)) s18b) (Int.toNat (s18n : Int) - Int.toNat x1) (s18c - Int.toNat x1)), .slice x2b x2n x2c]⟩) h17 fun v19 h20 => vInt .i64 v19 fun i21 => Rng .i64 (x1 + x7) /\ ((0 <= (x1 + x7) /\ (x1 + x7) <= (s18n : Int) /\ (s18n : Int) <= (s18c : Int)) /\ ((0 <= x1 /\ x1 <= (x0n : Int) /\ (x0n : Int) <= (x0c : Int)) /\ (SemH Tryz.prog (Builtin.copy_ #[40, 40] 3 ⟨[(.slice (if s18c = Int.toNat (x1 + x7) then s18b else Option.map (fun q => q.add (Int.toNat (x1 + x7) * 3)) s18b) (Int.toNat (s18n : Int) - Int.toNat (x1 + x7)) (s18c - Int.toNat (x1 + x7))), (.slice (if x0c = Int.toNat x1 then x0b else Option.map (fun q => q.add (Int.toNat x1 * 3)) x0b) (Int.toNat (x0n : Int) - Int.toNat x1) (x0c - Int.toNat x1))]⟩) h20 fun v22 h23 => vInt .i64 v22 fun i24 => Kr s18b s18n s18c h23)))))))) (K4 x0b x0n x0c x1 x2b x2n x2c x7 x8 h)) fun x0b x0n x0c x1 x2b x2n x2c x7 x8 h => sqF L3 (fun K3 => Rng .i64 (x8 + x7) /\ ((0 <= (0 : Int) /\ (0 : Int) <= (x8 + x7) /\ (x8 + x7) <= (x0c : Int)) /\ (K3 (if x0c = Int.toNat (0 : Int) then x0b else Option.map (fun q => q.add (Int.toNat (0 : Int) * 3)) x0b) (Int.toNat (x8 + x7) - Int.toNat (0 : Int)) (x0c - Int.toNat (0 : Int)) x1 x2b x2n x2c x7 x8 h))) fun x0b x0n x0c x1 x2b x2n x2c x7 x8 h => sqF L3 (fun K1 => sqF L4 (fun K2 => Rng .i64 (x1 + x7) /\ ((0 <= (x1 + x7) /\ (x1 + x7) <= (x0n : Int) /\ (x0n : Int) <= (x0c : Int)) /\ (SemH Tryz.prog (Extern.SlicesOverlaps.overlaps #[40, 40] #[4] ⟨[.slice x2b x2n x2c, (.slice (if x0c = Int.toNat (x1 + x7) then x0b else Option.map (fun q => q.add (Int.toNat (x1 + x7) * 3)) x0b) (Int.toNat (x0n : Int) - Int.toNat (x1 + x7)) (x0c - Int.toNat (x1 + x7)))]⟩) h fun v13 h14 => vBool v13 fun b15 => cond b15 (K2 x0b x0n x0c x1 x2b x2n x2c x7 x8 false h14) (K2 x0b x0n x0c x1 x2b x2n x2c x7 x8 true h14)))) fun x0b x0n x0c x1 x2b x2n x2c x7 x8 x68 h => cond x68 (Rng .i64 (x1 + x7) /\ ((0 <= (x1 + x7) /\ (x1 + x7) <= (x0n : Int) /\ (x0n : Int) <= (x0c : Int)) /\ ((0 <= x1 /\ x1 <= (x0n : Int) /\ (x0n : Int) <= (x0c : Int)) /\ (SemH Tryz.prog (Builtin.copy_ #[40, 40] 3 ⟨[(.slice (if x0c = Int.toNat (x1 + x7) then x0b else Option.map (fun q => q.add (Int.toNat (x1 + x7) * 3)) x0b) (Int.toNat (x0n : Int) - Int.toNat (x1 + x7)) (x0c - Int.toNat (x1 + x7))), (.slice (if x0c = Int.toNat x1 then x0b else Option.map (fun q => q.add (Int.toNat x1 * 3)) x0b) (Int.toNat (x0n : Int) - Int.toNat x1) (x0c - Int.toNat x1))]⟩) h fun v6 h7 => vInt .i64 v6 fun i8 => (0 <= x1 /\ x1 <= (x0n : Int) /\ (x0n : Int) <= (x0c : Int)) /\ (SemH Tryz.prog (Builtin.copy_ #[40, 40] 3 ⟨[(.slice (if x0c = Int.toNat x1 then x0b else Option.map (fun q => q.add (Int.toNat x1 * 3)) x0b) (Int.toNat (x0n : Int) - Int.toNat x1) (x0c - Int.toNat x1)), .slice x2b x2n x2c]⟩) h7 fun v9 h10 => vInt .i64 v9 fun i11 => Kr x0b x0n x0c h10))))) (K1 x0b x0n x0c x1 x2b x2n x2c x7 x8 h)) fun x0b x0n x0c x1 x2b x2n x2c x7 x8 h => (0 <= x8 /\ x8 <= (x0n : Int) /\ (x0n : Int) <= (x0c : Int)) /\ (SemH Tryz.prog (Builtin.copy_ #[40, 40] 3 ⟨[(.slice (if x0c = Int.toNat x8 then x0b else Option.map (fun q => q.add (Int.toNat x8 * 3)) x0b) (Int.toNat (x0n : Int) - Int.toNat x8) (x0c - Int.toNat x8)), .slice x2b x2n x2c]⟩) h fun v1 h2 => vInt .i64 v1 fun i3 => (0 <= x1 /\ x1 <= (x0n : Int) /\ (x0n : Int) <= (x0c : Int)) /\ (HCalls Tryz.prog 247 ⟨[(.slice (if x0c = Int.toNat x1 then x0b else Option.map (fun q => q.add (Int.toNat x1 * 3)) x0b) (Int.toNat (x0n : Int) - Int.toNat x1) (x0c - Int.toNat x1)), .int .i64 x7]⟩ h2 fun v4 h5 => Kr x0b x0n x0c h5))) fun y6b y6n y6c h => K (.slice y6b y6n y6c) h
theorem ok (hS : asks x0b x0n x0c x1 x2b x2n x2c K h) : HCalls Tryz.prog 240 ⟨[.slice x0b x0n x0c, .int .i64 x1, .slice x2b x2n x2c]⟩ h K :=
  cl Tryz.func240 hS (fun hg hS => sq hg hS fun hg hS => sq hg hS fun hg hS => sq hg hS fun hg hS => sq hg hS fun hg hS => sq hg hS fun hg hS => sq hg hS fun hg hS => sc hS (fun hS => sq hg hS fun hg hS => lf hg hS) fun hg hS => sq hg hS fun hg hS => sc hS (fun hS => sq hg hS fun hg hS => lf hg hS) fun hg hS => lf hg hS) fun hg hS => rt hg hS
end Sx.slices_Insert_apiMark
namespace Sx.slices_Insert_apiOpen
abbrev L3 : List Sl := [.o 0 .l, .o 1 (.i .i64), .o 2 .l, .o 7 (.i .i64), .o 8 (.i .i64)]
abbrev L4 : List Sl := [.o 0 .l, .o 1 (.i .i64), .o 2 .l, .o 7 (.i .i64), .o 8 (.i .i64), .o 68 .b]
abbrev L5 : List Sl := [.o 0 .l, .o 1 (.i .i64), .o 2 .l, .o 7 (.i .i64), .o 8 (.i .i64), .o 31 .b]
abbrev L2 : List Sl := [.o 0 .l, .o 1 (.i .i64), .o 2 .l, .o 7 (.i .i64)]
abbrev L1 : List Sl := [.o 0 .l, .o 1 (.i .i64), .o 2 .l]
abbrev L0 : List Sl := [.o 6 .l]
variable (x0b : Option Addr) (x0n x0c : Nat) (x1 : Int) (x2b : Option Addr) (x2n x2c : Nat)
variable (K : Value -> H -> Prop) (h : H)
abbrev asks (x0b : Option Addr) (x0n x0c : Nat) (x1 : Int) (x2b : Option Addr) (x2n x2c : Nat) (K : Value -> H -> Prop) (h : H) : Prop := cF L0 (fun Kr => sqF L1 (fun K11 => K11 x0b x0n x0c x1 x2b x2n x2c h) fun x0b x0n x0c x1 x2b x2n x2c h => sqF L1 (fun K10 => (0 <= x1 /\ x1 <= (x0n : Int) /\ (x0n : Int) <= (x0c : Int)) /\ (K10 x0b x0n x0c x1 x2b x2n x2c h)) fun x0b x0n x0c x1 x2b x2n x2c h => sqF L2 (fun K9 => K9 x0b x0n x0c x1 x2b x2n x2c (x2n : Int) h) fun x0b x0n x0c x1 x2b x2n x2c x7 h => sqF L2 (fun K8 => Spl (x7 = (0 : Int)) (Kr x0b x0n x0c h) (K8 x0b x0n x0c x1 x2b x2n x2c x7 h)) fun x0b x0n x0c x1 x2b x2n x2c x7 h => sqF L3 (fun K7 => K7 x0b x0n x0c x1 x2b x2n x2c x7 (x0n : Int) h) fun x0b x0n x0c x1 x2b x2n x2c x7 x8 h => sqF L3 (fun K6 => Spl (x1 = x8) (SemH Tryz.prog (Builtin.append_ #[39, 39] 39 ⟨[.slice x0b x0n x0c, .slice x2b x2n x2c]⟩) h fun v28 h29 => vSlice v28 fun s30b s30n s30c => Kr s30b s30n s30c h29) (K6 x0b x0n x0c x1 x2b x2n x2c x7 x8 h)) fun x0b x0n x0c x1 x2b x2n x2c x7 x8 h => sqF L3 (fun K4 => sqF L5 (fun K5 => Rng .i64 (x8 + x7) /\ (SemH Tryz.prog (Builtin.cap_ #[39] 3 ⟨[.slice x0b x0n x0c]⟩) h fun v25 h26 => vInt .i64 v25 fun i27 => Spl ((x8 + x7) > i27) (K5 x0b x0n x0c x1 x2b x2n x2c x7 x8 true h26) (K5 x0b x0n x0c x1 x2b x2n x2c x7 x8 false h26))) fun x0b x0n x0c x1 x2b x2n x2c x7 x8 x31 h => cond x31 ((0 <= (0 : Int) /\ (0 : Int) <= x1 /\ x1 <= (x0c : Int)) /\ (Rng .i64 (x8 + x7) /\ (Rng .i64 ((x8 + x7) - x1) /\ (SemH Tryz.prog (Builtin.append_ #[39, 3] 39 ⟨[(.slice (if x0c = Int.toNat (0 : Int) then x0b else Option.map (fun q => q.add (Int.toNat (0 : Int) * 4)) x0b) (Int.toNat x1 - Int.toNat (0 : Int)) (x0c - Int.toNat (0 : Int))), .int .i64 ((x8 + x7) - x1)]⟩) h fun v16 h17 => vSlice v16 fun s18b s18n s18c => (0 <= x1 /\ x1 <= (s18n : Int) /\ (s18n : Int) <= (s18c : Int)) /\ (SemH Tryz.prog (Builtin.copy_ #[39, 39] 3 ⟨[(.slice (if s18c = Int.toNat x1 then s18b else Option.map (fun q => q.add (Int.toNat x1 * 4)) s18b) (Int.toNat (s18n : Int) - Int.toNat x1) (s18c - Int.toNat x1)), .slice x2b x2n x2c]⟩) h17 fun v19 h20 => vInt .i64 v19 fun i21 => Rng .i64 (x1 + x7) /\ ((0 <= (x1 + x7) /\ (x1 + x7) <= (s18n : Int) /\ (s18n : Int) <= (s18c : Int)) /\ ((0 <= x1 /\ x1 <= (x0n : Int) /\ (x0n : Int) <= (x0c : Int)) /\ (SemH Tryz.prog (Builtin.copy_ #[39, 39] 3 ⟨[(.slice (if s18c = Int.toNat (x1 + x7) then s18b else Option.map (fun q => q.add (Int.toNat (x1 + x7) * 4)) s18b) (Int.toNat (s18n : Int) - Int.toNat (x1 + x7)) (s18c - Int.toNat (x1 + x7))), (.slice (if x0c = Int.toNat x1 then x0b else Option.map (fun q => q.add (Int.toNat x1 * 4)) x0b) (Int.toNat (x0n : Int) - Int.toNat x1) (x0c - Int.toNat x1))]⟩) h20 fun v22 h23 => vInt .i64 v22 fun i24 => Kr s18b s18n s18c h23)))))))) (K4 x0b x0n x0c x1 x2b x2n x2c x7 x8 h)) fun x0b x0n x0c x1 x2b x2n x2c x7 x8 h => sqF L3 (fun K3 => Rng .i64 (x8 + x7) /\ ((0 <= (0 : Int) /\ (0 : Int) <= (x8 + x7) /\ (x8 + x7) <= (x0c : Int)) /\ (K3 (if x0c = Int.toNat (0 : Int) then x0b else Option.map (fun q => q.add (Int.toNat (0 : Int) * 4)) x0b) (Int.toNat (x8 + x7) - Int.toNat (0 : Int)) (x0c - Int.toNat (0 : Int)) x1 x2b x2n x2c x7 x8 h))) fun x0b x0n x0c x1 x2b x2n x2c x7 x8 h => sqF L3 (fun K1 => sqF L4 (fun K2 => Rng .i64 (x1 + x7) /\ ((0 <= (x1 + x7) /\ (x1 + x7) <= (x0n : Int) /\ (x0n : Int) <= (x0c : Int)) /\ (SemH Tryz.prog (Extern.SlicesOverlaps.overlaps #[39, 39] #[4] ⟨[.slice x2b x2n x2c, (.slice (if x0c = Int.toNat (x1 + x7) then x0b else Option.map (fun q => q.add (Int.toNat (x1 + x7) * 4)) x0b) (Int.toNat (x0n : Int) - Int.toNat (x1 + x7)) (x0c - Int.toNat (x1 + x7)))]⟩) h fun v13 h14 => vBool v13 fun b15 => cond b15 (K2 x0b x0n x0c x1 x2b x2n x2c x7 x8 false h14) (K2 x0b x0n x0c x1 x2b x2n x2c x7 x8 true h14)))) fun x0b x0n x0c x1 x2b x2n x2c x7 x8 x68 h => cond x68 (Rng .i64 (x1 + x7) /\ ((0 <= (x1 + x7) /\ (x1 + x7) <= (x0n : Int) /\ (x0n : Int) <= (x0c : Int)) /\ ((0 <= x1 /\ x1 <= (x0n : Int) /\ (x0n : Int) <= (x0c : Int)) /\ (SemH Tryz.prog (Builtin.copy_ #[39, 39] 3 ⟨[(.slice (if x0c = Int.toNat (x1 + x7) then x0b else Option.map (fun q => q.add (Int.toNat (x1 + x7) * 4)) x0b) (Int.toNat (x0n : Int) - Int.toNat (x1 + x7)) (x0c - Int.toNat (x1 + x7))), (.slice (if x0c = Int.toNat x1 then x0b else Option.map (fun q => q.add (Int.toNat x1 * 4)) x0b) (Int.toNat (x0n : Int) - Int.toNat x1) (x0c - Int.toNat x1))]⟩) h fun v6 h7 => vInt .i64 v6 fun i8 => (0 <= x1 /\ x1 <= (x0n : Int) /\ (x0n : Int) <= (x0c : Int)) /\ (SemH Tryz.prog (Builtin.copy_ #[39, 39] 3 ⟨[(.slice (if x0c = Int.toNat x1 then x0b else Option.map (fun q => q.add (Int.toNat x1 * 4)) x0b) (Int.toNat (x0n : Int) - Int.toNat x1) (x0c - Int.toNat x1)), .slice x2b x2n x2c]⟩) h7 fun v9 h10 => vInt .i64 v9 fun i11 => Kr x0b x0n x0c h10))))) (K1 x0b x0n x0c x1 x2b x2n x2c x7 x8 h)) fun x0b x0n x0c x1 x2b x2n x2c x7 x8 h => (0 <= x8 /\ x8 <= (x0n : Int) /\ (x0n : Int) <= (x0c : Int)) /\ (SemH Tryz.prog (Builtin.copy_ #[39, 39] 3 ⟨[(.slice (if x0c = Int.toNat x8 then x0b else Option.map (fun q => q.add (Int.toNat x8 * 4)) x0b) (Int.toNat (x0n : Int) - Int.toNat x8) (x0c - Int.toNat x8)), .slice x2b x2n x2c]⟩) h fun v1 h2 => vInt .i64 v1 fun i3 => (0 <= x1 /\ x1 <= (x0n : Int) /\ (x0n : Int) <= (x0c : Int)) /\ (HCalls Tryz.prog 249 ⟨[(.slice (if x0c = Int.toNat x1 then x0b else Option.map (fun q => q.add (Int.toNat x1 * 4)) x0b) (Int.toNat (x0n : Int) - Int.toNat x1) (x0c - Int.toNat x1)), .int .i64 x7]⟩ h2 fun v4 h5 => Kr x0b x0n x0c h5))) fun y6b y6n y6c h => K (.slice y6b y6n y6c) h
theorem ok (hS : asks x0b x0n x0c x1 x2b x2n x2c K h) : HCalls Tryz.prog 241 ⟨[.slice x0b x0n x0c, .int .i64 x1, .slice x2b x2n x2c]⟩ h K :=
  cl Tryz.func241 hS (fun hg hS => sq hg hS fun hg hS => sq hg hS fun hg hS => sq hg hS fun hg hS => sq hg hS fun hg hS => sq hg hS fun hg hS => sq hg hS fun hg hS => sc hS (fun hS => sq hg hS fun hg hS => lf hg hS) fun hg hS => sq hg hS fun hg hS => sc hS (fun hS => sq hg hS fun hg hS => lf hg hS) fun hg hS => lf hg hS) fun hg hS => rt hg hS
end Sx.slices_Insert_apiOpen
end Go.Proofs
