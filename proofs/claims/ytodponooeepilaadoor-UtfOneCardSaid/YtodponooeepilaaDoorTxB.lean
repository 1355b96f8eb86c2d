/- The shallow forms of functions, printed by sh.py out of the translation; each with its proof. No condition. -/
import Derived.Test.YtodponooeepilaaDoorShJ
import Derived.Test.YtodponooeepilaaDoorProg
namespace Go.Proofs
open Go Go.Sh
set_option linter.unusedVariables false
set_option maxRecDepth 100000

/-! ### tympan/utf.Text -/
namespace Sx.utf_Text
noncomputable def code : Code := bodyOf Tryd.f10
abbrev T0 := (List UInt8) → H → Prop
def E0 (g : Env) (x2 : List UInt8) : Prop := g.v 2 = (S x2) ∧ g.ds = []
def D0 (K : T0) (g : Env) (h : H) : Prop := nilDs g.ds (vStr (g.v 2) fun s1 => K s1 h)
theorem D0_ok {K : T0} {g : Env} {h : H} (hq : D0 K g h) : ∃ (x2 : List UInt8), E0 g x2 ∧ K x2 h := by
  obtain ⟨hd, hq⟩ := nilDs_ok hq
  obtain ⟨y3, e2, q4⟩ := vStr_ok hq
  exact ⟨y3, ⟨e2, hd⟩, q4⟩
def Q0 (Kn : T0) (Kr : T0) : XPost
  | .normal, g, h => D0 Kn g h
  | .ret, g, h => D0 Kr g h
  | _, _, _ => False
abbrev T1 := (Option Addr) → Nat → Nat → H → Prop
def E1 (g : Env) (x0b : Option Addr) (x0n : Nat) (x0c : Nat) : Prop := g.v 0 = (.slice x0b x0n x0c) ∧ g.ds = []
def D1 (K : T1) (g : Env) (h : H) : Prop := nilDs g.ds (vSlice (g.v 0) fun s5b s5n s5c => K s5b s5n s5c h)
theorem D1_ok {K : T1} {g : Env} {h : H} (hq : D1 K g h) : ∃ (x0b : Option Addr) (x0n : Nat) (x0c : Nat), E1 g x0b x0n x0c ∧ K x0b x0n x0c h := by
  obtain ⟨hd, hq⟩ := nilDs_ok hq
  obtain ⟨y7b, y7n, y7c, e6, q8⟩ := vSlice_ok hq
  exact ⟨y7b, y7n, y7c, ⟨e6, hd⟩, q8⟩
noncomputable def n1_c1 : Code := cFst code
noncomputable def n1_c2 : Code := cSnd code
noncomputable def n2_c1 : Code := cFst n1_c2
noncomputable def n2_c2 : Code := cSnd n1_c2
abbrev T2 := (Option Addr) → Nat → Nat → Addr → H → Prop
def E2 (g : Env) (x0b : Option Addr) (x0n : Nat) (x0c : Nat) (x3 : Addr) : Prop := g.v 0 = (.slice x0b x0n x0c) ∧ g.v 3 = (.pointer (some x3)) ∧ g.ds = []
def D2 (K : T2) (g : Env) (h : H) : Prop := nilDs g.ds (vSlice (g.v 0) fun s9b s9n s9c => vAddr (g.v 3) fun a10 => K s9b s9n s9c a10 h)
theorem D2_ok {K : T2} {g : Env} {h : H} (hq : D2 K g h) : ∃ (x0b : Option Addr) (x0n : Nat) (x0c : Nat) (x3 : Addr), E2 g x0b x0n x0c x3 ∧ K x0b x0n x0c x3 h := by
  obtain ⟨hd, hq⟩ := nilDs_ok hq
  obtain ⟨y12b, y12n, y12c, e11, q13⟩ := vSlice_ok hq
  obtain ⟨y15, e14, q16⟩ := vAddr_ok q13
  exact ⟨y12b, y12n, y12c, y15, ⟨e11, e14, hd⟩, q16⟩
noncomputable def n3_c1 : Code := cFst n2_c2
noncomputable def n3_c2 : Code := cSnd n2_c2
noncomputable def n4_c1 : Code := cFst n3_c2
noncomputable def n4_c2 : Code := cSnd n3_c2
abbrev T3 := Addr → H → Prop
def E3 (g : Env) (x3 : Addr) : Prop := g.v 3 = (.pointer (some x3)) ∧ g.ds = []
def D3 (K : T3) (g : Env) (h : H) : Prop := nilDs g.ds (vAddr (g.v 3) fun a17 => K a17 h)
theorem D3_ok {K : T3} {g : Env} {h : H} (hq : D3 K g h) : ∃ (x3 : Addr), E3 g x3 ∧ K x3 h := by
  obtain ⟨hd, hq⟩ := nilDs_ok hq
  obtain ⟨y19, e18, q20⟩ := vAddr_ok hq
  exact ⟨y19, ⟨e18, hd⟩, q20⟩
abbrev n5 (x3 : Addr) (Kn : T0) (Kr : T0) (h : H) : Prop :=
  HCalls Tryd.prog 24 ⟨[(.pointer (some x3))]⟩ h fun v21 h22 => vStr v21 fun s23 => Kr s23 h22
theorem n5_ok (x3 : Addr) (Kn : T0) (Kr : T0) (g : Env) (hg : E3 g x3) (h : H) (hS : n5 x3 Kn Kr h) : wpC none Tryd.prog 41 n4_c2 (Q0 Kn Kr) g h := by
  obtain ⟨hg3, hds⟩ := hg
  refine wpC_of_wpx (by kernel_rfl) (by kernel_rfl) (g' := (⟨g.v, []⟩ : Env).upd (some 3) (.pointer (some x3))) (by rw [env_ds hds, upd_self hg3]) ?_
  have e : (n5 x3 Kn Kr h) = wpx none Tryd.prog 41 n4_c2 (Q0 Kn Kr) ((⟨g.v, []⟩ : Env).upd (some 3) (.pointer (some x3))) h := by kernel_rfl
  exact e ▸ hS
def Q1 (Kn : T3) (Kr : T0) : XPost
  | .normal, g, h => D3 Kn g h
  | .ret, g, h => D0 Kr g h
  | _, _, _ => False
noncomputable def n6_c1 : Code := cFst n4_c1
def Q2 (Kn : T3) (Ke0 : T3) (Kr : T0) : XPost
  | .normal, g, h => D3 Kn g h
  | .ret, g, h => D0 Kr g h
  | .exit id, g, h => cond (Nat.beq id 0) (D3 Ke0 g h) (False)
  | _, _, _ => False
noncomputable def n7_c1 : Code := cFst n6_c1
def Q3 (Kn : T2) (Ke0 : T3) (Kr : T0) : XPost
  | .normal, g, h => D2 Kn g h
  | .ret, g, h => D0 Kr g h
  | .exit id, g, h => cond (Nat.beq id 0) (D3 Ke0 g h) (False)
  | _, _, _ => False
noncomputable def n8_c1 : Code := cFst n7_c1
noncomputable def n8_c2 : Code := cSnd n7_c1
noncomputable def n9_c1 : Code := cFst n8_c2
def Q4 (Kn : T2) (Ke1 : T2) (Ke0 : T3) (Kr : T0) : XPost
  | .normal, g, h => D2 Kn g h
  | .ret, g, h => D0 Kr g h
  | .exit id, g, h => cond (Nat.beq id 1) (D2 Ke1 g h) (cond (Nat.beq id 0) (D3 Ke0 g h) (False))
  | _, _, _ => False
noncomputable def n10_c1 : Code := cFst n9_c1
noncomputable def n10_c2 : Code := cSnd n9_c1
abbrev T4 := (Option Addr) → Nat → Nat → Addr → Int → Bool → H → Prop
def E4 (g : Env) (x0b : Option Addr) (x0n : Nat) (x0c : Nat) (x3 : Addr) (x4 : Int) (x5 : Bool) : Prop := g.v 0 = (.slice x0b x0n x0c) ∧ g.v 3 = (.pointer (some x3)) ∧ g.v 4 = (.int .i64 x4) ∧ g.v 5 = (.bool x5) ∧ g.ds = []
def D4 (K : T4) (g : Env) (h : H) : Prop := nilDs g.ds (vSlice (g.v 0) fun s24b s24n s24c => vAddr (g.v 3) fun a25 => vInt .i64 (g.v 4) fun i26 => vBool (g.v 5) fun b27 => K s24b s24n s24c a25 i26 b27 h)
theorem D4_ok {K : T4} {g : Env} {h : H} (hq : D4 K g h) : ∃ (x0b : Option Addr) (x0n : Nat) (x0c : Nat) (x3 : Addr) (x4 : Int) (x5 : Bool), E4 g x0b x0n x0c x3 x4 x5 ∧ K x0b x0n x0c x3 x4 x5 h := by
  obtain ⟨hd, hq⟩ := nilDs_ok hq
  obtain ⟨y29b, y29n, y29c, e28, q30⟩ := vSlice_ok hq
  obtain ⟨y32, e31, q33⟩ := vAddr_ok q30
  obtain ⟨y35, e34, q36⟩ := vInt_ok q33
  obtain ⟨y38, e37, q39⟩ := vBool_ok q36
  exact ⟨y29b, y29n, y29c, y32, y35, y38, ⟨e28, e31, e34, e37, hd⟩, q39⟩
abbrev n11 (x0b : Option Addr) (x0n : Nat) (x0c : Nat) (x3 : Addr) (x4 : Int) (x5 : Bool) (Kn : T2) (Ke1 : T2) (Ke0 : T3) (Kr : T0) (h : H) : Prop :=
  cond x5 ((0 ≤ (0 : Int) ∧ (0 : Int) < (x0n : Int)) ∧ (vSome x0b fun a40 => ∃ i41, cell h (a40.add (Int.toNat (0 : Int) * 1)) = some (.int .u8 i41) ∧ (Spl (i41 = (0 : Int)) (HCalls Tryd.prog 23 ⟨[(.pointer (some x3)), (.int .i32 (65533 : Int))]⟩ h fun v42 h43 => vTup v42 fun l44 => uncons l44 fun e45 l46 => vInt .i64 e45 fun i47 => uncons l46 fun e48 l49 => unnil l49 ((0 ≤ x4 ∧ x4 ≤ (x0n : Int) ∧ (x0n : Int) ≤ (x0c : Int)) ∧ (Kn (if x0c = Int.toNat x4 then x0b else Option.map (fun q => q.add (Int.toNat x4 * 1)) x0b) (Int.toNat (x0n : Int) - Int.toNat x4) (x0c - Int.toNat x4) x3 h43))) ((0 ≤ (0 : Int) ∧ (0 : Int) ≤ x4 ∧ x4 ≤ (x0c : Int)) ∧ (HCalls Tryd.prog 22 ⟨[(.pointer (some x3)), (.slice (if x0c = Int.toNat (0 : Int) then x0b else Option.map (fun q => q.add (Int.toNat (0 : Int) * 1)) x0b) (Int.toNat x4 - Int.toNat (0 : Int)) (x0c - Int.toNat (0 : Int)))]⟩ h fun v50 h51 => vTup v50 fun l52 => uncons l52 fun e53 l54 => vInt .i64 e53 fun i55 => uncons l54 fun e56 l57 => unnil l57 ((0 ≤ x4 ∧ x4 ≤ (x0n : Int) ∧ (x0n : Int) ≤ (x0c : Int)) ∧ (Kn (if x0c = Int.toNat x4 then x0b else Option.map (fun q => q.add (Int.toNat x4 * 1)) x0b) (Int.toNat (x0n : Int) - Int.toNat x4) (x0c - Int.toNat x4) x3 h51))))))) (HCalls Tryd.prog 23 ⟨[(.pointer (some x3)), (.int .i32 (65533 : Int))]⟩ h fun v58 h59 => vTup v58 fun l60 => uncons l60 fun e61 l62 => vInt .i64 e61 fun i63 => uncons l62 fun e64 l65 => unnil l65 ((0 ≤ x4 ∧ x4 ≤ (x0n : Int) ∧ (x0n : Int) ≤ (x0c : Int)) ∧ (Kn (if x0c = Int.toNat x4 then x0b else Option.map (fun q => q.add (Int.toNat x4 * 1)) x0b) (Int.toNat (x0n : Int) - Int.toNat x4) (x0c - Int.toNat x4) x3 h59)))
theorem n11_ok (x0b : Option Addr) (x0n : Nat) (x0c : Nat) (x3 : Addr) (x4 : Int) (x5 : Bool) (Kn : T2) (Ke1 : T2) (Ke0 : T3) (Kr : T0) (g : Env) (hg : E4 g x0b x0n x0c x3 x4 x5) (h : H) (hS : n11 x0b x0n x0c x3 x4 x5 Kn Ke1 Ke0 Kr h) : wpC none Tryd.prog 41 n10_c2 (Q4 Kn Ke1 Ke0 Kr) g h := by
  obtain ⟨hg0, hg3, hg4, hg5, hds⟩ := hg
  refine wpC_of_wpx (by kernel_rfl) (by kernel_rfl) (g' := ((((⟨g.v, []⟩ : Env).upd (some 0) (.slice x0b x0n x0c)).upd (some 3) (.pointer (some x3))).upd (some 4) (.int .i64 x4)).upd (some 5) (.bool x5)) (by rw [env_ds hds, upd_self hg0, upd_self hg3, upd_self hg4, upd_self hg5]) ?_
  have e : (n11 x0b x0n x0c x3 x4 x5 Kn Ke1 Ke0 Kr h) = wpx none Tryd.prog 41 n10_c2 (Q4 Kn Ke1 Ke0 Kr) (((((⟨g.v, []⟩ : Env).upd (some 0) (.slice x0b x0n x0c)).upd (some 3) (.pointer (some x3))).upd (some 4) (.int .i64 x4)).upd (some 5) (.bool x5)) h := by kernel_rfl
  exact e ▸ hS
def Q5 (Kn : T4) (Ke1 : T2) (Ke0 : T3) (Kr : T0) : XPost
  | .normal, g, h => D4 Kn g h
  | .ret, g, h => D0 Kr g h
  | .exit id, g, h => cond (Nat.beq id 1) (D2 Ke1 g h) (cond (Nat.beq id 0) (D3 Ke0 g h) (False))
  | _, _, _ => False
abbrev n10 (x0b : Option Addr) (x0n : Nat) (x0c : Nat) (x3 : Addr) (Kn : T2) (Ke1 : T2) (Ke0 : T3) (Kr : T0) (h : H) : Prop :=
  HCalls Tryd.prog 21 ⟨[(.slice x0b x0n x0c)]⟩ h fun v66 h67 => vTup v66 fun l68 => uncons l68 fun e69 l70 => vInt .i64 e69 fun i71 => uncons l70 fun e72 l73 => vBool e72 fun b74 => unnil l73 (cond b74 (n11 x0b x0n x0c x3 i71 true Kn Ke1 Ke0 Kr h67) (n11 x0b x0n x0c x3 i71 false Kn Ke1 Ke0 Kr h67))
theorem n10_ok (x0b : Option Addr) (x0n : Nat) (x0c : Nat) (x3 : Addr) (Kn : T2) (Ke1 : T2) (Ke0 : T3) (Kr : T0) (g : Env) (hg : E2 g x0b x0n x0c x3) (h : H) (hS : n10 x0b x0n x0c x3 Kn Ke1 Ke0 Kr h) : wpC none Tryd.prog 41 n9_c1 (Q4 Kn Ke1 Ke0 Kr) g h := by
  obtain ⟨hg0, hg3, hds⟩ := hg
  refine wpC_seq' (x := n10_c1) (y := n10_c2) (Q' := (Q5 (fun z0b z0n z0c z3 z4 z5 h => n11 z0b z0n z0c z3 z4 z5 Kn Ke1 Ke0 Kr h) Ke1 Ke0 Kr)) (by kernel_rfl) ?_ ?_
  · refine wpC_of_wpx (by kernel_rfl) (by kernel_rfl) (g' := ((⟨g.v, []⟩ : Env).upd (some 0) (.slice x0b x0n x0c)).upd (some 3) (.pointer (some x3))) (by rw [env_ds hds, upd_self hg0, upd_self hg3]) ?_
    have e : (n10 x0b x0n x0c x3 Kn Ke1 Ke0 Kr h) = wpx none Tryd.prog 41 n10_c1 (Q5 (fun z0b z0n z0c z3 z4 z5 h => n11 z0b z0n z0c z3 z4 z5 Kn Ke1 Ke0 Kr h) Ke1 Ke0 Kr) (((⟨g.v, []⟩ : Env).upd (some 0) (.slice x0b x0n x0c)).upd (some 3) (.pointer (some x3))) h := by kernel_rfl
    exact e ▸ hS
  · intro e g' h' hq
    cases e with
    | normal =>
      have hq : D4 (fun z0b z0n z0c z3 z4 z5 h => n11 z0b z0n z0c z3 z4 z5 Kn Ke1 Ke0 Kr h) g' h' := hq
      obtain ⟨y0b, y0n, y0c, y3, y4, y5, hg', hq⟩ := D4_ok hq
      exact n11_ok y0b y0n y0c y3 y4 y5 Kn Ke1 Ke0 Kr g' hg' h' hq
    | _ => exact hq
abbrev n9 (x0b : Option Addr) (x0n : Nat) (x0c : Nat) (x3 : Addr) (Kn : T2) (Ke0 : T3) (Kr : T0) (h : H) : Prop := n10 x0b x0n x0c x3 Kn Kn Ke0 Kr h
theorem n9_ok (x0b : Option Addr) (x0n : Nat) (x0c : Nat) (x3 : Addr) (Kn : T2) (Ke0 : T3) (Kr : T0) (g : Env) (hg : E2 g x0b x0n x0c x3) (h : H) (hS : n9 x0b x0n x0c x3 Kn Ke0 Kr h) : wpC none Tryd.prog 41 n8_c2 (Q3 Kn Ke0 Kr) g h := by
  refine wpC_block' (id := 1) (x := n9_c1) (by kernel_rfl) (n10_ok x0b x0n x0c x3 Kn Kn Ke0 Kr g hg h hS) ?_
  intro e g' h' hq
  cases e <;> exact hq
abbrev n8 (x0b : Option Addr) (x0n : Nat) (x0c : Nat) (x3 : Addr) (Kn : T2) (Ke0 : T3) (Kr : T0) (h : H) : Prop :=
  Spl ((x0n : Int) > (0 : Int)) (n9 x0b x0n x0c x3 Kn Ke0 Kr h) (Ke0 x3 h)
theorem n8_ok (x0b : Option Addr) (x0n : Nat) (x0c : Nat) (x3 : Addr) (Kn : T2) (Ke0 : T3) (Kr : T0) (g : Env) (hg : E2 g x0b x0n x0c x3) (h : H) (hS : n8 x0b x0n x0c x3 Kn Ke0 Kr h) : wpC none Tryd.prog 41 n7_c1 (Q3 Kn Ke0 Kr) g h := by
  obtain ⟨hg0, hg3, hds⟩ := hg
  refine wpC_seq' (x := n8_c1) (y := n8_c2) (Q' := (Q3 (fun z0b z0n z0c z3 h => n9 z0b z0n z0c z3 Kn Ke0 Kr h) Ke0 Kr)) (by kernel_rfl) ?_ ?_
  · refine wpC_of_wpx (by kernel_rfl) (by kernel_rfl) (g' := ((⟨g.v, []⟩ : Env).upd (some 0) (.slice x0b x0n x0c)).upd (some 3) (.pointer (some x3))) (by rw [env_ds hds, upd_self hg0, upd_self hg3]) ?_
    have e : (n8 x0b x0n x0c x3 Kn Ke0 Kr h) = wpx none Tryd.prog 41 n8_c1 (Q3 (fun z0b z0n z0c z3 h => n9 z0b z0n z0c z3 Kn Ke0 Kr h) Ke0 Kr) (((⟨g.v, []⟩ : Env).upd (some 0) (.slice x0b x0n x0c)).upd (some 3) (.pointer (some x3))) h := by kernel_rfl
    exact e ▸ hS
  · intro e g' h' hq
    cases e with
    | normal =>
      have hq : D2 (fun z0b z0n z0c z3 h => n9 z0b z0n z0c z3 Kn Ke0 Kr h) g' h' := hq
      obtain ⟨y0b, y0n, y0c, y3, hg', hq⟩ := D2_ok hq
      exact n9_ok y0b y0n y0c y3 Kn Ke0 Kr g' hg' h' hq
    | _ => exact hq
def n7_L (Kn : T3) (Ke0 : T3) (Kr : T0) : Nat → (Option Addr) → Nat → Nat → Addr → H → Prop
  | 0 => fun _ _ _ _ _ => False
  | N + 1 => fun x0b x0n x0c x3 h => n8 x0b x0n x0c x3 (fun z0b z0n z0c z3 h => n7_L Kn Ke0 Kr N z0b z0n z0c z3 h) Ke0 Kr h
abbrev n7 (x0b : Option Addr) (x0n : Nat) (x0c : Nat) (x3 : Addr) (Kn : T3) (Ke0 : T3) (Kr : T0) (h : H) : Prop := ∃ N, n7_L Kn Ke0 Kr N x0b x0n x0c x3 h
theorem n7_ok (x0b : Option Addr) (x0n : Nat) (x0c : Nat) (x3 : Addr) (Kn : T3) (Ke0 : T3) (Kr : T0) (g : Env) (hg : E2 g x0b x0n x0c x3) (h : H) (hS : n7 x0b x0n x0c x3 Kn Ke0 Kr h) : wpC none Tryd.prog 41 n6_c1 (Q2 Kn Ke0 Kr) g h := by
  obtain ⟨N0, hS⟩ := hS
  refine wpC_loop' (x := n7_c1) (by kernel_rfl) (fun k g h => ∃ (x0b : Option Addr) (x0n : Nat) (x0c : Nat) (x3 : Addr), E2 g x0b x0n x0c x3 ∧ n7_L Kn Ke0 Kr k x0b x0n x0c x3 h) (fun g h hr => ?_) (fun N g h hr => ?_) N0 ⟨x0b, x0n, x0c, x3, hg, hS⟩
  · obtain ⟨x0b, x0n, x0c, x3, hg, hS⟩ := hr
    exact hS.elim
  · obtain ⟨x0b, x0n, x0c, x3, hg, hS⟩ := hr
    refine (n8_ok x0b x0n x0c x3 (fun z0b z0n z0c z3 h => n7_L Kn Ke0 Kr N z0b z0n z0c z3 h) Ke0 Kr g hg h hS).mono ?_
    intro e g' h' hq
    cases e with
    | normal => exact D2_ok (K := (fun z0b z0n z0c z3 h => n7_L Kn Ke0 Kr N z0b z0n z0c z3 h)) hq
    | _ => exact hq
abbrev n6 (x0b : Option Addr) (x0n : Nat) (x0c : Nat) (x3 : Addr) (Kn : T3) (Kr : T0) (h : H) : Prop := n7 x0b x0n x0c x3 Kn Kn Kr h
theorem n6_ok (x0b : Option Addr) (x0n : Nat) (x0c : Nat) (x3 : Addr) (Kn : T3) (Kr : T0) (g : Env) (hg : E2 g x0b x0n x0c x3) (h : H) (hS : n6 x0b x0n x0c x3 Kn Kr h) : wpC none Tryd.prog 41 n4_c1 (Q1 Kn Kr) g h := by
  refine wpC_block' (id := 0) (x := n6_c1) (by kernel_rfl) (n7_ok x0b x0n x0c x3 Kn Kn Kr g hg h hS) ?_
  intro e g' h' hq
  cases e <;> exact hq
abbrev n4 (x0b : Option Addr) (x0n : Nat) (x0c : Nat) (x3 : Addr) (Kn : T0) (Kr : T0) (h : H) : Prop := n6 x0b x0n x0c x3 (fun z3 h => n5 z3 Kn Kr h) Kr h
theorem n4_ok (x0b : Option Addr) (x0n : Nat) (x0c : Nat) (x3 : Addr) (Kn : T0) (Kr : T0) (g : Env) (hg : E2 g x0b x0n x0c x3) (h : H) (hS : n4 x0b x0n x0c x3 Kn Kr h) : wpC none Tryd.prog 41 n3_c2 (Q0 Kn Kr) g h := by
  refine wpC_seq' (x := n4_c1) (y := n4_c2) (by kernel_rfl) (n6_ok x0b x0n x0c x3 (fun z3 h => n5 z3 Kn Kr h) Kr g hg h hS) ?_
  intro e g' h' hq
  cases e with
  | normal =>
    have hq : D3 (fun z3 h => n5 z3 Kn Kr h) g' h' := hq
    obtain ⟨y3, hg', hq⟩ := D3_ok hq
    exact n5_ok y3 Kn Kr g' hg' h' hq
  | _ => exact hq
def Q6 (Kn : T2) (Kr : T0) : XPost
  | .normal, g, h => D2 Kn g h
  | .ret, g, h => D0 Kr g h
  | _, _, _ => False
abbrev n3 (x0b : Option Addr) (x0n : Nat) (x0c : Nat) (x3 : Addr) (Kn : T0) (Kr : T0) (h : H) : Prop :=
  Spl ((x0n : Int) ≥ (3 : Int)) ((0 ≤ (0 : Int) ∧ (0 : Int) ≤ (3 : Int) ∧ (3 : Int) ≤ (x0c : Int)) ∧ (SemH Tryd.prog (convert 22 9 (.slice (if x0c = Int.toNat (0 : Int) then x0b else Option.map (fun q => q.add (Int.toNat (0 : Int) * 1)) x0b) (Int.toNat (3 : Int) - Int.toNat (0 : Int)) (x0c - Int.toNat (0 : Int)))) h fun v75 h76 => vStr v75 fun s77 => Spl (s77 = ([239, 187, 191] : List UInt8)) ((0 ≤ (3 : Int) ∧ (3 : Int) ≤ (x0n : Int) ∧ (x0n : Int) ≤ (x0c : Int)) ∧ (n4 (if x0c = Int.toNat (3 : Int) then x0b else Option.map (fun q => q.add (Int.toNat (3 : Int) * 1)) x0b) (Int.toNat (x0n : Int) - Int.toNat (3 : Int)) (x0c - Int.toNat (3 : Int)) x3 Kn Kr h76)) (n4 x0b x0n x0c x3 Kn Kr h76))) (n4 x0b x0n x0c x3 Kn Kr h)
theorem n3_ok (x0b : Option Addr) (x0n : Nat) (x0c : Nat) (x3 : Addr) (Kn : T0) (Kr : T0) (g : Env) (hg : E2 g x0b x0n x0c x3) (h : H) (hS : n3 x0b x0n x0c x3 Kn Kr h) : wpC none Tryd.prog 41 n2_c2 (Q0 Kn Kr) g h := by
  obtain ⟨hg0, hg3, hds⟩ := hg
  refine wpC_seq' (x := n3_c1) (y := n3_c2) (Q' := (Q6 (fun z0b z0n z0c z3 h => n4 z0b z0n z0c z3 Kn Kr h) Kr)) (by kernel_rfl) ?_ ?_
  · refine wpC_of_wpx (by kernel_rfl) (by kernel_rfl) (g' := ((⟨g.v, []⟩ : Env).upd (some 0) (.slice x0b x0n x0c)).upd (some 3) (.pointer (some x3))) (by rw [env_ds hds, upd_self hg0, upd_self hg3]) ?_
    have e : (n3 x0b x0n x0c x3 Kn Kr h) = wpx none Tryd.prog 41 n3_c1 (Q6 (fun z0b z0n z0c z3 h => n4 z0b z0n z0c z3 Kn Kr h) Kr) (((⟨g.v, []⟩ : Env).upd (some 0) (.slice x0b x0n x0c)).upd (some 3) (.pointer (some x3))) h := by kernel_rfl
    exact e ▸ hS
  · intro e g' h' hq
    cases e with
    | normal =>
      have hq : D2 (fun z0b z0n z0c z3 h => n4 z0b z0n z0c z3 Kn Kr h) g' h' := hq
      obtain ⟨y0b, y0n, y0c, y3, hg', hq⟩ := D2_ok hq
      exact n4_ok y0b y0n y0c y3 Kn Kr g' hg' h' hq
    | _ => exact hq
abbrev n2 (x0b : Option Addr) (x0n : Nat) (x0c : Nat) (Kn : T0) (Kr : T0) (h : H) : Prop :=
  newx h ⟨[(.pointer none), (.slice none 0 0)]⟩ 36 fun a78 h79 => n3 x0b x0n x0c a78 Kn Kr h79
theorem n2_ok (x0b : Option Addr) (x0n : Nat) (x0c : Nat) (Kn : T0) (Kr : T0) (g : Env) (hg : E1 g x0b x0n x0c) (h : H) (hS : n2 x0b x0n x0c Kn Kr h) : wpC none Tryd.prog 41 n1_c2 (Q0 Kn Kr) g h := by
  obtain ⟨hg0, hds⟩ := hg
  refine wpC_seq' (x := n2_c1) (y := n2_c2) (Q' := (Q6 (fun z0b z0n z0c z3 h => n3 z0b z0n z0c z3 Kn Kr h) Kr)) (by kernel_rfl) ?_ ?_
  · refine wpC_of_wpx (by kernel_rfl) (by kernel_rfl) (g' := (⟨g.v, []⟩ : Env).upd (some 0) (.slice x0b x0n x0c)) (by rw [env_ds hds, upd_self hg0]) ?_
    have e : (n2 x0b x0n x0c Kn Kr h) = wpx none Tryd.prog 41 n2_c1 (Q6 (fun z0b z0n z0c z3 h => n3 z0b z0n z0c z3 Kn Kr h) Kr) ((⟨g.v, []⟩ : Env).upd (some 0) (.slice x0b x0n x0c)) h := by kernel_rfl
    exact e ▸ hS
  · intro e g' h' hq
    cases e with
    | normal =>
      have hq : D2 (fun z0b z0n z0c z3 h => n3 z0b z0n z0c z3 Kn Kr h) g' h' := hq
      obtain ⟨y0b, y0n, y0c, y3, hg', hq⟩ := D2_ok hq
      exact n3_ok y0b y0n y0c y3 Kn Kr g' hg' h' hq
    | _ => exact hq
def Q7 (Kn : T1) (Kr : T0) : XPost
  | .normal, g, h => D1 Kn g h
  | .ret, g, h => D0 Kr g h
  | _, _, _ => False
abbrev n1 (x0b : Option Addr) (x0n : Nat) (x0c : Nat) (Kn : T0) (Kr : T0) (h : H) : Prop :=
  n2 x0b x0n x0c Kn Kr h
theorem n1_ok (x0b : Option Addr) (x0n : Nat) (x0c : Nat) (Kn : T0) (Kr : T0) (g : Env) (hg : E1 g x0b x0n x0c) (h : H) (hS : n1 x0b x0n x0c Kn Kr h) : wpC none Tryd.prog 41 code (Q0 Kn Kr) g h := by
  obtain ⟨hg0, hds⟩ := hg
  refine wpC_seq' (x := n1_c1) (y := n1_c2) (Q' := (Q7 (fun z0b z0n z0c h => n2 z0b z0n z0c Kn Kr h) Kr)) (by kernel_rfl) ?_ ?_
  · refine wpC_of_wpx (by kernel_rfl) (by kernel_rfl) (g' := (⟨g.v, []⟩ : Env).upd (some 0) (.slice x0b x0n x0c)) (by rw [env_ds hds, upd_self hg0]) ?_
    have e : (n1 x0b x0n x0c Kn Kr h) = wpx none Tryd.prog 41 n1_c1 (Q7 (fun z0b z0n z0c h => n2 z0b z0n z0c Kn Kr h) Kr) ((⟨g.v, []⟩ : Env).upd (some 0) (.slice x0b x0n x0c)) h := by kernel_rfl
    exact e ▸ hS
  · intro e g' h' hq
    cases e with
    | normal =>
      have hq : D1 (fun z0b z0n z0c h => n2 z0b z0n z0c Kn Kr h) g' h' := hq
      obtain ⟨y0b, y0n, y0c, hg', hq⟩ := D1_ok hq
      exact n2_ok y0b y0n y0c Kn Kr g' hg' h' hq
    | _ => exact hq
/-- WHAT tympan/utf.Text ASKS -/
abbrev asks (x0b : Option Addr) (x0n : Nat) (x0c : Nat) (K : Value → H → Prop) (h : H) : Prop := n1 x0b x0n x0c (fun y2 h => K (S y2) h) (fun y2 h => K (S y2) h) h
theorem ok (x0b : Option Addr) (x0n : Nat) (x0c : Nat) (K : Value → H → Prop) (h : H) (hS : asks x0b x0n x0c K h) : HCalls Tryd.prog 10 ⟨[(.slice x0b x0n x0c)]⟩ h K := by
  refine calls_of_wpC (c := code) Tryd.func10 (by kernel_rfl) (Nat.le_of_ble_eq_true (by kernel_rfl)) ?_
  refine (n1_ok x0b x0n x0c (fun y2 h => K (S y2) h) (fun y2 h => K (S y2) h) (env0 [(.slice x0b x0n x0c)]) ⟨rfl, rfl⟩ h hS).mono ?_
  intro e g' h' hq
  cases e with
  | normal =>
    have hq : D0 (fun y2 h => K (S y2) h) g' h' := hq
    obtain ⟨y2, ⟨hg2, hd⟩, hq⟩ := D0_ok hq
    show leaveX g'.ds h' _
    rw [hd]
    show K (g'.v 2) h'
    rw [hg2]
    exact hq
  | ret =>
    have hq : D0 (fun y2 h => K (S y2) h) g' h' := hq
    obtain ⟨y2, ⟨hg2, hd⟩, hq⟩ := D0_ok hq
    show leaveX g'.ds h' _
    rw [hd]
    show K (g'.v 2) h'
    rw [hg2]
    exact hq
  | _ => exact hq
end Sx.utf_Text

/-! ### tympan/tympanref00.SameStrings -/
namespace Sx.r00_SameStrings
noncomputable def code : Code := bodyOf Tryd.f18
abbrev T0 := Bool → H → Prop
def E0 (g : Env) (x4 : Bool) : Prop := g.v 4 = (.bool x4) ∧ g.ds = []
def D0 (K : T0) (g : Env) (h : H) : Prop := nilDs g.ds (vBool (g.v 4) fun b1 => K b1 h)
theorem D0_ok {K : T0} {g : Env} {h : H} (hq : D0 K g h) : ∃ (x4 : Bool), E0 g x4 ∧ K x4 h := by
  obtain ⟨hd, hq⟩ := nilDs_ok hq
  obtain ⟨y3, e2, q4⟩ := vBool_ok hq
  exact ⟨y3, ⟨e2, hd⟩, q4⟩
def Q0 (Kn : T0) (Kr : T0) : XPost
  | .normal, g, h => D0 Kn g h
  | .ret, g, h => D0 Kr g h
  | _, _, _ => False
abbrev T1 := (Option Addr) → Nat → Nat → (Option Addr) → Nat → Nat → H → Prop
def E1 (g : Env) (x0b : Option Addr) (x0n : Nat) (x0c : Nat) (x1b : Option Addr) (x1n : Nat) (x1c : Nat) : Prop := g.v 0 = (.slice x0b x0n x0c) ∧ g.v 1 = (.slice x1b x1n x1c) ∧ g.ds = []
def D1 (K : T1) (g : Env) (h : H) : Prop := nilDs g.ds (vSlice (g.v 0) fun s5b s5n s5c => vSlice (g.v 1) fun s6b s6n s6c => K s5b s5n s5c s6b s6n s6c h)
theorem D1_ok {K : T1} {g : Env} {h : H} (hq : D1 K g h) : ∃ (x0b : Option Addr) (x0n : Nat) (x0c : Nat) (x1b : Option Addr) (x1n : Nat) (x1c : Nat), E1 g x0b x0n x0c x1b x1n x1c ∧ K x0b x0n x0c x1b x1n x1c h := by
  obtain ⟨hd, hq⟩ := nilDs_ok hq
  obtain ⟨y8b, y8n, y8c, e7, q9⟩ := vSlice_ok hq
  obtain ⟨y11b, y11n, y11c, e10, q12⟩ := vSlice_ok q9
  exact ⟨y8b, y8n, y8c, y11b, y11n, y11c, ⟨e7, e10, hd⟩, q12⟩
noncomputable def n1_c1 : Code := cFst code
noncomputable def n1_c2 : Code := cSnd code
noncomputable def n2_c1 : Code := cFst n1_c2
noncomputable def n2_c2 : Code := cSnd n1_c2
noncomputable def n3_c1 : Code := cFst n2_c2
noncomputable def n3_c2 : Code := cSnd n2_c2
abbrev T2 := H → Prop
def E2 (g : Env)  : Prop := g.ds = []
def D2 (K : T2) (g : Env) (h : H) : Prop := nilDs g.ds (K h)
theorem D2_ok {K : T2} {g : Env} {h : H} (hq : D2 K g h) : E2 g  ∧ K  h := by
  obtain ⟨hd, hq⟩ := nilDs_ok hq
  skip
  exact ⟨hd, hq⟩
abbrev n4  (Kn : T0) (Kr : T0) (h : H) : Prop :=
  Kr true h
theorem n4_ok  (Kn : T0) (Kr : T0) (g : Env) (hg : E2 g ) (h : H) (hS : n4  Kn Kr h) : wpC none Tryd.prog 26 n3_c2 (Q0 Kn Kr) g h := by
  have hds : g.ds = [] := hg
  refine wpC_of_wpx (by kernel_rfl) (by kernel_rfl) (g' := ⟨g.v, []⟩) (by rw [env_ds hds]) ?_
  have e : (n4  Kn Kr h) = wpx none Tryd.prog 26 n3_c2 (Q0 Kn Kr) (⟨g.v, []⟩) h := by kernel_rfl
  exact e ▸ hS
def Q1 (Kn : T2) (Kr : T0) : XPost
  | .normal, g, h => D2 Kn g h
  | .ret, g, h => D0 Kr g h
  | _, _, _ => False
noncomputable def n5_c1 : Code := cFst n3_c1
noncomputable def n5_c2 : Code := cSnd n3_c1
abbrev T3 := (Option Addr) → Nat → Nat → (Option Addr) → Nat → Nat → Int → H → Prop
def E3 (g : Env) (x0b : Option Addr) (x0n : Nat) (x0c : Nat) (x1b : Option Addr) (x1n : Nat) (x1c : Nat) (x5 : Int) : Prop := g.v 0 = (.slice x0b x0n x0c) ∧ g.v 1 = (.slice x1b x1n x1c) ∧ g.v 5 = (.int .i64 x5) ∧ g.ds = []
def D3 (K : T3) (g : Env) (h : H) : Prop := nilDs g.ds (vSlice (g.v 0) fun s13b s13n s13c => vSlice (g.v 1) fun s14b s14n s14c => vInt .i64 (g.v 5) fun i15 => K s13b s13n s13c s14b s14n s14c i15 h)
theorem D3_ok {K : T3} {g : Env} {h : H} (hq : D3 K g h) : ∃ (x0b : Option Addr) (x0n : Nat) (x0c : Nat) (x1b : Option Addr) (x1n : Nat) (x1c : Nat) (x5 : Int), E3 g x0b x0n x0c x1b x1n x1c x5 ∧ K x0b x0n x0c x1b x1n x1c x5 h := by
  obtain ⟨hd, hq⟩ := nilDs_ok hq
  obtain ⟨y17b, y17n, y17c, e16, q18⟩ := vSlice_ok hq
  obtain ⟨y20b, y20n, y20c, e19, q21⟩ := vSlice_ok q18
  obtain ⟨y23, e22, q24⟩ := vInt_ok q21
  exact ⟨y17b, y17n, y17c, y20b, y20n, y20c, y23, ⟨e16, e19, e22, hd⟩, q24⟩
noncomputable def n6_c1 : Code := cFst n5_c2
def Q2 (Kn : T2) (Ke0 : T2) (Kr : T0) : XPost
  | .normal, g, h => D2 Kn g h
  | .ret, g, h => D0 Kr g h
  | .exit id, g, h => cond (Nat.beq id 0) (D2 Ke0 g h) (False)
  | _, _, _ => False
noncomputable def n7_c1 : Code := cFst n6_c1
def Q3 (Kn : T3) (Ke0 : T2) (Kr : T0) : XPost
  | .normal, g, h => D3 Kn g h
  | .ret, g, h => D0 Kr g h
  | .exit id, g, h => cond (Nat.beq id 0) (D2 Ke0 g h) (False)
  | _, _, _ => False
def n7_L (Kn : T2) (Ke0 : T2) (Kr : T0) : Nat → (Option Addr) → Nat → Nat → (Option Addr) → Nat → Nat → Int → H → Prop
  | 0 => fun _ _ _ _ _ _ _ _ => False
  | N + 1 => fun x0b x0n x0c x1b x1n x1c x5 h => Spl (x5 < (x0n : Int)) ((0 ≤ x5 ∧ x5 < (x0n : Int)) ∧ (vSome x0b fun a25 => ∃ s26, cell h (a25.add (Int.toNat x5 * 1)) = some (S s26) ∧ ((0 ≤ x5 ∧ x5 < (x1n : Int)) ∧ (vSome x1b fun a27 => ∃ s28, cell h (a27.add (Int.toNat x5 * 1)) = some (S s28) ∧ (Spl (s26 = s28) (Rng .i64 (x5 + (1 : Int)) ∧ (n7_L Kn Ke0 Kr N x0b x0n x0c x1b x1n x1c (x5 + (1 : Int)) h)) (Kr false h)))))) (Ke0 h)
abbrev n7 (x0b : Option Addr) (x0n : Nat) (x0c : Nat) (x1b : Option Addr) (x1n : Nat) (x1c : Nat) (x5 : Int) (Kn : T2) (Ke0 : T2) (Kr : T0) (h : H) : Prop := ∃ N, n7_L Kn Ke0 Kr N x0b x0n x0c x1b x1n x1c x5 h
theorem n7_ok (x0b : Option Addr) (x0n : Nat) (x0c : Nat) (x1b : Option Addr) (x1n : Nat) (x1c : Nat) (x5 : Int) (Kn : T2) (Ke0 : T2) (Kr : T0) (g : Env) (hg : E3 g x0b x0n x0c x1b x1n x1c x5) (h : H) (hS : n7 x0b x0n x0c x1b x1n x1c x5 Kn Ke0 Kr h) : wpC none Tryd.prog 26 n6_c1 (Q2 Kn Ke0 Kr) g h := by
  obtain ⟨N0, hS⟩ := hS
  refine wpC_loop' (x := n7_c1) (by kernel_rfl) (fun k g h => ∃ (x0b : Option Addr) (x0n : Nat) (x0c : Nat) (x1b : Option Addr) (x1n : Nat) (x1c : Nat) (x5 : Int), E3 g x0b x0n x0c x1b x1n x1c x5 ∧ n7_L Kn Ke0 Kr k x0b x0n x0c x1b x1n x1c x5 h) (fun g h hr => ?_) (fun N g h hr => ?_) N0 ⟨x0b, x0n, x0c, x1b, x1n, x1c, x5, hg, hS⟩
  · obtain ⟨x0b, x0n, x0c, x1b, x1n, x1c, x5, hg, hS⟩ := hr
    exact hS.elim
  · obtain ⟨x0b, x0n, x0c, x1b, x1n, x1c, x5, hg, hS⟩ := hr
    have hw : wpC none Tryd.prog 26 n7_c1 (Q3 (fun z0b z0n z0c z1b z1n z1c z5 h => n7_L Kn Ke0 Kr N z0b z0n z0c z1b z1n z1c z5 h) Ke0 Kr) g h := by
      obtain ⟨hg0, hg1, hg5, hds⟩ := hg
      refine wpC_of_wpx (by kernel_rfl) (by kernel_rfl) (g' := (((⟨g.v, []⟩ : Env).upd (some 0) (.slice x0b x0n x0c)).upd (some 1) (.slice x1b x1n x1c)).upd (some 5) (.int .i64 x5)) (by rw [env_ds hds, upd_self hg0, upd_self hg1, upd_self hg5]) ?_
      have e : (n7_L Kn Ke0 Kr (N + 1) x0b x0n x0c x1b x1n x1c x5 h) = wpx none Tryd.prog 26 n7_c1 (Q3 (fun z0b z0n z0c z1b z1n z1c z5 h => n7_L Kn Ke0 Kr N z0b z0n z0c z1b z1n z1c z5 h) Ke0 Kr) ((((⟨g.v, []⟩ : Env).upd (some 0) (.slice x0b x0n x0c)).upd (some 1) (.slice x1b x1n x1c)).upd (some 5) (.int .i64 x5)) h := by kernel_rfl
      exact e ▸ hS
    refine hw.mono ?_
    intro e g' h' hq
    cases e with
    | normal => exact D3_ok (K := (fun z0b z0n z0c z1b z1n z1c z5 h => n7_L Kn Ke0 Kr N z0b z0n z0c z1b z1n z1c z5 h)) hq
    | _ => exact hq
abbrev n6 (x0b : Option Addr) (x0n : Nat) (x0c : Nat) (x1b : Option Addr) (x1n : Nat) (x1c : Nat) (x5 : Int) (Kn : T2) (Kr : T0) (h : H) : Prop := n7 x0b x0n x0c x1b x1n x1c x5 Kn Kn Kr h
theorem n6_ok (x0b : Option Addr) (x0n : Nat) (x0c : Nat) (x1b : Option Addr) (x1n : Nat) (x1c : Nat) (x5 : Int) (Kn : T2) (Kr : T0) (g : Env) (hg : E3 g x0b x0n x0c x1b x1n x1c x5) (h : H) (hS : n6 x0b x0n x0c x1b x1n x1c x5 Kn Kr h) : wpC none Tryd.prog 26 n5_c2 (Q1 Kn Kr) g h := by
  refine wpC_block' (id := 0) (x := n6_c1) (by kernel_rfl) (n7_ok x0b x0n x0c x1b x1n x1c x5 Kn Kn Kr g hg h hS) ?_
  intro e g' h' hq
  cases e <;> exact hq
def Q4 (Kn : T3) (Kr : T0) : XPost
  | .normal, g, h => D3 Kn g h
  | .ret, g, h => D0 Kr g h
  | _, _, _ => False
abbrev n5 (x0b : Option Addr) (x0n : Nat) (x0c : Nat) (x1b : Option Addr) (x1n : Nat) (x1c : Nat) (Kn : T2) (Kr : T0) (h : H) : Prop :=
  n6 x0b x0n x0c x1b x1n x1c (0 : Int) Kn Kr h
theorem n5_ok (x0b : Option Addr) (x0n : Nat) (x0c : Nat) (x1b : Option Addr) (x1n : Nat) (x1c : Nat) (Kn : T2) (Kr : T0) (g : Env) (hg : E1 g x0b x0n x0c x1b x1n x1c) (h : H) (hS : n5 x0b x0n x0c x1b x1n x1c Kn Kr h) : wpC none Tryd.prog 26 n3_c1 (Q1 Kn Kr) g h := by
  obtain ⟨hg0, hg1, hds⟩ := hg
  refine wpC_seq' (x := n5_c1) (y := n5_c2) (Q' := (Q4 (fun z0b z0n z0c z1b z1n z1c z5 h => n6 z0b z0n z0c z1b z1n z1c z5 Kn Kr h) Kr)) (by kernel_rfl) ?_ ?_
  · refine wpC_of_wpx (by kernel_rfl) (by kernel_rfl) (g' := ((⟨g.v, []⟩ : Env).upd (some 0) (.slice x0b x0n x0c)).upd (some 1) (.slice x1b x1n x1c)) (by rw [env_ds hds, upd_self hg0, upd_self hg1]) ?_
    have e : (n5 x0b x0n x0c x1b x1n x1c Kn Kr h) = wpx none Tryd.prog 26 n5_c1 (Q4 (fun z0b z0n z0c z1b z1n z1c z5 h => n6 z0b z0n z0c z1b z1n z1c z5 Kn Kr h) Kr) (((⟨g.v, []⟩ : Env).upd (some 0) (.slice x0b x0n x0c)).upd (some 1) (.slice x1b x1n x1c)) h := by kernel_rfl
    exact e ▸ hS
  · intro e g' h' hq
    cases e with
    | normal =>
      have hq : D3 (fun z0b z0n z0c z1b z1n z1c z5 h => n6 z0b z0n z0c z1b z1n z1c z5 Kn Kr h) g' h' := hq
      obtain ⟨y0b, y0n, y0c, y1b, y1n, y1c, y5, hg', hq⟩ := D3_ok hq
      exact n6_ok y0b y0n y0c y1b y1n y1c y5 Kn Kr g' hg' h' hq
    | _ => exact hq
abbrev n3 (x0b : Option Addr) (x0n : Nat) (x0c : Nat) (x1b : Option Addr) (x1n : Nat) (x1c : Nat) (Kn : T0) (Kr : T0) (h : H) : Prop := n5 x0b x0n x0c x1b x1n x1c (fun  h => n4 Kn Kr h) Kr h
theorem n3_ok (x0b : Option Addr) (x0n : Nat) (x0c : Nat) (x1b : Option Addr) (x1n : Nat) (x1c : Nat) (Kn : T0) (Kr : T0) (g : Env) (hg : E1 g x0b x0n x0c x1b x1n x1c) (h : H) (hS : n3 x0b x0n x0c x1b x1n x1c Kn Kr h) : wpC none Tryd.prog 26 n2_c2 (Q0 Kn Kr) g h := by
  refine wpC_seq' (x := n3_c1) (y := n3_c2) (by kernel_rfl) (n5_ok x0b x0n x0c x1b x1n x1c (fun  h => n4 Kn Kr h) Kr g hg h hS) ?_
  intro e g' h' hq
  cases e with
  | normal =>
    have hq : D2 (fun  h => n4 Kn Kr h) g' h' := hq
    obtain ⟨hg', hq⟩ := D2_ok hq
    exact n4_ok  Kn Kr g' hg' h' hq
  | _ => exact hq
def Q5 (Kn : T1) (Kr : T0) : XPost
  | .normal, g, h => D1 Kn g h
  | .ret, g, h => D0 Kr g h
  | _, _, _ => False
abbrev n2 (x0b : Option Addr) (x0n : Nat) (x0c : Nat) (x1b : Option Addr) (x1n : Nat) (x1c : Nat) (Kn : T0) (Kr : T0) (h : H) : Prop :=
  Spl ((x0n : Int) = (x1n : Int)) (n3 x0b x0n x0c x1b x1n x1c Kn Kr h) (Kr false h)
theorem n2_ok (x0b : Option Addr) (x0n : Nat) (x0c : Nat) (x1b : Option Addr) (x1n : Nat) (x1c : Nat) (Kn : T0) (Kr : T0) (g : Env) (hg : E1 g x0b x0n x0c x1b x1n x1c) (h : H) (hS : n2 x0b x0n x0c x1b x1n x1c Kn Kr h) : wpC none Tryd.prog 26 n1_c2 (Q0 Kn Kr) g h := by
  obtain ⟨hg0, hg1, hds⟩ := hg
  refine wpC_seq' (x := n2_c1) (y := n2_c2) (Q' := (Q5 (fun z0b z0n z0c z1b z1n z1c h => n3 z0b z0n z0c z1b z1n z1c Kn Kr h) Kr)) (by kernel_rfl) ?_ ?_
  · refine wpC_of_wpx (by kernel_rfl) (by kernel_rfl) (g' := ((⟨g.v, []⟩ : Env).upd (some 0) (.slice x0b x0n x0c)).upd (some 1) (.slice x1b x1n x1c)) (by rw [env_ds hds, upd_self hg0, upd_self hg1]) ?_
    have e : (n2 x0b x0n x0c x1b x1n x1c Kn Kr h) = wpx none Tryd.prog 26 n2_c1 (Q5 (fun z0b z0n z0c z1b z1n z1c h => n3 z0b z0n z0c z1b z1n z1c Kn Kr h) Kr) (((⟨g.v, []⟩ : Env).upd (some 0) (.slice x0b x0n x0c)).upd (some 1) (.slice x1b x1n x1c)) h := by kernel_rfl
    exact e ▸ hS
  · intro e g' h' hq
    cases e with
    | normal =>
      have hq : D1 (fun z0b z0n z0c z1b z1n z1c h => n3 z0b z0n z0c z1b z1n z1c Kn Kr h) g' h' := hq
      obtain ⟨y0b, y0n, y0c, y1b, y1n, y1c, hg', hq⟩ := D1_ok hq
      exact n3_ok y0b y0n y0c y1b y1n y1c Kn Kr g' hg' h' hq
    | _ => exact hq
abbrev n1 (x0b : Option Addr) (x0n : Nat) (x0c : Nat) (x1b : Option Addr) (x1n : Nat) (x1c : Nat) (Kn : T0) (Kr : T0) (h : H) : Prop :=
  n2 x0b x0n x0c x1b x1n x1c Kn Kr h
theorem n1_ok (x0b : Option Addr) (x0n : Nat) (x0c : Nat) (x1b : Option Addr) (x1n : Nat) (x1c : Nat) (Kn : T0) (Kr : T0) (g : Env) (hg : E1 g x0b x0n x0c x1b x1n x1c) (h : H) (hS : n1 x0b x0n x0c x1b x1n x1c Kn Kr h) : wpC none Tryd.prog 26 code (Q0 Kn Kr) g h := by
  obtain ⟨hg0, hg1, hds⟩ := hg
  refine wpC_seq' (x := n1_c1) (y := n1_c2) (Q' := (Q5 (fun z0b z0n z0c z1b z1n z1c h => n2 z0b z0n z0c z1b z1n z1c Kn Kr h) Kr)) (by kernel_rfl) ?_ ?_
  · refine wpC_of_wpx (by kernel_rfl) (by kernel_rfl) (g' := ((⟨g.v, []⟩ : Env).upd (some 0) (.slice x0b x0n x0c)).upd (some 1) (.slice x1b x1n x1c)) (by rw [env_ds hds, upd_self hg0, upd_self hg1]) ?_
    have e : (n1 x0b x0n x0c x1b x1n x1c Kn Kr h) = wpx none Tryd.prog 26 n1_c1 (Q5 (fun z0b z0n z0c z1b z1n z1c h => n2 z0b z0n z0c z1b z1n z1c Kn Kr h) Kr) (((⟨g.v, []⟩ : Env).upd (some 0) (.slice x0b x0n x0c)).upd (some 1) (.slice x1b x1n x1c)) h := by kernel_rfl
    exact e ▸ hS
  · intro e g' h' hq
    cases e with
    | normal =>
      have hq : D1 (fun z0b z0n z0c z1b z1n z1c h => n2 z0b z0n z0c z1b z1n z1c Kn Kr h) g' h' := hq
      obtain ⟨y0b, y0n, y0c, y1b, y1n, y1c, hg', hq⟩ := D1_ok hq
      exact n2_ok y0b y0n y0c y1b y1n y1c Kn Kr g' hg' h' hq
    | _ => exact hq
/-- WHAT tympan/tympanref00.SameStrings ASKS -/
abbrev asks (x0b : Option Addr) (x0n : Nat) (x0c : Nat) (x1b : Option Addr) (x1n : Nat) (x1c : Nat) (K : Value → H → Prop) (h : H) : Prop := n1 x0b x0n x0c x1b x1n x1c (fun y4 h => K (.bool y4) h) (fun y4 h => K (.bool y4) h) h
theorem ok (x0b : Option Addr) (x0n : Nat) (x0c : Nat) (x1b : Option Addr) (x1n : Nat) (x1c : Nat) (K : Value → H → Prop) (h : H) (hS : asks x0b x0n x0c x1b x1n x1c K h) : HCalls Tryd.prog 18 ⟨[(.slice x0b x0n x0c), (.slice x1b x1n x1c)]⟩ h K := by
  refine calls_of_wpC (c := code) Tryd.func18 (by kernel_rfl) (Nat.le_of_ble_eq_true (by kernel_rfl)) ?_
  refine (n1_ok x0b x0n x0c x1b x1n x1c (fun y4 h => K (.bool y4) h) (fun y4 h => K (.bool y4) h) (env0 [(.slice x0b x0n x0c), (.slice x1b x1n x1c)]) ⟨rfl, rfl, rfl⟩ h hS).mono ?_
  intro e g' h' hq
  cases e with
  | normal =>
    have hq : D0 (fun y4 h => K (.bool y4) h) g' h' := hq
    obtain ⟨y4, ⟨hg4, hd⟩, hq⟩ := D0_ok hq
    show leaveX g'.ds h' _
    rw [hd]
    show K (g'.v 4) h'
    rw [hg4]
    exact hq
  | ret =>
    have hq : D0 (fun y4 h => K (.bool y4) h) g' h' := hq
    obtain ⟨y4, ⟨hg4, hd⟩, hq⟩ := D0_ok hq
    show leaveX g'.ds h' _
    rw [hd]
    show K (g'.v 4) h'
    rw [hg4]
    exact hq
  | _ => exact hq
end Sx.r00_SameStrings

/-! ### tympan/utf.Lines -/
namespace Sx.utf_Lines
noncomputable def code : Code := bodyOf Tryd.f19
abbrev T0 := (Option Addr) → Nat → Nat → H → Prop
def E0 (g : Env) (x2b : Option Addr) (x2n : Nat) (x2c : Nat) : Prop := g.v 2 = (.slice x2b x2n x2c) ∧ g.ds = []
def D0 (K : T0) (g : Env) (h : H) : Prop := nilDs g.ds (vSlice (g.v 2) fun s1b s1n s1c => K s1b s1n s1c h)
theorem D0_ok {K : T0} {g : Env} {h : H} (hq : D0 K g h) : ∃ (x2b : Option Addr) (x2n : Nat) (x2c : Nat), E0 g x2b x2n x2c ∧ K x2b x2n x2c h := by
  obtain ⟨hd, hq⟩ := nilDs_ok hq
  obtain ⟨y3b, y3n, y3c, e2, q4⟩ := vSlice_ok hq
  exact ⟨y3b, y3n, y3c, ⟨e2, hd⟩, q4⟩
def Q0 (Kn : T0) (Kr : T0) : XPost
  | .normal, g, h => D0 Kn g h
  | .ret, g, h => D0 Kr g h
  | _, _, _ => False
abbrev T1 := (List UInt8) → H → Prop
def E1 (g : Env) (x0 : List UInt8) : Prop := g.v 0 = (S x0) ∧ g.ds = []
def D1 (K : T1) (g : Env) (h : H) : Prop := nilDs g.ds (vStr (g.v 0) fun s5 => K s5 h)
theorem D1_ok {K : T1} {g : Env} {h : H} (hq : D1 K g h) : ∃ (x0 : List UInt8), E1 g x0 ∧ K x0 h := by
  obtain ⟨hd, hq⟩ := nilDs_ok hq
  obtain ⟨y7, e6, q8⟩ := vStr_ok hq
  exact ⟨y7, ⟨e6, hd⟩, q8⟩
noncomputable def n1_c1 : Code := cFst code
noncomputable def n1_c2 : Code := cSnd code
abbrev T2 := Addr → H → Prop
def E2 (g : Env) (x1 : Addr) : Prop := g.v 1 = (.pointer (some x1)) ∧ g.ds = []
def D2 (K : T2) (g : Env) (h : H) : Prop := nilDs g.ds (vAddr (g.v 1) fun a9 => K a9 h)
theorem D2_ok {K : T2} {g : Env} {h : H} (hq : D2 K g h) : ∃ (x1 : Addr), E2 g x1 ∧ K x1 h := by
  obtain ⟨hd, hq⟩ := nilDs_ok hq
  obtain ⟨y11, e10, q12⟩ := vAddr_ok hq
  exact ⟨y11, ⟨e10, hd⟩, q12⟩
noncomputable def n2_c1 : Code := cFst n1_c2
noncomputable def n2_c2 : Code := cSnd n1_c2
noncomputable def n3_c1 : Code := cFst n2_c2
noncomputable def n3_c2 : Code := cSnd n2_c2
abbrev T3 := Addr → Addr → H → Prop
def E3 (g : Env) (x1 : Addr) (x3 : Addr) : Prop := g.v 1 = (.pointer (some x1)) ∧ g.v 3 = (.pointer (some x3)) ∧ g.ds = []
def D3 (K : T3) (g : Env) (h : H) : Prop := nilDs g.ds (vAddr (g.v 1) fun a13 => vAddr (g.v 3) fun a14 => K a13 a14 h)
theorem D3_ok {K : T3} {g : Env} {h : H} (hq : D3 K g h) : ∃ (x1 : Addr) (x3 : Addr), E3 g x1 x3 ∧ K x1 x3 h := by
  obtain ⟨hd, hq⟩ := nilDs_ok hq
  obtain ⟨y16, e15, q17⟩ := vAddr_ok hq
  obtain ⟨y19, e18, q20⟩ := vAddr_ok q17
  exact ⟨y16, y19, ⟨e15, e18, hd⟩, q20⟩
noncomputable def n4_c1 : Code := cFst n3_c2
noncomputable def n4_c2 : Code := cSnd n3_c2
abbrev T4 := Value → H → Prop
def E4 (g : Env) (x4 : Value) : Prop := g.v 4 = x4 ∧ g.ds = []
def D4 (K : T4) (g : Env) (h : H) : Prop := nilDs g.ds (K (g.v 4) h)
theorem D4_ok {K : T4} {g : Env} {h : H} (hq : D4 K g h) : ∃ (x4 : Value), E4 g x4 ∧ K x4 h := by
  obtain ⟨hd, hq⟩ := nilDs_ok hq
  skip
  exact ⟨(g.v 4), ⟨rfl, hd⟩, hq⟩
noncomputable def n5_c1 : Code := cFst n4_c2
noncomputable def n5_c2 : Code := cSnd n4_c2
abbrev T5 := Value → (Option Addr) → Nat → Nat → H → Prop
def E5 (g : Env) (x4 : Value) (x5b : Option Addr) (x5n : Nat) (x5c : Nat) : Prop := g.v 4 = x4 ∧ g.v 5 = (.slice x5b x5n x5c) ∧ g.ds = []
def D5 (K : T5) (g : Env) (h : H) : Prop := nilDs g.ds (vSlice (g.v 5) fun s21b s21n s21c => K (g.v 4) s21b s21n s21c h)
theorem D5_ok {K : T5} {g : Env} {h : H} (hq : D5 K g h) : ∃ (x4 : Value) (x5b : Option Addr) (x5n : Nat) (x5c : Nat), E5 g x4 x5b x5n x5c ∧ K x4 x5b x5n x5c h := by
  obtain ⟨hd, hq⟩ := nilDs_ok hq
  obtain ⟨y23b, y23n, y23c, e22, q24⟩ := vSlice_ok hq
  exact ⟨(g.v 4), y23b, y23n, y23c, ⟨rfl, e22, hd⟩, q24⟩
noncomputable def n6_c1 : Code := cFst n5_c2
noncomputable def n6_c2 : Code := cSnd n5_c2
abbrev T6 := (Option Addr) → Nat → Nat → H → Prop
def E6 (g : Env) (x5b : Option Addr) (x5n : Nat) (x5c : Nat) : Prop := g.v 5 = (.slice x5b x5n x5c) ∧ g.ds = []
def D6 (K : T6) (g : Env) (h : H) : Prop := nilDs g.ds (vSlice (g.v 5) fun s25b s25n s25c => K s25b s25n s25c h)
theorem D6_ok {K : T6} {g : Env} {h : H} (hq : D6 K g h) : ∃ (x5b : Option Addr) (x5n : Nat) (x5c : Nat), E6 g x5b x5n x5c ∧ K x5b x5n x5c h := by
  obtain ⟨hd, hq⟩ := nilDs_ok hq
  obtain ⟨y27b, y27n, y27c, e26, q28⟩ := vSlice_ok hq
  exact ⟨y27b, y27n, y27c, ⟨e26, hd⟩, q28⟩
abbrev n7 (x5b : Option Addr) (x5n : Nat) (x5c : Nat) (Kn : T0) (Kr : T0) (h : H) : Prop :=
  Kr x5b x5n x5c h
theorem n7_ok (x5b : Option Addr) (x5n : Nat) (x5c : Nat) (Kn : T0) (Kr : T0) (g : Env) (hg : E6 g x5b x5n x5c) (h : H) (hS : n7 x5b x5n x5c Kn Kr h) : wpC none Tryd.prog 27 n6_c2 (Q0 Kn Kr) g h := by
  obtain ⟨hg5, hds⟩ := hg
  refine wpC_of_wpx (by kernel_rfl) (by kernel_rfl) (g' := (⟨g.v, []⟩ : Env).upd (some 5) (.slice x5b x5n x5c)) (by rw [env_ds hds, upd_self hg5]) ?_
  have e : (n7 x5b x5n x5c Kn Kr h) = wpx none Tryd.prog 27 n6_c2 (Q0 Kn Kr) ((⟨g.v, []⟩ : Env).upd (some 5) (.slice x5b x5n x5c)) h := by kernel_rfl
  exact e ▸ hS
def Q1 (Kn : T6) (Kr : T0) : XPost
  | .normal, g, h => D6 Kn g h
  | .ret, g, h => D0 Kr g h
  | _, _, _ => False
noncomputable def n8_c1 : Code := cFst n6_c1
noncomputable def n8_c2 : Code := cSnd n6_c1
abbrev T7 := Value → (Option Addr) → Nat → Nat → (List UInt8) → Bool → H → Prop
def E7 (g : Env) (x4 : Value) (x5b : Option Addr) (x5n : Nat) (x5c : Nat) (x6 : List UInt8) (x7 : Bool) : Prop := g.v 4 = x4 ∧ g.v 5 = (.slice x5b x5n x5c) ∧ g.v 6 = (S x6) ∧ g.v 7 = (.bool x7) ∧ g.ds = []
def D7 (K : T7) (g : Env) (h : H) : Prop := nilDs g.ds (vSlice (g.v 5) fun s29b s29n s29c => vStr (g.v 6) fun s30 => vBool (g.v 7) fun b31 => K (g.v 4) s29b s29n s29c s30 b31 h)
theorem D7_ok {K : T7} {g : Env} {h : H} (hq : D7 K g h) : ∃ (x4 : Value) (x5b : Option Addr) (x5n : Nat) (x5c : Nat) (x6 : List UInt8) (x7 : Bool), E7 g x4 x5b x5n x5c x6 x7 ∧ K x4 x5b x5n x5c x6 x7 h := by
  obtain ⟨hd, hq⟩ := nilDs_ok hq
  obtain ⟨y33b, y33n, y33c, e32, q34⟩ := vSlice_ok hq
  obtain ⟨y36, e35, q37⟩ := vStr_ok q34
  obtain ⟨y39, e38, q40⟩ := vBool_ok q37
  exact ⟨(g.v 4), y33b, y33n, y33c, y36, y39, ⟨rfl, e32, e35, e38, hd⟩, q40⟩
noncomputable def n9_c1 : Code := cFst n8_c2
def Q2 (Kn : T6) (Ke0 : T6) (Kr : T0) : XPost
  | .normal, g, h => D6 Kn g h
  | .ret, g, h => D0 Kr g h
  | .exit id, g, h => cond (Nat.beq id 0) (D6 Ke0 g h) (False)
  | _, _, _ => False
noncomputable def n10_c1 : Code := cFst n9_c1
def Q3 (Kn : T7) (Ke0 : T6) (Kr : T0) : XPost
  | .normal, g, h => D7 Kn g h
  | .ret, g, h => D0 Kr g h
  | .exit id, g, h => cond (Nat.beq id 0) (D6 Ke0 g h) (False)
  | _, _, _ => False
def n10_L (Kn : T6) (Ke0 : T6) (Kr : T0) : Nat → Value → (Option Addr) → Nat → Nat → (List UInt8) → Bool → H → Prop
  | 0 => fun _ _ _ _ _ _ _ => False
  | N + 1 => fun x4 x5b x5n x5c x6 x7 h => cond x7 (newx h #[(S x6)] 9 fun a41 h42 => SemH Tryd.prog (Builtin.append_ #[30, 30] 30 ⟨[(.slice x5b x5n x5c), (.slice (some a41) 1 1)]⟩) h42 fun v43 h44 => vSlice v43 fun s45b s45n s45c => CallV Tryd.prog 50 x4 ⟨[]⟩ h44 fun v46 h47 => vTup v46 fun l48 => uncons l48 fun e49 l50 => vStr e49 fun s51 => uncons l50 fun e52 l53 => vBool e52 fun b54 => unnil l53 (cond b54 (n10_L Kn Ke0 Kr N x4 s45b s45n s45c s51 true h47) (n10_L Kn Ke0 Kr N x4 s45b s45n s45c s51 false h47))) (Ke0 x5b x5n x5c h)
abbrev n10 (x4 : Value) (x5b : Option Addr) (x5n : Nat) (x5c : Nat) (x6 : List UInt8) (x7 : Bool) (Kn : T6) (Ke0 : T6) (Kr : T0) (h : H) : Prop := ∃ N, n10_L Kn Ke0 Kr N x4 x5b x5n x5c x6 x7 h
theorem n10_ok (x4 : Value) (x5b : Option Addr) (x5n : Nat) (x5c : Nat) (x6 : List UInt8) (x7 : Bool) (Kn : T6) (Ke0 : T6) (Kr : T0) (g : Env) (hg : E7 g x4 x5b x5n x5c x6 x7) (h : H) (hS : n10 x4 x5b x5n x5c x6 x7 Kn Ke0 Kr h) : wpC none Tryd.prog 27 n9_c1 (Q2 Kn Ke0 Kr) g h := by
  obtain ⟨N0, hS⟩ := hS
  refine wpC_loop' (x := n10_c1) (by kernel_rfl) (fun k g h => ∃ (x4 : Value) (x5b : Option Addr) (x5n : Nat) (x5c : Nat) (x6 : List UInt8) (x7 : Bool), E7 g x4 x5b x5n x5c x6 x7 ∧ n10_L Kn Ke0 Kr k x4 x5b x5n x5c x6 x7 h) (fun g h hr => ?_) (fun N g h hr => ?_) N0 ⟨x4, x5b, x5n, x5c, x6, x7, hg, hS⟩
  · obtain ⟨x4, x5b, x5n, x5c, x6, x7, hg, hS⟩ := hr
    exact hS.elim
  · obtain ⟨x4, x5b, x5n, x5c, x6, x7, hg, hS⟩ := hr
    have hw : wpC none Tryd.prog 27 n10_c1 (Q3 (fun z4 z5b z5n z5c z6 z7 h => n10_L Kn Ke0 Kr N z4 z5b z5n z5c z6 z7 h) Ke0 Kr) g h := by
      obtain ⟨hg4, hg5, hg6, hg7, hds⟩ := hg
      refine wpC_of_wpx (by kernel_rfl) (by kernel_rfl) (g' := ((((⟨g.v, []⟩ : Env).upd (some 4) x4).upd (some 5) (.slice x5b x5n x5c)).upd (some 6) (S x6)).upd (some 7) (.bool x7)) (by rw [env_ds hds, upd_self hg4, upd_self hg5, upd_self hg6, upd_self hg7]) ?_
      have e : (n10_L Kn Ke0 Kr (N + 1) x4 x5b x5n x5c x6 x7 h) = wpx none Tryd.prog 27 n10_c1 (Q3 (fun z4 z5b z5n z5c z6 z7 h => n10_L Kn Ke0 Kr N z4 z5b z5n z5c z6 z7 h) Ke0 Kr) (((((⟨g.v, []⟩ : Env).upd (some 4) x4).upd (some 5) (.slice x5b x5n x5c)).upd (some 6) (S x6)).upd (some 7) (.bool x7)) h := by kernel_rfl
      exact e ▸ hS
    refine hw.mono ?_
    intro e g' h' hq
    cases e with
    | normal => exact D7_ok (K := (fun z4 z5b z5n z5c z6 z7 h => n10_L Kn Ke0 Kr N z4 z5b z5n z5c z6 z7 h)) hq
    | _ => exact hq
abbrev n9 (x4 : Value) (x5b : Option Addr) (x5n : Nat) (x5c : Nat) (x6 : List UInt8) (x7 : Bool) (Kn : T6) (Kr : T0) (h : H) : Prop := n10 x4 x5b x5n x5c x6 x7 Kn Kn Kr h
theorem n9_ok (x4 : Value) (x5b : Option Addr) (x5n : Nat) (x5c : Nat) (x6 : List UInt8) (x7 : Bool) (Kn : T6) (Kr : T0) (g : Env) (hg : E7 g x4 x5b x5n x5c x6 x7) (h : H) (hS : n9 x4 x5b x5n x5c x6 x7 Kn Kr h) : wpC none Tryd.prog 27 n8_c2 (Q1 Kn Kr) g h := by
  refine wpC_block' (id := 0) (x := n9_c1) (by kernel_rfl) (n10_ok x4 x5b x5n x5c x6 x7 Kn Kn Kr g hg h hS) ?_
  intro e g' h' hq
  cases e <;> exact hq
def Q4 (Kn : T7) (Kr : T0) : XPost
  | .normal, g, h => D7 Kn g h
  | .ret, g, h => D0 Kr g h
  | _, _, _ => False
abbrev n8 (x4 : Value) (x5b : Option Addr) (x5n : Nat) (x5c : Nat) (Kn : T6) (Kr : T0) (h : H) : Prop :=
  CallV Tryd.prog 50 x4 ⟨[]⟩ h fun v55 h56 => vTup v55 fun l57 => uncons l57 fun e58 l59 => vStr e58 fun s60 => uncons l59 fun e61 l62 => vBool e61 fun b63 => unnil l62 (cond b63 (n9 x4 x5b x5n x5c s60 true Kn Kr h56) (n9 x4 x5b x5n x5c s60 false Kn Kr h56))
theorem n8_ok (x4 : Value) (x5b : Option Addr) (x5n : Nat) (x5c : Nat) (Kn : T6) (Kr : T0) (g : Env) (hg : E5 g x4 x5b x5n x5c) (h : H) (hS : n8 x4 x5b x5n x5c Kn Kr h) : wpC none Tryd.prog 27 n6_c1 (Q1 Kn Kr) g h := by
  obtain ⟨hg4, hg5, hds⟩ := hg
  refine wpC_seq' (x := n8_c1) (y := n8_c2) (Q' := (Q4 (fun z4 z5b z5n z5c z6 z7 h => n9 z4 z5b z5n z5c z6 z7 Kn Kr h) Kr)) (by kernel_rfl) ?_ ?_
  · refine wpC_of_wpx (by kernel_rfl) (by kernel_rfl) (g' := ((⟨g.v, []⟩ : Env).upd (some 4) x4).upd (some 5) (.slice x5b x5n x5c)) (by rw [env_ds hds, upd_self hg4, upd_self hg5]) ?_
    have e : (n8 x4 x5b x5n x5c Kn Kr h) = wpx none Tryd.prog 27 n8_c1 (Q4 (fun z4 z5b z5n z5c z6 z7 h => n9 z4 z5b z5n z5c z6 z7 Kn Kr h) Kr) (((⟨g.v, []⟩ : Env).upd (some 4) x4).upd (some 5) (.slice x5b x5n x5c)) h := by kernel_rfl
    exact e ▸ hS
  · intro e g' h' hq
    cases e with
    | normal =>
      have hq : D7 (fun z4 z5b z5n z5c z6 z7 h => n9 z4 z5b z5n z5c z6 z7 Kn Kr h) g' h' := hq
      obtain ⟨y4, y5b, y5n, y5c, y6, y7, hg', hq⟩ := D7_ok hq
      exact n9_ok y4 y5b y5n y5c y6 y7 Kn Kr g' hg' h' hq
    | _ => exact hq
abbrev n6 (x4 : Value) (x5b : Option Addr) (x5n : Nat) (x5c : Nat) (Kn : T0) (Kr : T0) (h : H) : Prop := n8 x4 x5b x5n x5c (fun z5b z5n z5c h => n7 z5b z5n z5c Kn Kr h) Kr h
theorem n6_ok (x4 : Value) (x5b : Option Addr) (x5n : Nat) (x5c : Nat) (Kn : T0) (Kr : T0) (g : Env) (hg : E5 g x4 x5b x5n x5c) (h : H) (hS : n6 x4 x5b x5n x5c Kn Kr h) : wpC none Tryd.prog 27 n5_c2 (Q0 Kn Kr) g h := by
  refine wpC_seq' (x := n6_c1) (y := n6_c2) (by kernel_rfl) (n8_ok x4 x5b x5n x5c (fun z5b z5n z5c h => n7 z5b z5n z5c Kn Kr h) Kr g hg h hS) ?_
  intro e g' h' hq
  cases e with
  | normal =>
    have hq : D6 (fun z5b z5n z5c h => n7 z5b z5n z5c Kn Kr h) g' h' := hq
    obtain ⟨y5b, y5n, y5c, hg', hq⟩ := D6_ok hq
    exact n7_ok y5b y5n y5c Kn Kr g' hg' h' hq
  | _ => exact hq
def Q5 (Kn : T5) (Kr : T0) : XPost
  | .normal, g, h => D5 Kn g h
  | .ret, g, h => D0 Kr g h
  | _, _, _ => False
abbrev n5 (x4 : Value) (Kn : T0) (Kr : T0) (h : H) : Prop :=
  n6 x4 none 0 0 Kn Kr h
theorem n5_ok (x4 : Value) (Kn : T0) (Kr : T0) (g : Env) (hg : E4 g x4) (h : H) (hS : n5 x4 Kn Kr h) : wpC none Tryd.prog 27 n4_c2 (Q0 Kn Kr) g h := by
  obtain ⟨hg4, hds⟩ := hg
  refine wpC_seq' (x := n5_c1) (y := n5_c2) (Q' := (Q5 (fun z4 z5b z5n z5c h => n6 z4 z5b z5n z5c Kn Kr h) Kr)) (by kernel_rfl) ?_ ?_
  · refine wpC_of_wpx (by kernel_rfl) (by kernel_rfl) (g' := (⟨g.v, []⟩ : Env).upd (some 4) x4) (by rw [env_ds hds, upd_self hg4]) ?_
    have e : (n5 x4 Kn Kr h) = wpx none Tryd.prog 27 n5_c1 (Q5 (fun z4 z5b z5n z5c h => n6 z4 z5b z5n z5c Kn Kr h) Kr) ((⟨g.v, []⟩ : Env).upd (some 4) x4) h := by kernel_rfl
    exact e ▸ hS
  · intro e g' h' hq
    cases e with
    | normal =>
      have hq : D5 (fun z4 z5b z5n z5c h => n6 z4 z5b z5n z5c Kn Kr h) g' h' := hq
      obtain ⟨y4, y5b, y5n, y5c, hg', hq⟩ := D5_ok hq
      exact n6_ok y4 y5b y5n y5c Kn Kr g' hg' h' hq
    | _ => exact hq
def Q6 (Kn : T4) (Kr : T0) : XPost
  | .normal, g, h => D4 Kn g h
  | .ret, g, h => D0 Kr g h
  | _, _, _ => False
abbrev n4 (x1 : Addr) (x3 : Addr) (Kn : T0) (Kr : T0) (h : H) : Prop :=
  n5 (.func (.func 28) ⟨[]⟩ ⟨[(.pointer (some x3)), (.pointer (some x1))]⟩) Kn Kr h
theorem n4_ok (x1 : Addr) (x3 : Addr) (Kn : T0) (Kr : T0) (g : Env) (hg : E3 g x1 x3) (h : H) (hS : n4 x1 x3 Kn Kr h) : wpC none Tryd.prog 27 n3_c2 (Q0 Kn Kr) g h := by
  obtain ⟨hg1, hg3, hds⟩ := hg
  refine wpC_seq' (x := n4_c1) (y := n4_c2) (Q' := (Q6 (fun z4 h => n5 z4 Kn Kr h) Kr)) (by kernel_rfl) ?_ ?_
  · refine wpC_of_wpx (by kernel_rfl) (by kernel_rfl) (g' := ((⟨g.v, []⟩ : Env).upd (some 1) (.pointer (some x1))).upd (some 3) (.pointer (some x3))) (by rw [env_ds hds, upd_self hg1, upd_self hg3]) ?_
    have e : (n4 x1 x3 Kn Kr h) = wpx none Tryd.prog 27 n4_c1 (Q6 (fun z4 h => n5 z4 Kn Kr h) Kr) (((⟨g.v, []⟩ : Env).upd (some 1) (.pointer (some x1))).upd (some 3) (.pointer (some x3))) h := by kernel_rfl
    exact e ▸ hS
  · intro e g' h' hq
    cases e with
    | normal =>
      have hq : D4 (fun z4 h => n5 z4 Kn Kr h) g' h' := hq
      obtain ⟨y4, hg', hq⟩ := D4_ok hq
      exact n5_ok y4 Kn Kr g' hg' h' hq
    | _ => exact hq
def Q7 (Kn : T3) (Kr : T0) : XPost
  | .normal, g, h => D3 Kn g h
  | .ret, g, h => D0 Kr g h
  | _, _, _ => False
abbrev n3 (x1 : Addr) (Kn : T0) (Kr : T0) (h : H) : Prop :=
  newx h #[(.int .i64 (0 : Int))] 3 fun a64 h65 => stL a64 [(.int .i64 (0 : Int))] 0 h65 fun h66 => n4 x1 a64 Kn Kr h66
theorem n3_ok (x1 : Addr) (Kn : T0) (Kr : T0) (g : Env) (hg : E2 g x1) (h : H) (hS : n3 x1 Kn Kr h) : wpC none Tryd.prog 27 n2_c2 (Q0 Kn Kr) g h := by
  obtain ⟨hg1, hds⟩ := hg
  refine wpC_seq' (x := n3_c1) (y := n3_c2) (Q' := (Q7 (fun z1 z3 h => n4 z1 z3 Kn Kr h) Kr)) (by kernel_rfl) ?_ ?_
  · refine wpC_of_wpx (by kernel_rfl) (by kernel_rfl) (g' := (⟨g.v, []⟩ : Env).upd (some 1) (.pointer (some x1))) (by rw [env_ds hds, upd_self hg1]) ?_
    have e : (n3 x1 Kn Kr h) = wpx none Tryd.prog 27 n3_c1 (Q7 (fun z1 z3 h => n4 z1 z3 Kn Kr h) Kr) ((⟨g.v, []⟩ : Env).upd (some 1) (.pointer (some x1))) h := by kernel_rfl
    exact e ▸ hS
  · intro e g' h' hq
    cases e with
    | normal =>
      have hq : D3 (fun z1 z3 h => n4 z1 z3 Kn Kr h) g' h' := hq
      obtain ⟨y1, y3, hg', hq⟩ := D3_ok hq
      exact n4_ok y1 y3 Kn Kr g' hg' h' hq
    | _ => exact hq
def Q8 (Kn : T2) (Kr : T0) : XPost
  | .normal, g, h => D2 Kn g h
  | .ret, g, h => D0 Kr g h
  | _, _, _ => False
abbrev n2 (x1 : Addr) (Kn : T0) (Kr : T0) (h : H) : Prop :=
  ∃ s67, cell h x1 = some (S s67) ∧ (HCalls Tryd.prog 16 ⟨[(S s67)]⟩ h fun v68 h69 => vStr v68 fun s70 => stL x1 [(S s70)] 0 h69 fun h71 => n3 x1 Kn Kr h71)
theorem n2_ok (x1 : Addr) (Kn : T0) (Kr : T0) (g : Env) (hg : E2 g x1) (h : H) (hS : n2 x1 Kn Kr h) : wpC none Tryd.prog 27 n1_c2 (Q0 Kn Kr) g h := by
  obtain ⟨hg1, hds⟩ := hg
  refine wpC_seq' (x := n2_c1) (y := n2_c2) (Q' := (Q8 (fun z1 h => n3 z1 Kn Kr h) Kr)) (by kernel_rfl) ?_ ?_
  · refine wpC_of_wpx (by kernel_rfl) (by kernel_rfl) (g' := (⟨g.v, []⟩ : Env).upd (some 1) (.pointer (some x1))) (by rw [env_ds hds, upd_self hg1]) ?_
    have e : (n2 x1 Kn Kr h) = wpx none Tryd.prog 27 n2_c1 (Q8 (fun z1 h => n3 z1 Kn Kr h) Kr) ((⟨g.v, []⟩ : Env).upd (some 1) (.pointer (some x1))) h := by kernel_rfl
    exact e ▸ hS
  · intro e g' h' hq
    cases e with
    | normal =>
      have hq : D2 (fun z1 h => n3 z1 Kn Kr h) g' h' := hq
      obtain ⟨y1, hg', hq⟩ := D2_ok hq
      exact n3_ok y1 Kn Kr g' hg' h' hq
    | _ => exact hq
abbrev n1 (x0 : List UInt8) (Kn : T0) (Kr : T0) (h : H) : Prop :=
  newx h #[(S x0)] 9 fun a72 h73 => n2 a72 Kn Kr h73
theorem n1_ok (x0 : List UInt8) (Kn : T0) (Kr : T0) (g : Env) (hg : E1 g x0) (h : H) (hS : n1 x0 Kn Kr h) : wpC none Tryd.prog 27 code (Q0 Kn Kr) g h := by
  obtain ⟨hg0, hds⟩ := hg
  refine wpC_seq' (x := n1_c1) (y := n1_c2) (Q' := (Q8 (fun z1 h => n2 z1 Kn Kr h) Kr)) (by kernel_rfl) ?_ ?_
  · refine wpC_of_wpx (by kernel_rfl) (by kernel_rfl) (g' := (⟨g.v, []⟩ : Env).upd (some 0) (S x0)) (by rw [env_ds hds, upd_self hg0]) ?_
    have e : (n1 x0 Kn Kr h) = wpx none Tryd.prog 27 n1_c1 (Q8 (fun z1 h => n2 z1 Kn Kr h) Kr) ((⟨g.v, []⟩ : Env).upd (some 0) (S x0)) h := by kernel_rfl
    exact e ▸ hS
  · intro e g' h' hq
    cases e with
    | normal =>
      have hq : D2 (fun z1 h => n2 z1 Kn Kr h) g' h' := hq
      obtain ⟨y1, hg', hq⟩ := D2_ok hq
      exact n2_ok y1 Kn Kr g' hg' h' hq
    | _ => exact hq
/-- WHAT tympan/utf.Lines ASKS -/
abbrev asks (x0 : List UInt8) (K : Value → H → Prop) (h : H) : Prop := n1 x0 (fun y2b y2n y2c h => K (.slice y2b y2n y2c) h) (fun y2b y2n y2c h => K (.slice y2b y2n y2c) h) h
theorem ok (x0 : List UInt8) (K : Value → H → Prop) (h : H) (hS : asks x0 K h) : HCalls Tryd.prog 19 ⟨[(S x0)]⟩ h K := by
  refine calls_of_wpC (c := code) Tryd.func19 (by kernel_rfl) (Nat.le_of_ble_eq_true (by kernel_rfl)) ?_
  refine (n1_ok x0 (fun y2b y2n y2c h => K (.slice y2b y2n y2c) h) (fun y2b y2n y2c h => K (.slice y2b y2n y2c) h) (env0 [(S x0)]) ⟨rfl, rfl⟩ h hS).mono ?_
  intro e g' h' hq
  cases e with
  | normal =>
    have hq : D0 (fun y2b y2n y2c h => K (.slice y2b y2n y2c) h) g' h' := hq
    obtain ⟨y2b, y2n, y2c, ⟨hg2, hd⟩, hq⟩ := D0_ok hq
    show leaveX g'.ds h' _
    rw [hd]
    show K (g'.v 2) h'
    rw [hg2]
    exact hq
  | ret =>
    have hq : D0 (fun y2b y2n y2c h => K (.slice y2b y2n y2c) h) g' h' := hq
    obtain ⟨y2b, y2n, y2c, ⟨hg2, hd⟩, hq⟩ := D0_ok hq
    show leaveX g'.ds h' _
    rw [hd]
    show K (g'.v 2) h'
    rw [hg2]
    exact hq
  | _ => exact hq
end Sx.utf_Lines

/-! ### tympan/tympanref01.Lines -/
namespace Sx.r01_Lines
noncomputable def code : Code := bodyOf Tryd.f20
abbrev T0 := (Option Addr) → Nat → Nat → H → Prop
def E0 (g : Env) (x2b : Option Addr) (x2n : Nat) (x2c : Nat) : Prop := g.v 2 = (.slice x2b x2n x2c) ∧ g.ds = []
def D0 (K : T0) (g : Env) (h : H) : Prop := nilDs g.ds (vSlice (g.v 2) fun s1b s1n s1c => K s1b s1n s1c h)
theorem D0_ok {K : T0} {g : Env} {h : H} (hq : D0 K g h) : ∃ (x2b : Option Addr) (x2n : Nat) (x2c : Nat), E0 g x2b x2n x2c ∧ K x2b x2n x2c h := by
  obtain ⟨hd, hq⟩ := nilDs_ok hq
  obtain ⟨y3b, y3n, y3c, e2, q4⟩ := vSlice_ok hq
  exact ⟨y3b, y3n, y3c, ⟨e2, hd⟩, q4⟩
def Q0 (Kn : T0) (Kr : T0) : XPost
  | .normal, g, h => D0 Kn g h
  | .ret, g, h => D0 Kr g h
  | _, _, _ => False
abbrev T1 := (List UInt8) → H → Prop
def E1 (g : Env) (x0 : List UInt8) : Prop := g.v 0 = (S x0) ∧ g.ds = []
def D1 (K : T1) (g : Env) (h : H) : Prop := nilDs g.ds (vStr (g.v 0) fun s5 => K s5 h)
theorem D1_ok {K : T1} {g : Env} {h : H} (hq : D1 K g h) : ∃ (x0 : List UInt8), E1 g x0 ∧ K x0 h := by
  obtain ⟨hd, hq⟩ := nilDs_ok hq
  obtain ⟨y7, e6, q8⟩ := vStr_ok hq
  exact ⟨y7, ⟨e6, hd⟩, q8⟩
noncomputable def n1_c1 : Code := cFst code
noncomputable def n1_c2 : Code := cSnd code
noncomputable def n2_c1 : Code := cFst n1_c2
noncomputable def n2_c2 : Code := cSnd n1_c2
noncomputable def n3_c1 : Code := cFst n2_c2
noncomputable def n3_c2 : Code := cSnd n2_c2
abbrev T2 := (List UInt8) → (Option Addr) → Nat → Nat → H → Prop
def E2 (g : Env) (x0 : List UInt8) (x3b : Option Addr) (x3n : Nat) (x3c : Nat) : Prop := g.v 0 = (S x0) ∧ g.v 3 = (.slice x3b x3n x3c) ∧ g.ds = []
def D2 (K : T2) (g : Env) (h : H) : Prop := nilDs g.ds (vStr (g.v 0) fun s9 => vSlice (g.v 3) fun s10b s10n s10c => K s9 s10b s10n s10c h)
theorem D2_ok {K : T2} {g : Env} {h : H} (hq : D2 K g h) : ∃ (x0 : List UInt8) (x3b : Option Addr) (x3n : Nat) (x3c : Nat), E2 g x0 x3b x3n x3c ∧ K x0 x3b x3n x3c h := by
  obtain ⟨hd, hq⟩ := nilDs_ok hq
  obtain ⟨y12, e11, q13⟩ := vStr_ok hq
  obtain ⟨y15b, y15n, y15c, e14, q16⟩ := vSlice_ok q13
  exact ⟨y12, y15b, y15n, y15c, ⟨e11, e14, hd⟩, q16⟩
noncomputable def n4_c1 : Code := cFst n3_c2
noncomputable def n4_c2 : Code := cSnd n3_c2
abbrev T3 := (List UInt8) → (Option Addr) → Nat → Nat → Int → H → Prop
def E3 (g : Env) (x0 : List UInt8) (x3b : Option Addr) (x3n : Nat) (x3c : Nat) (x4 : Int) : Prop := g.v 0 = (S x0) ∧ g.v 3 = (.slice x3b x3n x3c) ∧ g.v 4 = (.int .i64 x4) ∧ g.ds = []
def D3 (K : T3) (g : Env) (h : H) : Prop := nilDs g.ds (vStr (g.v 0) fun s17 => vSlice (g.v 3) fun s18b s18n s18c => vInt .i64 (g.v 4) fun i19 => K s17 s18b s18n s18c i19 h)
theorem D3_ok {K : T3} {g : Env} {h : H} (hq : D3 K g h) : ∃ (x0 : List UInt8) (x3b : Option Addr) (x3n : Nat) (x3c : Nat) (x4 : Int), E3 g x0 x3b x3n x3c x4 ∧ K x0 x3b x3n x3c x4 h := by
  obtain ⟨hd, hq⟩ := nilDs_ok hq
  obtain ⟨y21, e20, q22⟩ := vStr_ok hq
  obtain ⟨y24b, y24n, y24c, e23, q25⟩ := vSlice_ok q22
  obtain ⟨y27, e26, q28⟩ := vInt_ok q25
  exact ⟨y21, y24b, y24n, y24c, y27, ⟨e20, e23, e26, hd⟩, q28⟩
noncomputable def n5_c1 : Code := cFst n4_c2
noncomputable def n5_c2 : Code := cSnd n4_c2
abbrev n6 (x0 : List UInt8) (x3b : Option Addr) (x3n : Nat) (x3c : Nat) (x4 : Int) (Kn : T0) (Kr : T0) (h : H) : Prop :=
  Spl (x4 < (x0.length : Int)) ((0 ≤ x4 ∧ x4 ≤ (x0.length : Int) ∧ (x0.length : Int) ≤ (x0.length : Int)) ∧ (newx h #[(S (sub x0 x4 (x0.length : Int)))] 9 fun a29 h30 => SemH Tryd.prog (Builtin.append_ #[30, 30] 30 ⟨[(.slice x3b x3n x3c), (.slice (some a29) 1 1)]⟩) h30 fun v31 h32 => vSlice v31 fun s33b s33n s33c => Kr s33b s33n s33c h32)) (Kr x3b x3n x3c h)
theorem n6_ok (x0 : List UInt8) (x3b : Option Addr) (x3n : Nat) (x3c : Nat) (x4 : Int) (Kn : T0) (Kr : T0) (g : Env) (hg : E3 g x0 x3b x3n x3c x4) (h : H) (hS : n6 x0 x3b x3n x3c x4 Kn Kr h) : wpC none Tryd.prog 38 n5_c2 (Q0 Kn Kr) g h := by
  obtain ⟨hg0, hg3, hg4, hds⟩ := hg
  refine wpC_of_wpx (by kernel_rfl) (by kernel_rfl) (g' := (((⟨g.v, []⟩ : Env).upd (some 0) (S x0)).upd (some 3) (.slice x3b x3n x3c)).upd (some 4) (.int .i64 x4)) (by rw [env_ds hds, upd_self hg0, upd_self hg3, upd_self hg4]) ?_
  have e : (n6 x0 x3b x3n x3c x4 Kn Kr h) = wpx none Tryd.prog 38 n5_c2 (Q0 Kn Kr) ((((⟨g.v, []⟩ : Env).upd (some 0) (S x0)).upd (some 3) (.slice x3b x3n x3c)).upd (some 4) (.int .i64 x4)) h := by kernel_rfl
  exact e ▸ hS
def Q1 (Kn : T3) (Kr : T0) : XPost
  | .normal, g, h => D3 Kn g h
  | .ret, g, h => D0 Kr g h
  | _, _, _ => False
noncomputable def n7_c1 : Code := cFst n5_c1
noncomputable def n7_c2 : Code := cSnd n5_c1
abbrev T4 := (List UInt8) → (Option Addr) → Nat → Nat → Int → Int → H → Prop
def E4 (g : Env) (x0 : List UInt8) (x3b : Option Addr) (x3n : Nat) (x3c : Nat) (x4 : Int) (x5 : Int) : Prop := g.v 0 = (S x0) ∧ g.v 3 = (.slice x3b x3n x3c) ∧ g.v 4 = (.int .i64 x4) ∧ g.v 5 = (.int .i64 x5) ∧ g.ds = []
def D4 (K : T4) (g : Env) (h : H) : Prop := nilDs g.ds (vStr (g.v 0) fun s34 => vSlice (g.v 3) fun s35b s35n s35c => vInt .i64 (g.v 4) fun i36 => vInt .i64 (g.v 5) fun i37 => K s34 s35b s35n s35c i36 i37 h)
theorem D4_ok {K : T4} {g : Env} {h : H} (hq : D4 K g h) : ∃ (x0 : List UInt8) (x3b : Option Addr) (x3n : Nat) (x3c : Nat) (x4 : Int) (x5 : Int), E4 g x0 x3b x3n x3c x4 x5 ∧ K x0 x3b x3n x3c x4 x5 h := by
  obtain ⟨hd, hq⟩ := nilDs_ok hq
  obtain ⟨y39, e38, q40⟩ := vStr_ok hq
  obtain ⟨y42b, y42n, y42c, e41, q43⟩ := vSlice_ok q40
  obtain ⟨y45, e44, q46⟩ := vInt_ok q43
  obtain ⟨y48, e47, q49⟩ := vInt_ok q46
  exact ⟨y39, y42b, y42n, y42c, y45, y48, ⟨e38, e41, e44, e47, hd⟩, q49⟩
noncomputable def n8_c1 : Code := cFst n7_c2
def Q2 (Kn : T3) (Ke0 : T3) (Kr : T0) : XPost
  | .normal, g, h => D3 Kn g h
  | .ret, g, h => D0 Kr g h
  | .exit id, g, h => cond (Nat.beq id 0) (D3 Ke0 g h) (False)
  | _, _, _ => False
noncomputable def n9_c1 : Code := cFst n8_c1
def Q3 (Kn : T4) (Ke0 : T3) (Kr : T0) : XPost
  | .normal, g, h => D4 Kn g h
  | .ret, g, h => D0 Kr g h
  | .exit id, g, h => cond (Nat.beq id 0) (D3 Ke0 g h) (False)
  | _, _, _ => False
noncomputable def n10_c1 : Code := cFst n9_c1
noncomputable def n10_c2 : Code := cSnd n9_c1
noncomputable def n11_c1 : Code := cFst n10_c2
noncomputable def n11_c2 : Code := cSnd n10_c2
abbrev n12 (x0 : List UInt8) (x3b : Option Addr) (x3n : Nat) (x3c : Nat) (x4 : Int) (x5 : Int) (Kn : T4) (Ke0 : T3) (Kr : T0) (h : H) : Prop :=
  Rng .i64 (x5 + (1 : Int)) ∧ (Kn x0 x3b x3n x3c x4 (x5 + (1 : Int)) h)
theorem n12_ok (x0 : List UInt8) (x3b : Option Addr) (x3n : Nat) (x3c : Nat) (x4 : Int) (x5 : Int) (Kn : T4) (Ke0 : T3) (Kr : T0) (g : Env) (hg : E4 g x0 x3b x3n x3c x4 x5) (h : H) (hS : n12 x0 x3b x3n x3c x4 x5 Kn Ke0 Kr h) : wpC none Tryd.prog 38 n11_c2 (Q3 Kn Ke0 Kr) g h := by
  obtain ⟨hg0, hg3, hg4, hg5, hds⟩ := hg
  refine wpC_of_wpx (by kernel_rfl) (by kernel_rfl) (g' := ((((⟨g.v, []⟩ : Env).upd (some 0) (S x0)).upd (some 3) (.slice x3b x3n x3c)).upd (some 4) (.int .i64 x4)).upd (some 5) (.int .i64 x5)) (by rw [env_ds hds, upd_self hg0, upd_self hg3, upd_self hg4, upd_self hg5]) ?_
  have e : (n12 x0 x3b x3n x3c x4 x5 Kn Ke0 Kr h) = wpx none Tryd.prog 38 n11_c2 (Q3 Kn Ke0 Kr) (((((⟨g.v, []⟩ : Env).upd (some 0) (S x0)).upd (some 3) (.slice x3b x3n x3c)).upd (some 4) (.int .i64 x4)).upd (some 5) (.int .i64 x5)) h := by kernel_rfl
  exact e ▸ hS
abbrev n11 (x0 : List UInt8) (x3b : Option Addr) (x3n : Nat) (x3c : Nat) (x4 : Int) (x5 : Int) (Kn : T4) (Ke0 : T3) (Kr : T0) (h : H) : Prop :=
  (0 ≤ x5 ∧ x5 < (x0.length : Int)) ∧ (Spl (((List.getD x0 (Int.toNat x5) 0).toNat : Int) = (10 : Int)) ((0 ≤ x4 ∧ x4 ≤ x5 ∧ x5 ≤ (x0.length : Int)) ∧ (newx h #[(S (sub x0 x4 x5))] 9 fun a50 h51 => SemH Tryd.prog (Builtin.append_ #[30, 30] 30 ⟨[(.slice x3b x3n x3c), (.slice (some a50) 1 1)]⟩) h51 fun v52 h53 => vSlice v52 fun s54b s54n s54c => Rng .i64 (x5 + (1 : Int)) ∧ (n12 x0 s54b s54n s54c (x5 + (1 : Int)) x5 Kn Ke0 Kr h53))) (n12 x0 x3b x3n x3c x4 x5 Kn Ke0 Kr h))
theorem n11_ok (x0 : List UInt8) (x3b : Option Addr) (x3n : Nat) (x3c : Nat) (x4 : Int) (x5 : Int) (Kn : T4) (Ke0 : T3) (Kr : T0) (g : Env) (hg : E4 g x0 x3b x3n x3c x4 x5) (h : H) (hS : n11 x0 x3b x3n x3c x4 x5 Kn Ke0 Kr h) : wpC none Tryd.prog 38 n10_c2 (Q3 Kn Ke0 Kr) g h := by
  obtain ⟨hg0, hg3, hg4, hg5, hds⟩ := hg
  refine wpC_seq' (x := n11_c1) (y := n11_c2) (Q' := (Q3 (fun z0 z3b z3n z3c z4 z5 h => n12 z0 z3b z3n z3c z4 z5 Kn Ke0 Kr h) Ke0 Kr)) (by kernel_rfl) ?_ ?_
  · refine wpC_of_wpx (by kernel_rfl) (by kernel_rfl) (g' := ((((⟨g.v, []⟩ : Env).upd (some 0) (S x0)).upd (some 3) (.slice x3b x3n x3c)).upd (some 4) (.int .i64 x4)).upd (some 5) (.int .i64 x5)) (by rw [env_ds hds, upd_self hg0, upd_self hg3, upd_self hg4, upd_self hg5]) ?_
    have e : (n11 x0 x3b x3n x3c x4 x5 Kn Ke0 Kr h) = wpx none Tryd.prog 38 n11_c1 (Q3 (fun z0 z3b z3n z3c z4 z5 h => n12 z0 z3b z3n z3c z4 z5 Kn Ke0 Kr h) Ke0 Kr) (((((⟨g.v, []⟩ : Env).upd (some 0) (S x0)).upd (some 3) (.slice x3b x3n x3c)).upd (some 4) (.int .i64 x4)).upd (some 5) (.int .i64 x5)) h := by kernel_rfl
    exact e ▸ hS
  · intro e g' h' hq
    cases e with
    | normal =>
      have hq : D4 (fun z0 z3b z3n z3c z4 z5 h => n12 z0 z3b z3n z3c z4 z5 Kn Ke0 Kr h) g' h' := hq
      obtain ⟨y0, y3b, y3n, y3c, y4, y5, hg', hq⟩ := D4_ok hq
      exact n12_ok y0 y3b y3n y3c y4 y5 Kn Ke0 Kr g' hg' h' hq
    | _ => exact hq
abbrev n10 (x0 : List UInt8) (x3b : Option Addr) (x3n : Nat) (x3c : Nat) (x4 : Int) (x5 : Int) (Kn : T4) (Ke0 : T3) (Kr : T0) (h : H) : Prop :=
  Spl (x5 < (x0.length : Int)) (n11 x0 x3b x3n x3c x4 x5 Kn Ke0 Kr h) (Ke0 x0 x3b x3n x3c x4 h)
theorem n10_ok (x0 : List UInt8) (x3b : Option Addr) (x3n : Nat) (x3c : Nat) (x4 : Int) (x5 : Int) (Kn : T4) (Ke0 : T3) (Kr : T0) (g : Env) (hg : E4 g x0 x3b x3n x3c x4 x5) (h : H) (hS : n10 x0 x3b x3n x3c x4 x5 Kn Ke0 Kr h) : wpC none Tryd.prog 38 n9_c1 (Q3 Kn Ke0 Kr) g h := by
  obtain ⟨hg0, hg3, hg4, hg5, hds⟩ := hg
  refine wpC_seq' (x := n10_c1) (y := n10_c2) (Q' := (Q3 (fun z0 z3b z3n z3c z4 z5 h => n11 z0 z3b z3n z3c z4 z5 Kn Ke0 Kr h) Ke0 Kr)) (by kernel_rfl) ?_ ?_
  · refine wpC_of_wpx (by kernel_rfl) (by kernel_rfl) (g' := ((((⟨g.v, []⟩ : Env).upd (some 0) (S x0)).upd (some 3) (.slice x3b x3n x3c)).upd (some 4) (.int .i64 x4)).upd (some 5) (.int .i64 x5)) (by rw [env_ds hds, upd_self hg0, upd_self hg3, upd_self hg4, upd_self hg5]) ?_
    have e : (n10 x0 x3b x3n x3c x4 x5 Kn Ke0 Kr h) = wpx none Tryd.prog 38 n10_c1 (Q3 (fun z0 z3b z3n z3c z4 z5 h => n11 z0 z3b z3n z3c z4 z5 Kn Ke0 Kr h) Ke0 Kr) (((((⟨g.v, []⟩ : Env).upd (some 0) (S x0)).upd (some 3) (.slice x3b x3n x3c)).upd (some 4) (.int .i64 x4)).upd (some 5) (.int .i64 x5)) h := by kernel_rfl
    exact e ▸ hS
  · intro e g' h' hq
    cases e with
    | normal =>
      have hq : D4 (fun z0 z3b z3n z3c z4 z5 h => n11 z0 z3b z3n z3c z4 z5 Kn Ke0 Kr h) g' h' := hq
      obtain ⟨y0, y3b, y3n, y3c, y4, y5, hg', hq⟩ := D4_ok hq
      exact n11_ok y0 y3b y3n y3c y4 y5 Kn Ke0 Kr g' hg' h' hq
    | _ => exact hq
def n9_L (Kn : T3) (Ke0 : T3) (Kr : T0) : Nat → (List UInt8) → (Option Addr) → Nat → Nat → Int → Int → H → Prop
  | 0 => fun _ _ _ _ _ _ _ => False
  | N + 1 => fun x0 x3b x3n x3c x4 x5 h => n10 x0 x3b x3n x3c x4 x5 (fun z0 z3b z3n z3c z4 z5 h => n9_L Kn Ke0 Kr N z0 z3b z3n z3c z4 z5 h) Ke0 Kr h
abbrev n9 (x0 : List UInt8) (x3b : Option Addr) (x3n : Nat) (x3c : Nat) (x4 : Int) (x5 : Int) (Kn : T3) (Ke0 : T3) (Kr : T0) (h : H) : Prop := ∃ N, n9_L Kn Ke0 Kr N x0 x3b x3n x3c x4 x5 h
theorem n9_ok (x0 : List UInt8) (x3b : Option Addr) (x3n : Nat) (x3c : Nat) (x4 : Int) (x5 : Int) (Kn : T3) (Ke0 : T3) (Kr : T0) (g : Env) (hg : E4 g x0 x3b x3n x3c x4 x5) (h : H) (hS : n9 x0 x3b x3n x3c x4 x5 Kn Ke0 Kr h) : wpC none Tryd.prog 38 n8_c1 (Q2 Kn Ke0 Kr) g h := by
  obtain ⟨N0, hS⟩ := hS
  refine wpC_loop' (x := n9_c1) (by kernel_rfl) (fun k g h => ∃ (x0 : List UInt8) (x3b : Option Addr) (x3n : Nat) (x3c : Nat) (x4 : Int) (x5 : Int), E4 g x0 x3b x3n x3c x4 x5 ∧ n9_L Kn Ke0 Kr k x0 x3b x3n x3c x4 x5 h) (fun g h hr => ?_) (fun N g h hr => ?_) N0 ⟨x0, x3b, x3n, x3c, x4, x5, hg, hS⟩
  · obtain ⟨x0, x3b, x3n, x3c, x4, x5, hg, hS⟩ := hr
    exact hS.elim
  · obtain ⟨x0, x3b, x3n, x3c, x4, x5, hg, hS⟩ := hr
    refine (n10_ok x0 x3b x3n x3c x4 x5 (fun z0 z3b z3n z3c z4 z5 h => n9_L Kn Ke0 Kr N z0 z3b z3n z3c z4 z5 h) Ke0 Kr g hg h hS).mono ?_
    intro e g' h' hq
    cases e with
    | normal => exact D4_ok (K := (fun z0 z3b z3n z3c z4 z5 h => n9_L Kn Ke0 Kr N z0 z3b z3n z3c z4 z5 h)) hq
    | _ => exact hq
abbrev n8 (x0 : List UInt8) (x3b : Option Addr) (x3n : Nat) (x3c : Nat) (x4 : Int) (x5 : Int) (Kn : T3) (Kr : T0) (h : H) : Prop := n9 x0 x3b x3n x3c x4 x5 Kn Kn Kr h
theorem n8_ok (x0 : List UInt8) (x3b : Option Addr) (x3n : Nat) (x3c : Nat) (x4 : Int) (x5 : Int) (Kn : T3) (Kr : T0) (g : Env) (hg : E4 g x0 x3b x3n x3c x4 x5) (h : H) (hS : n8 x0 x3b x3n x3c x4 x5 Kn Kr h) : wpC none Tryd.prog 38 n7_c2 (Q1 Kn Kr) g h := by
  refine wpC_block' (id := 0) (x := n8_c1) (by kernel_rfl) (n9_ok x0 x3b x3n x3c x4 x5 Kn Kn Kr g hg h hS) ?_
  intro e g' h' hq
  cases e <;> exact hq
def Q4 (Kn : T4) (Kr : T0) : XPost
  | .normal, g, h => D4 Kn g h
  | .ret, g, h => D0 Kr g h
  | _, _, _ => False
abbrev n7 (x0 : List UInt8) (x3b : Option Addr) (x3n : Nat) (x3c : Nat) (x4 : Int) (Kn : T3) (Kr : T0) (h : H) : Prop :=
  n8 x0 x3b x3n x3c x4 (0 : Int) Kn Kr h
theorem n7_ok (x0 : List UInt8) (x3b : Option Addr) (x3n : Nat) (x3c : Nat) (x4 : Int) (Kn : T3) (Kr : T0) (g : Env) (hg : E3 g x0 x3b x3n x3c x4) (h : H) (hS : n7 x0 x3b x3n x3c x4 Kn Kr h) : wpC none Tryd.prog 38 n5_c1 (Q1 Kn Kr) g h := by
  obtain ⟨hg0, hg3, hg4, hds⟩ := hg
  refine wpC_seq' (x := n7_c1) (y := n7_c2) (Q' := (Q4 (fun z0 z3b z3n z3c z4 z5 h => n8 z0 z3b z3n z3c z4 z5 Kn Kr h) Kr)) (by kernel_rfl) ?_ ?_
  · refine wpC_of_wpx (by kernel_rfl) (by kernel_rfl) (g' := (((⟨g.v, []⟩ : Env).upd (some 0) (S x0)).upd (some 3) (.slice x3b x3n x3c)).upd (some 4) (.int .i64 x4)) (by rw [env_ds hds, upd_self hg0, upd_self hg3, upd_self hg4]) ?_
    have e : (n7 x0 x3b x3n x3c x4 Kn Kr h) = wpx none Tryd.prog 38 n7_c1 (Q4 (fun z0 z3b z3n z3c z4 z5 h => n8 z0 z3b z3n z3c z4 z5 Kn Kr h) Kr) ((((⟨g.v, []⟩ : Env).upd (some 0) (S x0)).upd (some 3) (.slice x3b x3n x3c)).upd (some 4) (.int .i64 x4)) h := by kernel_rfl
    exact e ▸ hS
  · intro e g' h' hq
    cases e with
    | normal =>
      have hq : D4 (fun z0 z3b z3n z3c z4 z5 h => n8 z0 z3b z3n z3c z4 z5 Kn Kr h) g' h' := hq
      obtain ⟨y0, y3b, y3n, y3c, y4, y5, hg', hq⟩ := D4_ok hq
      exact n8_ok y0 y3b y3n y3c y4 y5 Kn Kr g' hg' h' hq
    | _ => exact hq
abbrev n5 (x0 : List UInt8) (x3b : Option Addr) (x3n : Nat) (x3c : Nat) (x4 : Int) (Kn : T0) (Kr : T0) (h : H) : Prop := n7 x0 x3b x3n x3c x4 (fun z0 z3b z3n z3c z4 h => n6 z0 z3b z3n z3c z4 Kn Kr h) Kr h
theorem n5_ok (x0 : List UInt8) (x3b : Option Addr) (x3n : Nat) (x3c : Nat) (x4 : Int) (Kn : T0) (Kr : T0) (g : Env) (hg : E3 g x0 x3b x3n x3c x4) (h : H) (hS : n5 x0 x3b x3n x3c x4 Kn Kr h) : wpC none Tryd.prog 38 n4_c2 (Q0 Kn Kr) g h := by
  refine wpC_seq' (x := n5_c1) (y := n5_c2) (by kernel_rfl) (n7_ok x0 x3b x3n x3c x4 (fun z0 z3b z3n z3c z4 h => n6 z0 z3b z3n z3c z4 Kn Kr h) Kr g hg h hS) ?_
  intro e g' h' hq
  cases e with
  | normal =>
    have hq : D3 (fun z0 z3b z3n z3c z4 h => n6 z0 z3b z3n z3c z4 Kn Kr h) g' h' := hq
    obtain ⟨y0, y3b, y3n, y3c, y4, hg', hq⟩ := D3_ok hq
    exact n6_ok y0 y3b y3n y3c y4 Kn Kr g' hg' h' hq
  | _ => exact hq
abbrev n4 (x0 : List UInt8) (x3b : Option Addr) (x3n : Nat) (x3c : Nat) (Kn : T0) (Kr : T0) (h : H) : Prop :=
  n5 x0 x3b x3n x3c (0 : Int) Kn Kr h
theorem n4_ok (x0 : List UInt8) (x3b : Option Addr) (x3n : Nat) (x3c : Nat) (Kn : T0) (Kr : T0) (g : Env) (hg : E2 g x0 x3b x3n x3c) (h : H) (hS : n4 x0 x3b x3n x3c Kn Kr h) : wpC none Tryd.prog 38 n3_c2 (Q0 Kn Kr) g h := by
  obtain ⟨hg0, hg3, hds⟩ := hg
  refine wpC_seq' (x := n4_c1) (y := n4_c2) (Q' := (Q1 (fun z0 z3b z3n z3c z4 h => n5 z0 z3b z3n z3c z4 Kn Kr h) Kr)) (by kernel_rfl) ?_ ?_
  · refine wpC_of_wpx (by kernel_rfl) (by kernel_rfl) (g' := ((⟨g.v, []⟩ : Env).upd (some 0) (S x0)).upd (some 3) (.slice x3b x3n x3c)) (by rw [env_ds hds, upd_self hg0, upd_self hg3]) ?_
    have e : (n4 x0 x3b x3n x3c Kn Kr h) = wpx none Tryd.prog 38 n4_c1 (Q1 (fun z0 z3b z3n z3c z4 h => n5 z0 z3b z3n z3c z4 Kn Kr h) Kr) (((⟨g.v, []⟩ : Env).upd (some 0) (S x0)).upd (some 3) (.slice x3b x3n x3c)) h := by kernel_rfl
    exact e ▸ hS
  · intro e g' h' hq
    cases e with
    | normal =>
      have hq : D3 (fun z0 z3b z3n z3c z4 h => n5 z0 z3b z3n z3c z4 Kn Kr h) g' h' := hq
      obtain ⟨y0, y3b, y3n, y3c, y4, hg', hq⟩ := D3_ok hq
      exact n5_ok y0 y3b y3n y3c y4 Kn Kr g' hg' h' hq
    | _ => exact hq
def Q5 (Kn : T2) (Kr : T0) : XPost
  | .normal, g, h => D2 Kn g h
  | .ret, g, h => D0 Kr g h
  | _, _, _ => False
abbrev n3 (x0 : List UInt8) (Kn : T0) (Kr : T0) (h : H) : Prop :=
  n4 x0 none 0 0 Kn Kr h
theorem n3_ok (x0 : List UInt8) (Kn : T0) (Kr : T0) (g : Env) (hg : E1 g x0) (h : H) (hS : n3 x0 Kn Kr h) : wpC none Tryd.prog 38 n2_c2 (Q0 Kn Kr) g h := by
  obtain ⟨hg0, hds⟩ := hg
  refine wpC_seq' (x := n3_c1) (y := n3_c2) (Q' := (Q5 (fun z0 z3b z3n z3c h => n4 z0 z3b z3n z3c Kn Kr h) Kr)) (by kernel_rfl) ?_ ?_
  · refine wpC_of_wpx (by kernel_rfl) (by kernel_rfl) (g' := (⟨g.v, []⟩ : Env).upd (some 0) (S x0)) (by rw [env_ds hds, upd_self hg0]) ?_
    have e : (n3 x0 Kn Kr h) = wpx none Tryd.prog 38 n3_c1 (Q5 (fun z0 z3b z3n z3c h => n4 z0 z3b z3n z3c Kn Kr h) Kr) ((⟨g.v, []⟩ : Env).upd (some 0) (S x0)) h := by kernel_rfl
    exact e ▸ hS
  · intro e g' h' hq
    cases e with
    | normal =>
      have hq : D2 (fun z0 z3b z3n z3c h => n4 z0 z3b z3n z3c Kn Kr h) g' h' := hq
      obtain ⟨y0, y3b, y3n, y3c, hg', hq⟩ := D2_ok hq
      exact n4_ok y0 y3b y3n y3c Kn Kr g' hg' h' hq
    | _ => exact hq
def Q6 (Kn : T1) (Kr : T0) : XPost
  | .normal, g, h => D1 Kn g h
  | .ret, g, h => D0 Kr g h
  | _, _, _ => False
abbrev n2 (x0 : List UInt8) (Kn : T0) (Kr : T0) (h : H) : Prop :=
  HCalls Tryd.prog 17 ⟨[(S x0)]⟩ h fun v55 h56 => vStr v55 fun s57 => n3 s57 Kn Kr h56
theorem n2_ok (x0 : List UInt8) (Kn : T0) (Kr : T0) (g : Env) (hg : E1 g x0) (h : H) (hS : n2 x0 Kn Kr h) : wpC none Tryd.prog 38 n1_c2 (Q0 Kn Kr) g h := by
  obtain ⟨hg0, hds⟩ := hg
  refine wpC_seq' (x := n2_c1) (y := n2_c2) (Q' := (Q6 (fun z0 h => n3 z0 Kn Kr h) Kr)) (by kernel_rfl) ?_ ?_
  · refine wpC_of_wpx (by kernel_rfl) (by kernel_rfl) (g' := (⟨g.v, []⟩ : Env).upd (some 0) (S x0)) (by rw [env_ds hds, upd_self hg0]) ?_
    have e : (n2 x0 Kn Kr h) = wpx none Tryd.prog 38 n2_c1 (Q6 (fun z0 h => n3 z0 Kn Kr h) Kr) ((⟨g.v, []⟩ : Env).upd (some 0) (S x0)) h := by kernel_rfl
    exact e ▸ hS
  · intro e g' h' hq
    cases e with
    | normal =>
      have hq : D1 (fun z0 h => n3 z0 Kn Kr h) g' h' := hq
      obtain ⟨y0, hg', hq⟩ := D1_ok hq
      exact n3_ok y0 Kn Kr g' hg' h' hq
    | _ => exact hq
abbrev n1 (x0 : List UInt8) (Kn : T0) (Kr : T0) (h : H) : Prop :=
  n2 x0 Kn Kr h
theorem n1_ok (x0 : List UInt8) (Kn : T0) (Kr : T0) (g : Env) (hg : E1 g x0) (h : H) (hS : n1 x0 Kn Kr h) : wpC none Tryd.prog 38 code (Q0 Kn Kr) g h := by
  obtain ⟨hg0, hds⟩ := hg
  refine wpC_seq' (x := n1_c1) (y := n1_c2) (Q' := (Q6 (fun z0 h => n2 z0 Kn Kr h) Kr)) (by kernel_rfl) ?_ ?_
  · refine wpC_of_wpx (by kernel_rfl) (by kernel_rfl) (g' := (⟨g.v, []⟩ : Env).upd (some 0) (S x0)) (by rw [env_ds hds, upd_self hg0]) ?_
    have e : (n1 x0 Kn Kr h) = wpx none Tryd.prog 38 n1_c1 (Q6 (fun z0 h => n2 z0 Kn Kr h) Kr) ((⟨g.v, []⟩ : Env).upd (some 0) (S x0)) h := by kernel_rfl
    exact e ▸ hS
  · intro e g' h' hq
    cases e with
    | normal =>
      have hq : D1 (fun z0 h => n2 z0 Kn Kr h) g' h' := hq
      obtain ⟨y0, hg', hq⟩ := D1_ok hq
      exact n2_ok y0 Kn Kr g' hg' h' hq
    | _ => exact hq
/-- WHAT tympan/tympanref01.Lines ASKS -/
abbrev asks (x0 : List UInt8) (K : Value → H → Prop) (h : H) : Prop := n1 x0 (fun y2b y2n y2c h => K (.slice y2b y2n y2c) h) (fun y2b y2n y2c h => K (.slice y2b y2n y2c) h) h
theorem ok (x0 : List UInt8) (K : Value → H → Prop) (h : H) (hS : asks x0 K h) : HCalls Tryd.prog 20 ⟨[(S x0)]⟩ h K := by
  refine calls_of_wpC (c := code) Tryd.func20 (by kernel_rfl) (Nat.le_of_ble_eq_true (by kernel_rfl)) ?_
  refine (n1_ok x0 (fun y2b y2n y2c h => K (.slice y2b y2n y2c) h) (fun y2b y2n y2c h => K (.slice y2b y2n y2c) h) (env0 [(S x0)]) ⟨rfl, rfl⟩ h hS).mono ?_
  intro e g' h' hq
  cases e with
  | normal =>
    have hq : D0 (fun y2b y2n y2c h => K (.slice y2b y2n y2c) h) g' h' := hq
    obtain ⟨y2b, y2n, y2c, ⟨hg2, hd⟩, hq⟩ := D0_ok hq
    show leaveX g'.ds h' _
    rw [hd]
    show K (g'.v 2) h'
    rw [hg2]
    exact hq
  | ret =>
    have hq : D0 (fun y2b y2n y2c h => K (.slice y2b y2n y2c) h) g' h' := hq
    obtain ⟨y2b, y2n, y2c, ⟨hg2, hd⟩, hq⟩ := D0_ok hq
    show leaveX g'.ds h' _
    rw [hd]
    show K (g'.v 2) h'
    rw [hg2]
    exact hq
  | _ => exact hq
end Sx.r01_Lines

/-! ### tympan/utf.width -/
namespace Sx.utf_width
noncomputable def code : Code := bodyOf Tryd.f21
abbrev T0 := Int → Bool → H → Prop
def E0 (g : Env) (x2 : Int) (x3 : Bool) : Prop := g.v 2 = (.int .i64 x2) ∧ g.v 3 = (.bool x3) ∧ g.ds = []
def D0 (K : T0) (g : Env) (h : H) : Prop := nilDs g.ds (vInt .i64 (g.v 2) fun i1 => vBool (g.v 3) fun b2 => K i1 b2 h)
theorem D0_ok {K : T0} {g : Env} {h : H} (hq : D0 K g h) : ∃ (x2 : Int) (x3 : Bool), E0 g x2 x3 ∧ K x2 x3 h := by
  obtain ⟨hd, hq⟩ := nilDs_ok hq
  obtain ⟨y4, e3, q5⟩ := vInt_ok hq
  obtain ⟨y7, e6, q8⟩ := vBool_ok q5
  exact ⟨y4, y7, ⟨e3, e6, hd⟩, q8⟩
def Q0 (Kn : T0) (Kr : T0) : XPost
  | .normal, g, h => D0 Kn g h
  | .ret, g, h => D0 Kr g h
  | _, _, _ => False
abbrev T1 := (Option Addr) → Nat → Nat → H → Prop
def E1 (g : Env) (x0b : Option Addr) (x0n : Nat) (x0c : Nat) : Prop := g.v 0 = (.slice x0b x0n x0c) ∧ g.ds = []
def D1 (K : T1) (g : Env) (h : H) : Prop := nilDs g.ds (vSlice (g.v 0) fun s9b s9n s9c => K s9b s9n s9c h)
theorem D1_ok {K : T1} {g : Env} {h : H} (hq : D1 K g h) : ∃ (x0b : Option Addr) (x0n : Nat) (x0c : Nat), E1 g x0b x0n x0c ∧ K x0b x0n x0c h := by
  obtain ⟨hd, hq⟩ := nilDs_ok hq
  obtain ⟨y11b, y11n, y11c, e10, q12⟩ := vSlice_ok hq
  exact ⟨y11b, y11n, y11c, ⟨e10, hd⟩, q12⟩
noncomputable def n1_c1 : Code := cFst code
noncomputable def n1_c2 : Code := cSnd code
noncomputable def n2_c1 : Code := cFst n1_c2
noncomputable def n2_c2 : Code := cSnd n1_c2
noncomputable def n3_c1 : Code := cFst n2_c2
noncomputable def n3_c2 : Code := cSnd n2_c2
abbrev T2 := H → Prop
def E2 (g : Env)  : Prop := g.ds = []
def D2 (K : T2) (g : Env) (h : H) : Prop := nilDs g.ds (K h)
theorem D2_ok {K : T2} {g : Env} {h : H} (hq : D2 K g h) : E2 g  ∧ K  h := by
  obtain ⟨hd, hq⟩ := nilDs_ok hq
  skip
  exact ⟨hd, hq⟩
abbrev n4  (Kn : T0) (Kr : T0) (h : H) : Prop :=
  Kr (1 : Int) false h
theorem n4_ok  (Kn : T0) (Kr : T0) (g : Env) (hg : E2 g ) (h : H) (hS : n4  Kn Kr h) : wpC none Tryd.prog 31 n3_c2 (Q0 Kn Kr) g h := by
  have hds : g.ds = [] := hg
  refine wpC_of_wpx (by kernel_rfl) (by kernel_rfl) (g' := ⟨g.v, []⟩) (by rw [env_ds hds]) ?_
  have e : (n4  Kn Kr h) = wpx none Tryd.prog 31 n3_c2 (Q0 Kn Kr) (⟨g.v, []⟩) h := by kernel_rfl
  exact e ▸ hS
def Q1 (Kn : T2) (Kr : T0) : XPost
  | .normal, g, h => D2 Kn g h
  | .ret, g, h => D0 Kr g h
  | _, _, _ => False
noncomputable def n5_c1 : Code := cFst n3_c1
noncomputable def n5_c2 : Code := cSnd n3_c1
abbrev T3 := (Option Addr) → Nat → Nat → Int → H → Prop
def E3 (g : Env) (x0b : Option Addr) (x0n : Nat) (x0c : Nat) (x6 : Int) : Prop := g.v 0 = (.slice x0b x0n x0c) ∧ g.v 6 = (.int .i64 x6) ∧ g.ds = []
def D3 (K : T3) (g : Env) (h : H) : Prop := nilDs g.ds (vSlice (g.v 0) fun s13b s13n s13c => vInt .i64 (g.v 6) fun i14 => K s13b s13n s13c i14 h)
theorem D3_ok {K : T3} {g : Env} {h : H} (hq : D3 K g h) : ∃ (x0b : Option Addr) (x0n : Nat) (x0c : Nat) (x6 : Int), E3 g x0b x0n x0c x6 ∧ K x0b x0n x0c x6 h := by
  obtain ⟨hd, hq⟩ := nilDs_ok hq
  obtain ⟨y16b, y16n, y16c, e15, q17⟩ := vSlice_ok hq
  obtain ⟨y19, e18, q20⟩ := vInt_ok q17
  exact ⟨y16b, y16n, y16c, y19, ⟨e15, e18, hd⟩, q20⟩
noncomputable def n6_c1 : Code := cFst n5_c2
def Q2 (Kn : T2) (Ke0 : T2) (Kr : T0) : XPost
  | .normal, g, h => D2 Kn g h
  | .ret, g, h => D0 Kr g h
  | .exit id, g, h => cond (Nat.beq id 0) (D2 Ke0 g h) (False)
  | _, _, _ => False
noncomputable def n7_c1 : Code := cFst n6_c1
def Q3 (Kn : T3) (Ke0 : T2) (Kr : T0) : XPost
  | .normal, g, h => D3 Kn g h
  | .ret, g, h => D0 Kr g h
  | .exit id, g, h => cond (Nat.beq id 0) (D2 Ke0 g h) (False)
  | _, _, _ => False
def n7_L (Kn : T2) (Ke0 : T2) (Kr : T0) : Nat → (Option Addr) → Nat → Nat → Int → H → Prop
  | 0 => fun _ _ _ _ _ => False
  | N + 1 => fun x0b x0n x0c x6 h => Spl (x6 > (1 : Int)) ((0 ≤ (0 : Int) ∧ (0 : Int) ≤ x6 ∧ x6 ≤ (x0c : Int)) ∧ (HCalls Tryd.prog 31 ⟨[(.slice (if x0c = Int.toNat (0 : Int) then x0b else Option.map (fun q => q.add (Int.toNat (0 : Int) * 1)) x0b) (Int.toNat x6 - Int.toNat (0 : Int)) (x0c - Int.toNat (0 : Int)))]⟩ h fun v21 h22 => vBool v21 fun b23 => cond b23 (Kr x6 false h22) (Rng .i64 (x6 - (1 : Int)) ∧ (n7_L Kn Ke0 Kr N x0b x0n x0c (x6 - (1 : Int)) h22)))) (Ke0 h)
abbrev n7 (x0b : Option Addr) (x0n : Nat) (x0c : Nat) (x6 : Int) (Kn : T2) (Ke0 : T2) (Kr : T0) (h : H) : Prop := ∃ N, n7_L Kn Ke0 Kr N x0b x0n x0c x6 h
theorem n7_ok (x0b : Option Addr) (x0n : Nat) (x0c : Nat) (x6 : Int) (Kn : T2) (Ke0 : T2) (Kr : T0) (g : Env) (hg : E3 g x0b x0n x0c x6) (h : H) (hS : n7 x0b x0n x0c x6 Kn Ke0 Kr h) : wpC none Tryd.prog 31 n6_c1 (Q2 Kn Ke0 Kr) g h := by
  obtain ⟨N0, hS⟩ := hS
  refine wpC_loop' (x := n7_c1) (by kernel_rfl) (fun k g h => ∃ (x0b : Option Addr) (x0n : Nat) (x0c : Nat) (x6 : Int), E3 g x0b x0n x0c x6 ∧ n7_L Kn Ke0 Kr k x0b x0n x0c x6 h) (fun g h hr => ?_) (fun N g h hr => ?_) N0 ⟨x0b, x0n, x0c, x6, hg, hS⟩
  · obtain ⟨x0b, x0n, x0c, x6, hg, hS⟩ := hr
    exact hS.elim
  · obtain ⟨x0b, x0n, x0c, x6, hg, hS⟩ := hr
    have hw : wpC none Tryd.prog 31 n7_c1 (Q3 (fun z0b z0n z0c z6 h => n7_L Kn Ke0 Kr N z0b z0n z0c z6 h) Ke0 Kr) g h := by
      obtain ⟨hg0, hg6, hds⟩ := hg
      refine wpC_of_wpx (by kernel_rfl) (by kernel_rfl) (g' := ((⟨g.v, []⟩ : Env).upd (some 0) (.slice x0b x0n x0c)).upd (some 6) (.int .i64 x6)) (by rw [env_ds hds, upd_self hg0, upd_self hg6]) ?_
      have e : (n7_L Kn Ke0 Kr (N + 1) x0b x0n x0c x6 h) = wpx none Tryd.prog 31 n7_c1 (Q3 (fun z0b z0n z0c z6 h => n7_L Kn Ke0 Kr N z0b z0n z0c z6 h) Ke0 Kr) (((⟨g.v, []⟩ : Env).upd (some 0) (.slice x0b x0n x0c)).upd (some 6) (.int .i64 x6)) h := by kernel_rfl
      exact e ▸ hS
    refine hw.mono ?_
    intro e g' h' hq
    cases e with
    | normal => exact D3_ok (K := (fun z0b z0n z0c z6 h => n7_L Kn Ke0 Kr N z0b z0n z0c z6 h)) hq
    | _ => exact hq
abbrev n6 (x0b : Option Addr) (x0n : Nat) (x0c : Nat) (x6 : Int) (Kn : T2) (Kr : T0) (h : H) : Prop := n7 x0b x0n x0c x6 Kn Kn Kr h
theorem n6_ok (x0b : Option Addr) (x0n : Nat) (x0c : Nat) (x6 : Int) (Kn : T2) (Kr : T0) (g : Env) (hg : E3 g x0b x0n x0c x6) (h : H) (hS : n6 x0b x0n x0c x6 Kn Kr h) : wpC none Tryd.prog 31 n5_c2 (Q1 Kn Kr) g h := by
  refine wpC_block' (id := 0) (x := n6_c1) (by kernel_rfl) (n7_ok x0b x0n x0c x6 Kn Kn Kr g hg h hS) ?_
  intro e g' h' hq
  cases e <;> exact hq
def Q4 (Kn : T3) (Kr : T0) : XPost
  | .normal, g, h => D3 Kn g h
  | .ret, g, h => D0 Kr g h
  | _, _, _ => False
abbrev n5 (x0b : Option Addr) (x0n : Nat) (x0c : Nat) (Kn : T2) (Kr : T0) (h : H) : Prop :=
  n6 x0b x0n x0c (if (x0n : Int) < (3 : Int) then (x0n : Int) else (3 : Int)) Kn Kr h
theorem n5_ok (x0b : Option Addr) (x0n : Nat) (x0c : Nat) (Kn : T2) (Kr : T0) (g : Env) (hg : E1 g x0b x0n x0c) (h : H) (hS : n5 x0b x0n x0c Kn Kr h) : wpC none Tryd.prog 31 n3_c1 (Q1 Kn Kr) g h := by
  obtain ⟨hg0, hds⟩ := hg
  refine wpC_seq' (x := n5_c1) (y := n5_c2) (Q' := (Q4 (fun z0b z0n z0c z6 h => n6 z0b z0n z0c z6 Kn Kr h) Kr)) (by kernel_rfl) ?_ ?_
  · refine wpC_of_wpx (by kernel_rfl) (by kernel_rfl) (g' := (⟨g.v, []⟩ : Env).upd (some 0) (.slice x0b x0n x0c)) (by rw [env_ds hds, upd_self hg0]) ?_
    have e : (n5 x0b x0n x0c Kn Kr h) = wpx none Tryd.prog 31 n5_c1 (Q4 (fun z0b z0n z0c z6 h => n6 z0b z0n z0c z6 Kn Kr h) Kr) ((⟨g.v, []⟩ : Env).upd (some 0) (.slice x0b x0n x0c)) h := by kernel_rfl
    exact e ▸ hS
  · intro e g' h' hq
    cases e with
    | normal =>
      have hq : D3 (fun z0b z0n z0c z6 h => n6 z0b z0n z0c z6 Kn Kr h) g' h' := hq
      obtain ⟨y0b, y0n, y0c, y6, hg', hq⟩ := D3_ok hq
      exact n6_ok y0b y0n y0c y6 Kn Kr g' hg' h' hq
    | _ => exact hq
abbrev n3 (x0b : Option Addr) (x0n : Nat) (x0c : Nat) (Kn : T0) (Kr : T0) (h : H) : Prop := n5 x0b x0n x0c (fun  h => n4 Kn Kr h) Kr h
theorem n3_ok (x0b : Option Addr) (x0n : Nat) (x0c : Nat) (Kn : T0) (Kr : T0) (g : Env) (hg : E1 g x0b x0n x0c) (h : H) (hS : n3 x0b x0n x0c Kn Kr h) : wpC none Tryd.prog 31 n2_c2 (Q0 Kn Kr) g h := by
  refine wpC_seq' (x := n3_c1) (y := n3_c2) (by kernel_rfl) (n5_ok x0b x0n x0c (fun  h => n4 Kn Kr h) Kr g hg h hS) ?_
  intro e g' h' hq
  cases e with
  | normal =>
    have hq : D2 (fun  h => n4 Kn Kr h) g' h' := hq
    obtain ⟨hg', hq⟩ := D2_ok hq
    exact n4_ok  Kn Kr g' hg' h' hq
  | _ => exact hq
def Q5 (Kn : T1) (Kr : T0) : XPost
  | .normal, g, h => D1 Kn g h
  | .ret, g, h => D0 Kr g h
  | _, _, _ => False
abbrev n2 (x0b : Option Addr) (x0n : Nat) (x0c : Nat) (Kn : T0) (Kr : T0) (h : H) : Prop :=
  HCalls Tryd.prog 30 ⟨[(.slice x0b x0n x0c)]⟩ h fun v24 h25 => vTup v24 fun l26 => uncons l26 fun e27 l28 => vInt .i32 e27 fun i29 => uncons l28 fun e30 l31 => vInt .i64 e30 fun i32 => unnil l31 (Spl (i29 = (65533 : Int)) (Spl (i32 = (1 : Int)) (n3 x0b x0n x0c Kn Kr h25) (Kr i32 true h25)) (Kr i32 true h25))
theorem n2_ok (x0b : Option Addr) (x0n : Nat) (x0c : Nat) (Kn : T0) (Kr : T0) (g : Env) (hg : E1 g x0b x0n x0c) (h : H) (hS : n2 x0b x0n x0c Kn Kr h) : wpC none Tryd.prog 31 n1_c2 (Q0 Kn Kr) g h := by
  obtain ⟨hg0, hds⟩ := hg
  refine wpC_seq' (x := n2_c1) (y := n2_c2) (Q' := (Q5 (fun z0b z0n z0c h => n3 z0b z0n z0c Kn Kr h) Kr)) (by kernel_rfl) ?_ ?_
  · refine wpC_of_wpx (by kernel_rfl) (by kernel_rfl) (g' := (⟨g.v, []⟩ : Env).upd (some 0) (.slice x0b x0n x0c)) (by rw [env_ds hds, upd_self hg0]) ?_
    have e : (n2 x0b x0n x0c Kn Kr h) = wpx none Tryd.prog 31 n2_c1 (Q5 (fun z0b z0n z0c h => n3 z0b z0n z0c Kn Kr h) Kr) ((⟨g.v, []⟩ : Env).upd (some 0) (.slice x0b x0n x0c)) h := by kernel_rfl
    exact e ▸ hS
  · intro e g' h' hq
    cases e with
    | normal =>
      have hq : D1 (fun z0b z0n z0c h => n3 z0b z0n z0c Kn Kr h) g' h' := hq
      obtain ⟨y0b, y0n, y0c, hg', hq⟩ := D1_ok hq
      exact n3_ok y0b y0n y0c Kn Kr g' hg' h' hq
    | _ => exact hq
abbrev n1 (x0b : Option Addr) (x0n : Nat) (x0c : Nat) (Kn : T0) (Kr : T0) (h : H) : Prop :=
  n2 x0b x0n x0c Kn Kr h
theorem n1_ok (x0b : Option Addr) (x0n : Nat) (x0c : Nat) (Kn : T0) (Kr : T0) (g : Env) (hg : E1 g x0b x0n x0c) (h : H) (hS : n1 x0b x0n x0c Kn Kr h) : wpC none Tryd.prog 31 code (Q0 Kn Kr) g h := by
  obtain ⟨hg0, hds⟩ := hg
  refine wpC_seq' (x := n1_c1) (y := n1_c2) (Q' := (Q5 (fun z0b z0n z0c h => n2 z0b z0n z0c Kn Kr h) Kr)) (by kernel_rfl) ?_ ?_
  · refine wpC_of_wpx (by kernel_rfl) (by kernel_rfl) (g' := (⟨g.v, []⟩ : Env).upd (some 0) (.slice x0b x0n x0c)) (by rw [env_ds hds, upd_self hg0]) ?_
    have e : (n1 x0b x0n x0c Kn Kr h) = wpx none Tryd.prog 31 n1_c1 (Q5 (fun z0b z0n z0c h => n2 z0b z0n z0c Kn Kr h) Kr) ((⟨g.v, []⟩ : Env).upd (some 0) (.slice x0b x0n x0c)) h := by kernel_rfl
    exact e ▸ hS
  · intro e g' h' hq
    cases e with
    | normal =>
      have hq : D1 (fun z0b z0n z0c h => n2 z0b z0n z0c Kn Kr h) g' h' := hq
      obtain ⟨y0b, y0n, y0c, hg', hq⟩ := D1_ok hq
      exact n2_ok y0b y0n y0c Kn Kr g' hg' h' hq
    | _ => exact hq
/-- WHAT tympan/utf.width ASKS -/
abbrev asks (x0b : Option Addr) (x0n : Nat) (x0c : Nat) (K : Value → H → Prop) (h : H) : Prop := n1 x0b x0n x0c (fun y2 y3 h => K (.tuple ⟨[(.int .i64 y2), (.bool y3)]⟩) h) (fun y2 y3 h => K (.tuple ⟨[(.int .i64 y2), (.bool y3)]⟩) h) h
theorem ok (x0b : Option Addr) (x0n : Nat) (x0c : Nat) (K : Value → H → Prop) (h : H) (hS : asks x0b x0n x0c K h) : HCalls Tryd.prog 21 ⟨[(.slice x0b x0n x0c)]⟩ h K := by
  refine calls_of_wpC (c := code) Tryd.func21 (by kernel_rfl) (Nat.le_of_ble_eq_true (by kernel_rfl)) ?_
  refine (n1_ok x0b x0n x0c (fun y2 y3 h => K (.tuple ⟨[(.int .i64 y2), (.bool y3)]⟩) h) (fun y2 y3 h => K (.tuple ⟨[(.int .i64 y2), (.bool y3)]⟩) h) (env0 [(.slice x0b x0n x0c)]) ⟨rfl, rfl⟩ h hS).mono ?_
  intro e g' h' hq
  cases e with
  | normal =>
    have hq : D0 (fun y2 y3 h => K (.tuple ⟨[(.int .i64 y2), (.bool y3)]⟩) h) g' h' := hq
    obtain ⟨y2, y3, ⟨hg2, hg3, hd⟩, hq⟩ := D0_ok hq
    show leaveX g'.ds h' _
    rw [hd]
    show K (.tuple ⟨[(g'.v 2), (g'.v 3)]⟩) h'
    rw [hg2, hg3]
    exact hq
  | ret =>
    have hq : D0 (fun y2 y3 h => K (.tuple ⟨[(.int .i64 y2), (.bool y3)]⟩) h) g' h' := hq
    obtain ⟨y2, y3, ⟨hg2, hg3, hd⟩, hq⟩ := D0_ok hq
    show leaveX g'.ds h' _
    rw [hd]
    show K (.tuple ⟨[(g'.v 2), (g'.v 3)]⟩) h'
    rw [hg2, hg3]
    exact hq
  | _ => exact hq
end Sx.utf_width

/-! ### tympan/utf.Lines$1 -/
namespace Sx.utf_Lines_1
noncomputable def code : Code := bodyOf Tryd.f28
abbrev T0 := (List UInt8) → Bool → H → Prop
def E0 (g : Env) (x2 : List UInt8) (x3 : Bool) : Prop := g.v 2 = (S x2) ∧ g.v 3 = (.bool x3) ∧ g.ds = []
def D0 (K : T0) (g : Env) (h : H) : Prop := nilDs g.ds (vStr (g.v 2) fun s1 => vBool (g.v 3) fun b2 => K s1 b2 h)
theorem D0_ok {K : T0} {g : Env} {h : H} (hq : D0 K g h) : ∃ (x2 : List UInt8) (x3 : Bool), E0 g x2 x3 ∧ K x2 x3 h := by
  obtain ⟨hd, hq⟩ := nilDs_ok hq
  obtain ⟨y4, e3, q5⟩ := vStr_ok hq
  obtain ⟨y7, e6, q8⟩ := vBool_ok q5
  exact ⟨y4, y7, ⟨e3, e6, hd⟩, q8⟩
def Q0 (Kn : T0) (Kr : T0) : XPost
  | .normal, g, h => D0 Kn g h
  | .ret, g, h => D0 Kr g h
  | _, _, _ => False
abbrev T1 := Addr → Addr → H → Prop
def E1 (g : Env) (x0 : Addr) (x1 : Addr) : Prop := g.v 0 = (.pointer (some x0)) ∧ g.v 1 = (.pointer (some x1)) ∧ g.ds = []
def D1 (K : T1) (g : Env) (h : H) : Prop := nilDs g.ds (vAddr (g.v 0) fun a9 => vAddr (g.v 1) fun a10 => K a9 a10 h)
theorem D1_ok {K : T1} {g : Env} {h : H} (hq : D1 K g h) : ∃ (x0 : Addr) (x1 : Addr), E1 g x0 x1 ∧ K x0 x1 h := by
  obtain ⟨hd, hq⟩ := nilDs_ok hq
  obtain ⟨y12, e11, q13⟩ := vAddr_ok hq
  obtain ⟨y15, e14, q16⟩ := vAddr_ok q13
  exact ⟨y12, y15, ⟨e11, e14, hd⟩, q16⟩
abbrev n1 (x0 : Addr) (x1 : Addr) (Kn : T0) (Kr : T0) (h : H) : Prop :=
  ∃ i17, cell h x0 = some (.int .i64 i17) ∧ (∃ s18, cell h x1 = some (S s18) ∧ (Spl (i17 ≥ (s18.length : Int)) (Kr ([] : List UInt8) false h) (∃ s19, cell h x1 = some (S s19) ∧ (∃ i20, cell h x0 = some (.int .i64 i20) ∧ ((0 ≤ i20 ∧ i20 ≤ (s19.length : Int) ∧ (s19.length : Int) ≤ (s19.length : Int)) ∧ (HCalls Tryd.prog 29 ⟨[(S (sub s19 i20 (s19.length : Int))), (S ([10] : List UInt8))]⟩ h fun v21 h22 => vTup v21 fun l23 => uncons l23 fun e24 l25 => vStr e24 fun s26 => uncons l25 fun e27 l28 => vStr e27 fun s29 => uncons l28 fun e30 l31 => vBool e30 fun b32 => unnil l31 (cond b32 (∃ i33, cell h22 x0 = some (.int .i64 i33) ∧ (Rng .i64 ((s26.length : Int) + (1 : Int)) ∧ (Rng .i64 (i33 + ((s26.length : Int) + (1 : Int))) ∧ (stL x0 [(.int .i64 (i33 + ((s26.length : Int) + (1 : Int))))] 0 h22 fun h34 => Kr s26 true h34)))) (∃ i35, cell h22 x0 = some (.int .i64 i35) ∧ (Rng .i64 ((s26.length : Int) + (1 : Int)) ∧ (Rng .i64 (i35 + ((s26.length : Int) + (1 : Int))) ∧ (stL x0 [(.int .i64 (i35 + ((s26.length : Int) + (1 : Int))))] 0 h22 fun h36 => Kr s26 true h36)))))))))))
theorem n1_ok (x0 : Addr) (x1 : Addr) (Kn : T0) (Kr : T0) (g : Env) (hg : E1 g x0 x1) (h : H) (hS : n1 x0 x1 Kn Kr h) : wpC none Tryd.prog 25 code (Q0 Kn Kr) g h := by
  obtain ⟨hg0, hg1, hds⟩ := hg
  refine wpC_of_wpx (by kernel_rfl) (by kernel_rfl) (g' := ((⟨g.v, []⟩ : Env).upd (some 0) (.pointer (some x0))).upd (some 1) (.pointer (some x1))) (by rw [env_ds hds, upd_self hg0, upd_self hg1]) ?_
  have e : (n1 x0 x1 Kn Kr h) = wpx none Tryd.prog 25 code (Q0 Kn Kr) (((⟨g.v, []⟩ : Env).upd (some 0) (.pointer (some x0))).upd (some 1) (.pointer (some x1))) h := by kernel_rfl
  exact e ▸ hS
/-- WHAT tympan/utf.Lines$1 ASKS -/
abbrev asks (x0 : Addr) (x1 : Addr) (K : Value → H → Prop) (h : H) : Prop := n1 x0 x1 (fun y2 y3 h => K (.tuple ⟨[(S y2), (.bool y3)]⟩) h) (fun y2 y3 h => K (.tuple ⟨[(S y2), (.bool y3)]⟩) h) h
theorem ok (x0 : Addr) (x1 : Addr) (K : Value → H → Prop) (h : H) (hS : asks x0 x1 K h) : HCalls Tryd.prog 28 ⟨[(.pointer (some x0)), (.pointer (some x1))]⟩ h K := by
  refine calls_of_wpC (c := code) Tryd.func28 (by kernel_rfl) (Nat.le_of_ble_eq_true (by kernel_rfl)) ?_
  refine (n1_ok x0 x1 (fun y2 y3 h => K (.tuple ⟨[(S y2), (.bool y3)]⟩) h) (fun y2 y3 h => K (.tuple ⟨[(S y2), (.bool y3)]⟩) h) (env0 [(.pointer (some x0)), (.pointer (some x1))]) ⟨rfl, rfl, rfl⟩ h hS).mono ?_
  intro e g' h' hq
  cases e with
  | normal =>
    have hq : D0 (fun y2 y3 h => K (.tuple ⟨[(S y2), (.bool y3)]⟩) h) g' h' := hq
    obtain ⟨y2, y3, ⟨hg2, hg3, hd⟩, hq⟩ := D0_ok hq
    show leaveX g'.ds h' _
    rw [hd]
    show K (.tuple ⟨[(g'.v 2), (g'.v 3)]⟩) h'
    rw [hg2, hg3]
    exact hq
  | ret =>
    have hq : D0 (fun y2 y3 h => K (.tuple ⟨[(S y2), (.bool y3)]⟩) h) g' h' := hq
    obtain ⟨y2, y3, ⟨hg2, hg3, hd⟩, hq⟩ := D0_ok hq
    show leaveX g'.ds h' _
    rw [hd]
    show K (.tuple ⟨[(g'.v 2), (g'.v 3)]⟩) h'
    rw [hg2, hg3]
    exact hq
  | _ => exact hq
end Sx.utf_Lines_1

/-! ### unicode/utf8.DecodeRune -/
namespace Sx.unicode_utf8_DecodeRune
noncomputable def code : Code := bodyOf Tryd.f30
abbrev T0 := Int → Int → H → Prop
def E0 (g : Env) (x2 : Int) (x3 : Int) : Prop := g.v 2 = (.int .i32 x2) ∧ g.v 3 = (.int .i64 x3) ∧ g.ds = []
def D0 (K : T0) (g : Env) (h : H) : Prop := nilDs g.ds (vInt .i32 (g.v 2) fun i1 => vInt .i64 (g.v 3) fun i2 => K i1 i2 h)
theorem D0_ok {K : T0} {g : Env} {h : H} (hq : D0 K g h) : ∃ (x2 : Int) (x3 : Int), E0 g x2 x3 ∧ K x2 x3 h := by
  obtain ⟨hd, hq⟩ := nilDs_ok hq
  obtain ⟨y4, e3, q5⟩ := vInt_ok hq
  obtain ⟨y7, e6, q8⟩ := vInt_ok q5
  exact ⟨y4, y7, ⟨e3, e6, hd⟩, q8⟩
def Q0 (Kn : T0) (Kr : T0) : XPost
  | .normal, g, h => D0 Kn g h
  | .ret, g, h => D0 Kr g h
  | _, _, _ => False
abbrev T1 := (Option Addr) → Nat → Nat → H → Prop
def E1 (g : Env) (x0b : Option Addr) (x0n : Nat) (x0c : Nat) : Prop := g.v 0 = (.slice x0b x0n x0c) ∧ g.ds = []
def D1 (K : T1) (g : Env) (h : H) : Prop := nilDs g.ds (vSlice (g.v 0) fun s9b s9n s9c => K s9b s9n s9c h)
theorem D1_ok {K : T1} {g : Env} {h : H} (hq : D1 K g h) : ∃ (x0b : Option Addr) (x0n : Nat) (x0c : Nat), E1 g x0b x0n x0c ∧ K x0b x0n x0c h := by
  obtain ⟨hd, hq⟩ := nilDs_ok hq
  obtain ⟨y11b, y11n, y11c, e10, q12⟩ := vSlice_ok hq
  exact ⟨y11b, y11n, y11c, ⟨e10, hd⟩, q12⟩
noncomputable def n1_c1 : Code := cFst code
noncomputable def n1_c2 : Code := cSnd code
noncomputable def n2_c1 : Code := cFst n1_c2
noncomputable def n2_c2 : Code := cSnd n1_c2
abbrev n3 (x0b : Option Addr) (x0n : Nat) (x0c : Nat) (Kn : T0) (Kr : T0) (h : H) : Prop :=
  HCalls Tryd.prog 38 ⟨[(.slice x0b x0n x0c)]⟩ h fun v13 h14 => vTup v13 fun l15 => uncons l15 fun e16 l17 => vInt .i32 e16 fun i18 => uncons l17 fun e19 l20 => vInt .i64 e19 fun i21 => unnil l20 (Kr i18 i21 h14)
theorem n3_ok (x0b : Option Addr) (x0n : Nat) (x0c : Nat) (Kn : T0) (Kr : T0) (g : Env) (hg : E1 g x0b x0n x0c) (h : H) (hS : n3 x0b x0n x0c Kn Kr h) : wpC none Tryd.prog 22 n2_c2 (Q0 Kn Kr) g h := by
  obtain ⟨hg0, hds⟩ := hg
  refine wpC_of_wpx (by kernel_rfl) (by kernel_rfl) (g' := (⟨g.v, []⟩ : Env).upd (some 0) (.slice x0b x0n x0c)) (by rw [env_ds hds, upd_self hg0]) ?_
  have e : (n3 x0b x0n x0c Kn Kr h) = wpx none Tryd.prog 22 n2_c2 (Q0 Kn Kr) ((⟨g.v, []⟩ : Env).upd (some 0) (.slice x0b x0n x0c)) h := by kernel_rfl
  exact e ▸ hS
def Q1 (Kn : T1) (Kr : T0) : XPost
  | .normal, g, h => D1 Kn g h
  | .ret, g, h => D0 Kr g h
  | _, _, _ => False
noncomputable def n4_c1 : Code := cFst n2_c1
noncomputable def n4_c2 : Code := cSnd n2_c1
abbrev T2 := (Option Addr) → Nat → Nat → (Option Addr) → Nat → Nat → Int → Int → H → Prop
def E2 (g : Env) (x0b : Option Addr) (x0n : Nat) (x0c : Nat) (x6b : Option Addr) (x6n : Nat) (x6c : Nat) (x7 : Int) (x8 : Int) : Prop := g.v 0 = (.slice x0b x0n x0c) ∧ g.v 6 = (.slice x6b x6n x6c) ∧ g.v 7 = (.int .i64 x7) ∧ g.v 8 = (.int .i64 x8) ∧ g.ds = []
def D2 (K : T2) (g : Env) (h : H) : Prop := nilDs g.ds (vSlice (g.v 0) fun s22b s22n s22c => vSlice (g.v 6) fun s23b s23n s23c => vInt .i64 (g.v 7) fun i24 => vInt .i64 (g.v 8) fun i25 => K s22b s22n s22c s23b s23n s23c i24 i25 h)
theorem D2_ok {K : T2} {g : Env} {h : H} (hq : D2 K g h) : ∃ (x0b : Option Addr) (x0n : Nat) (x0c : Nat) (x6b : Option Addr) (x6n : Nat) (x6c : Nat) (x7 : Int) (x8 : Int), E2 g x0b x0n x0c x6b x6n x6c x7 x8 ∧ K x0b x0n x0c x6b x6n x6c x7 x8 h := by
  obtain ⟨hd, hq⟩ := nilDs_ok hq
  obtain ⟨y27b, y27n, y27c, e26, q28⟩ := vSlice_ok hq
  obtain ⟨y30b, y30n, y30c, e29, q31⟩ := vSlice_ok q28
  obtain ⟨y33, e32, q34⟩ := vInt_ok q31
  obtain ⟨y36, e35, q37⟩ := vInt_ok q34
  exact ⟨y27b, y27n, y27c, y30b, y30n, y30c, y33, y36, ⟨e26, e29, e32, e35, hd⟩, q37⟩
noncomputable def n5_c1 : Code := cFst n4_c2
def Q2 (Kn : T1) (Ke0 : T1) (Kr : T0) : XPost
  | .normal, g, h => D1 Kn g h
  | .ret, g, h => D0 Kr g h
  | .exit id, g, h => cond (Nat.beq id 0) (D1 Ke0 g h) (False)
  | _, _, _ => False
noncomputable def n6_c1 : Code := cFst n5_c1
def Q3 (Kn : T2) (Ke0 : T1) (Kr : T0) : XPost
  | .normal, g, h => D2 Kn g h
  | .ret, g, h => D0 Kr g h
  | .exit id, g, h => cond (Nat.beq id 0) (D1 Ke0 g h) (False)
  | _, _, _ => False
def n6_L (Kn : T1) (Ke0 : T1) (Kr : T0) : Nat → (Option Addr) → Nat → Nat → (Option Addr) → Nat → Nat → Int → Int → H → Prop
  | 0 => fun _ _ _ _ _ _ _ _ _ => False
  | N + 1 => fun x0b x0n x0c x6b x6n x6c x7 x8 h => Spl (x8 < x7) ((0 ≤ x8 ∧ x8 < (x6n : Int)) ∧ (vSome x6b fun a38 => ∃ i39, cell h (a38.add (Int.toNat x8 * 1)) = some (.int .u8 i39) ∧ (Spl (i39 < (128 : Int)) (Rng .i32 i39 ∧ (Kr i39 (1 : Int) h)) (Ke0 x0b x0n x0c h)))) (Ke0 x0b x0n x0c h)
abbrev n6 (x0b : Option Addr) (x0n : Nat) (x0c : Nat) (x6b : Option Addr) (x6n : Nat) (x6c : Nat) (x7 : Int) (x8 : Int) (Kn : T1) (Ke0 : T1) (Kr : T0) (h : H) : Prop := ∃ N, n6_L Kn Ke0 Kr N x0b x0n x0c x6b x6n x6c x7 x8 h
theorem n6_ok (x0b : Option Addr) (x0n : Nat) (x0c : Nat) (x6b : Option Addr) (x6n : Nat) (x6c : Nat) (x7 : Int) (x8 : Int) (Kn : T1) (Ke0 : T1) (Kr : T0) (g : Env) (hg : E2 g x0b x0n x0c x6b x6n x6c x7 x8) (h : H) (hS : n6 x0b x0n x0c x6b x6n x6c x7 x8 Kn Ke0 Kr h) : wpC none Tryd.prog 22 n5_c1 (Q2 Kn Ke0 Kr) g h := by
  obtain ⟨N0, hS⟩ := hS
  refine wpC_loop' (x := n6_c1) (by kernel_rfl) (fun k g h => ∃ (x0b : Option Addr) (x0n : Nat) (x0c : Nat) (x6b : Option Addr) (x6n : Nat) (x6c : Nat) (x7 : Int) (x8 : Int), E2 g x0b x0n x0c x6b x6n x6c x7 x8 ∧ n6_L Kn Ke0 Kr k x0b x0n x0c x6b x6n x6c x7 x8 h) (fun g h hr => ?_) (fun N g h hr => ?_) N0 ⟨x0b, x0n, x0c, x6b, x6n, x6c, x7, x8, hg, hS⟩
  · obtain ⟨x0b, x0n, x0c, x6b, x6n, x6c, x7, x8, hg, hS⟩ := hr
    exact hS.elim
  · obtain ⟨x0b, x0n, x0c, x6b, x6n, x6c, x7, x8, hg, hS⟩ := hr
    have hw : wpC none Tryd.prog 22 n6_c1 (Q3 (fun z0b z0n z0c z6b z6n z6c z7 z8 h => n6_L Kn Ke0 Kr N z0b z0n z0c z6b z6n z6c z7 z8 h) Ke0 Kr) g h := by
      obtain ⟨hg0, hg6, hg7, hg8, hds⟩ := hg
      refine wpC_of_wpx (by kernel_rfl) (by kernel_rfl) (g' := ((((⟨g.v, []⟩ : Env).upd (some 0) (.slice x0b x0n x0c)).upd (some 6) (.slice x6b x6n x6c)).upd (some 7) (.int .i64 x7)).upd (some 8) (.int .i64 x8)) (by rw [env_ds hds, upd_self hg0, upd_self hg6, upd_self hg7, upd_self hg8]) ?_
      have e : (n6_L Kn Ke0 Kr (N + 1) x0b x0n x0c x6b x6n x6c x7 x8 h) = wpx none Tryd.prog 22 n6_c1 (Q3 (fun z0b z0n z0c z6b z6n z6c z7 z8 h => n6_L Kn Ke0 Kr N z0b z0n z0c z6b z6n z6c z7 z8 h) Ke0 Kr) (((((⟨g.v, []⟩ : Env).upd (some 0) (.slice x0b x0n x0c)).upd (some 6) (.slice x6b x6n x6c)).upd (some 7) (.int .i64 x7)).upd (some 8) (.int .i64 x8)) h := by kernel_rfl
      exact e ▸ hS
    refine hw.mono ?_
    intro e g' h' hq
    cases e with
    | normal => exact D2_ok (K := (fun z0b z0n z0c z6b z6n z6c z7 z8 h => n6_L Kn Ke0 Kr N z0b z0n z0c z6b z6n z6c z7 z8 h)) hq
    | _ => exact hq
abbrev n5 (x0b : Option Addr) (x0n : Nat) (x0c : Nat) (x6b : Option Addr) (x6n : Nat) (x6c : Nat) (x7 : Int) (x8 : Int) (Kn : T1) (Kr : T0) (h : H) : Prop := n6 x0b x0n x0c x6b x6n x6c x7 x8 Kn Kn Kr h
theorem n5_ok (x0b : Option Addr) (x0n : Nat) (x0c : Nat) (x6b : Option Addr) (x6n : Nat) (x6c : Nat) (x7 : Int) (x8 : Int) (Kn : T1) (Kr : T0) (g : Env) (hg : E2 g x0b x0n x0c x6b x6n x6c x7 x8) (h : H) (hS : n5 x0b x0n x0c x6b x6n x6c x7 x8 Kn Kr h) : wpC none Tryd.prog 22 n4_c2 (Q1 Kn Kr) g h := by
  refine wpC_block' (id := 0) (x := n5_c1) (by kernel_rfl) (n6_ok x0b x0n x0c x6b x6n x6c x7 x8 Kn Kn Kr g hg h hS) ?_
  intro e g' h' hq
  cases e <;> exact hq
def Q4 (Kn : T2) (Kr : T0) : XPost
  | .normal, g, h => D2 Kn g h
  | .ret, g, h => D0 Kr g h
  | _, _, _ => False
abbrev n4 (x0b : Option Addr) (x0n : Nat) (x0c : Nat) (Kn : T1) (Kr : T0) (h : H) : Prop :=
  n5 x0b x0n x0c x0b x0n x0c (x0n : Int) (0 : Int) Kn Kr h
theorem n4_ok (x0b : Option Addr) (x0n : Nat) (x0c : Nat) (Kn : T1) (Kr : T0) (g : Env) (hg : E1 g x0b x0n x0c) (h : H) (hS : n4 x0b x0n x0c Kn Kr h) : wpC none Tryd.prog 22 n2_c1 (Q1 Kn Kr) g h := by
  obtain ⟨hg0, hds⟩ := hg
  refine wpC_seq' (x := n4_c1) (y := n4_c2) (Q' := (Q4 (fun z0b z0n z0c z6b z6n z6c z7 z8 h => n5 z0b z0n z0c z6b z6n z6c z7 z8 Kn Kr h) Kr)) (by kernel_rfl) ?_ ?_
  · refine wpC_of_wpx (by kernel_rfl) (by kernel_rfl) (g' := (⟨g.v, []⟩ : Env).upd (some 0) (.slice x0b x0n x0c)) (by rw [env_ds hds, upd_self hg0]) ?_
    have e : (n4 x0b x0n x0c Kn Kr h) = wpx none Tryd.prog 22 n4_c1 (Q4 (fun z0b z0n z0c z6b z6n z6c z7 z8 h => n5 z0b z0n z0c z6b z6n z6c z7 z8 Kn Kr h) Kr) ((⟨g.v, []⟩ : Env).upd (some 0) (.slice x0b x0n x0c)) h := by kernel_rfl
    exact e ▸ hS
  · intro e g' h' hq
    cases e with
    | normal =>
      have hq : D2 (fun z0b z0n z0c z6b z6n z6c z7 z8 h => n5 z0b z0n z0c z6b z6n z6c z7 z8 Kn Kr h) g' h' := hq
      obtain ⟨y0b, y0n, y0c, y6b, y6n, y6c, y7, y8, hg', hq⟩ := D2_ok hq
      exact n5_ok y0b y0n y0c y6b y6n y6c y7 y8 Kn Kr g' hg' h' hq
    | _ => exact hq
abbrev n2 (x0b : Option Addr) (x0n : Nat) (x0c : Nat) (Kn : T0) (Kr : T0) (h : H) : Prop := n4 x0b x0n x0c (fun z0b z0n z0c h => n3 z0b z0n z0c Kn Kr h) Kr h
theorem n2_ok (x0b : Option Addr) (x0n : Nat) (x0c : Nat) (Kn : T0) (Kr : T0) (g : Env) (hg : E1 g x0b x0n x0c) (h : H) (hS : n2 x0b x0n x0c Kn Kr h) : wpC none Tryd.prog 22 n1_c2 (Q0 Kn Kr) g h := by
  refine wpC_seq' (x := n2_c1) (y := n2_c2) (by kernel_rfl) (n4_ok x0b x0n x0c (fun z0b z0n z0c h => n3 z0b z0n z0c Kn Kr h) Kr g hg h hS) ?_
  intro e g' h' hq
  cases e with
  | normal =>
    have hq : D1 (fun z0b z0n z0c h => n3 z0b z0n z0c Kn Kr h) g' h' := hq
    obtain ⟨y0b, y0n, y0c, hg', hq⟩ := D1_ok hq
    exact n3_ok y0b y0n y0c Kn Kr g' hg' h' hq
  | _ => exact hq
abbrev n1 (x0b : Option Addr) (x0n : Nat) (x0c : Nat) (Kn : T0) (Kr : T0) (h : H) : Prop :=
  n2 x0b x0n x0c Kn Kr h
theorem n1_ok (x0b : Option Addr) (x0n : Nat) (x0c : Nat) (Kn : T0) (Kr : T0) (g : Env) (hg : E1 g x0b x0n x0c) (h : H) (hS : n1 x0b x0n x0c Kn Kr h) : wpC none Tryd.prog 22 code (Q0 Kn Kr) g h := by
  obtain ⟨hg0, hds⟩ := hg
  refine wpC_seq' (x := n1_c1) (y := n1_c2) (Q' := (Q1 (fun z0b z0n z0c h => n2 z0b z0n z0c Kn Kr h) Kr)) (by kernel_rfl) ?_ ?_
  · refine wpC_of_wpx (by kernel_rfl) (by kernel_rfl) (g' := (⟨g.v, []⟩ : Env).upd (some 0) (.slice x0b x0n x0c)) (by rw [env_ds hds, upd_self hg0]) ?_
    have e : (n1 x0b x0n x0c Kn Kr h) = wpx none Tryd.prog 22 n1_c1 (Q1 (fun z0b z0n z0c h => n2 z0b z0n z0c Kn Kr h) Kr) ((⟨g.v, []⟩ : Env).upd (some 0) (.slice x0b x0n x0c)) h := by kernel_rfl
    exact e ▸ hS
  · intro e g' h' hq
    cases e with
    | normal =>
      have hq : D1 (fun z0b z0n z0c h => n2 z0b z0n z0c Kn Kr h) g' h' := hq
      obtain ⟨y0b, y0n, y0c, hg', hq⟩ := D1_ok hq
      exact n2_ok y0b y0n y0c Kn Kr g' hg' h' hq
    | _ => exact hq
/-- WHAT unicode/utf8.DecodeRune ASKS -/
abbrev asks (x0b : Option Addr) (x0n : Nat) (x0c : Nat) (K : Value → H → Prop) (h : H) : Prop := n1 x0b x0n x0c (fun y2 y3 h => K (.tuple ⟨[(.int .i32 y2), (.int .i64 y3)]⟩) h) (fun y2 y3 h => K (.tuple ⟨[(.int .i32 y2), (.int .i64 y3)]⟩) h) h
theorem ok (x0b : Option Addr) (x0n : Nat) (x0c : Nat) (K : Value → H → Prop) (h : H) (hS : asks x0b x0n x0c K h) : HCalls Tryd.prog 30 ⟨[(.slice x0b x0n x0c)]⟩ h K := by
  refine calls_of_wpC (c := code) Tryd.func30 (by kernel_rfl) (Nat.le_of_ble_eq_true (by kernel_rfl)) ?_
  refine (n1_ok x0b x0n x0c (fun y2 y3 h => K (.tuple ⟨[(.int .i32 y2), (.int .i64 y3)]⟩) h) (fun y2 y3 h => K (.tuple ⟨[(.int .i32 y2), (.int .i64 y3)]⟩) h) (env0 [(.slice x0b x0n x0c)]) ⟨rfl, rfl⟩ h hS).mono ?_
  intro e g' h' hq
  cases e with
  | normal =>
    have hq : D0 (fun y2 y3 h => K (.tuple ⟨[(.int .i32 y2), (.int .i64 y3)]⟩) h) g' h' := hq
    obtain ⟨y2, y3, ⟨hg2, hg3, hd⟩, hq⟩ := D0_ok hq
    show leaveX g'.ds h' _
    rw [hd]
    show K (.tuple ⟨[(g'.v 2), (g'.v 3)]⟩) h'
    rw [hg2, hg3]
    exact hq
  | ret =>
    have hq : D0 (fun y2 y3 h => K (.tuple ⟨[(.int .i32 y2), (.int .i64 y3)]⟩) h) g' h' := hq
    obtain ⟨y2, y3, ⟨hg2, hg3, hd⟩, hq⟩ := D0_ok hq
    show leaveX g'.ds h' _
    rw [hd]
    show K (.tuple ⟨[(g'.v 2), (g'.v 3)]⟩) h'
    rw [hg2, hg3]
    exact hq
  | _ => exact hq
end Sx.unicode_utf8_DecodeRune

/-! ### tympan/utf.begins -/
namespace Sx.utf_begins
noncomputable def code : Code := bodyOf Tryd.f31
abbrev T0 := Bool → H → Prop
def E0 (g : Env) (x2 : Bool) : Prop := g.v 2 = (.bool x2) ∧ g.ds = []
def D0 (K : T0) (g : Env) (h : H) : Prop := nilDs g.ds (vBool (g.v 2) fun b1 => K b1 h)
theorem D0_ok {K : T0} {g : Env} {h : H} (hq : D0 K g h) : ∃ (x2 : Bool), E0 g x2 ∧ K x2 h := by
  obtain ⟨hd, hq⟩ := nilDs_ok hq
  obtain ⟨y3, e2, q4⟩ := vBool_ok hq
  exact ⟨y3, ⟨e2, hd⟩, q4⟩
def Q0 (Kn : T0) (Kr : T0) : XPost
  | .normal, g, h => D0 Kn g h
  | .ret, g, h => D0 Kr g h
  | _, _, _ => False
abbrev T1 := (Option Addr) → Nat → Nat → H → Prop
def E1 (g : Env) (x0b : Option Addr) (x0n : Nat) (x0c : Nat) : Prop := g.v 0 = (.slice x0b x0n x0c) ∧ g.ds = []
def D1 (K : T1) (g : Env) (h : H) : Prop := nilDs g.ds (vSlice (g.v 0) fun s5b s5n s5c => K s5b s5n s5c h)
theorem D1_ok {K : T1} {g : Env} {h : H} (hq : D1 K g h) : ∃ (x0b : Option Addr) (x0n : Nat) (x0c : Nat), E1 g x0b x0n x0c ∧ K x0b x0n x0c h := by
  obtain ⟨hd, hq⟩ := nilDs_ok hq
  obtain ⟨y7b, y7n, y7c, e6, q8⟩ := vSlice_ok hq
  exact ⟨y7b, y7n, y7c, ⟨e6, hd⟩, q8⟩
noncomputable def n1_c1 : Code := cFst code
noncomputable def n1_c2 : Code := cSnd code
noncomputable def n2_c1 : Code := cFst n1_c2
noncomputable def n2_c2 : Code := cSnd n1_c2
abbrev T2 := H → Prop
def E2 (g : Env)  : Prop := g.ds = []
def D2 (K : T2) (g : Env) (h : H) : Prop := nilDs g.ds (K h)
theorem D2_ok {K : T2} {g : Env} {h : H} (hq : D2 K g h) : E2 g  ∧ K  h := by
  obtain ⟨hd, hq⟩ := nilDs_ok hq
  skip
  exact ⟨hd, hq⟩
abbrev n3  (Kn : T0) (Kr : T0) (h : H) : Prop :=
  Kr false h
theorem n3_ok  (Kn : T0) (Kr : T0) (g : Env) (hg : E2 g ) (h : H) (hS : n3  Kn Kr h) : wpC none Tryd.prog 41 n2_c2 (Q0 Kn Kr) g h := by
  have hds : g.ds = [] := hg
  refine wpC_of_wpx (by kernel_rfl) (by kernel_rfl) (g' := ⟨g.v, []⟩) (by rw [env_ds hds]) ?_
  have e : (n3  Kn Kr h) = wpx none Tryd.prog 41 n2_c2 (Q0 Kn Kr) (⟨g.v, []⟩) h := by kernel_rfl
  exact e ▸ hS
def Q1 (Kn : T2) (Kr : T0) : XPost
  | .normal, g, h => D2 Kn g h
  | .ret, g, h => D0 Kr g h
  | _, _, _ => False
noncomputable def n4_c1 : Code := cFst n2_c1
noncomputable def n4_c2 : Code := cSnd n2_c1
abbrev T3 := (Option Addr) → Nat → Nat → (Option Addr) → Nat → Nat → Int → Int → H → Prop
def E3 (g : Env) (x0b : Option Addr) (x0n : Nat) (x0c : Nat) (x8b : Option Addr) (x8n : Nat) (x8c : Nat) (x9 : Int) (x10 : Int) : Prop := g.v 0 = (.slice x0b x0n x0c) ∧ g.v 8 = (.slice x8b x8n x8c) ∧ g.v 9 = (.int .i64 x9) ∧ g.v 10 = (.int .i64 x10) ∧ g.ds = []
def D3 (K : T3) (g : Env) (h : H) : Prop := nilDs g.ds (vSlice (g.v 0) fun s9b s9n s9c => vSlice (g.v 8) fun s10b s10n s10c => vInt .i64 (g.v 9) fun i11 => vInt .i64 (g.v 10) fun i12 => K s9b s9n s9c s10b s10n s10c i11 i12 h)
theorem D3_ok {K : T3} {g : Env} {h : H} (hq : D3 K g h) : ∃ (x0b : Option Addr) (x0n : Nat) (x0c : Nat) (x8b : Option Addr) (x8n : Nat) (x8c : Nat) (x9 : Int) (x10 : Int), E3 g x0b x0n x0c x8b x8n x8c x9 x10 ∧ K x0b x0n x0c x8b x8n x8c x9 x10 h := by
  obtain ⟨hd, hq⟩ := nilDs_ok hq
  obtain ⟨y14b, y14n, y14c, e13, q15⟩ := vSlice_ok hq
  obtain ⟨y17b, y17n, y17c, e16, q18⟩ := vSlice_ok q15
  obtain ⟨y20, e19, q21⟩ := vInt_ok q18
  obtain ⟨y23, e22, q24⟩ := vInt_ok q21
  exact ⟨y14b, y14n, y14c, y17b, y17n, y17c, y20, y23, ⟨e13, e16, e19, e22, hd⟩, q24⟩
noncomputable def n5_c1 : Code := cFst n4_c2
def Q2 (Kn : T2) (Ke0 : T2) (Kr : T0) : XPost
  | .normal, g, h => D2 Kn g h
  | .ret, g, h => D0 Kr g h
  | .exit id, g, h => cond (Nat.beq id 0) (D2 Ke0 g h) (False)
  | _, _, _ => False
noncomputable def n6_c1 : Code := cFst n5_c1
def Q3 (Kn : T3) (Ke0 : T2) (Kr : T0) : XPost
  | .normal, g, h => D3 Kn g h
  | .ret, g, h => D0 Kr g h
  | .exit id, g, h => cond (Nat.beq id 0) (D2 Ke0 g h) (False)
  | _, _, _ => False
noncomputable def n7_c1 : Code := cFst n6_c1
noncomputable def n7_c2 : Code := cSnd n6_c1
abbrev T4 := (Option Addr) → Nat → Nat → (Option Addr) → Nat → Nat → Int → Int → Value → H → Prop
def E4 (g : Env) (x0b : Option Addr) (x0n : Nat) (x0c : Nat) (x8b : Option Addr) (x8n : Nat) (x8c : Nat) (x9 : Int) (x10 : Int) (x11 : Value) : Prop := g.v 0 = (.slice x0b x0n x0c) ∧ g.v 8 = (.slice x8b x8n x8c) ∧ g.v 9 = (.int .i64 x9) ∧ g.v 10 = (.int .i64 x10) ∧ g.v 11 = x11 ∧ g.ds = []
def D4 (K : T4) (g : Env) (h : H) : Prop := nilDs g.ds (vSlice (g.v 0) fun s25b s25n s25c => vSlice (g.v 8) fun s26b s26n s26c => vInt .i64 (g.v 9) fun i27 => vInt .i64 (g.v 10) fun i28 => K s25b s25n s25c s26b s26n s26c i27 i28 (g.v 11) h)
theorem D4_ok {K : T4} {g : Env} {h : H} (hq : D4 K g h) : ∃ (x0b : Option Addr) (x0n : Nat) (x0c : Nat) (x8b : Option Addr) (x8n : Nat) (x8c : Nat) (x9 : Int) (x10 : Int) (x11 : Value), E4 g x0b x0n x0c x8b x8n x8c x9 x10 x11 ∧ K x0b x0n x0c x8b x8n x8c x9 x10 x11 h := by
  obtain ⟨hd, hq⟩ := nilDs_ok hq
  obtain ⟨y30b, y30n, y30c, e29, q31⟩ := vSlice_ok hq
  obtain ⟨y33b, y33n, y33c, e32, q34⟩ := vSlice_ok q31
  obtain ⟨y36, e35, q37⟩ := vInt_ok q34
  obtain ⟨y39, e38, q40⟩ := vInt_ok q37
  exact ⟨y30b, y30n, y30c, y33b, y33n, y33c, y36, y39, (g.v 11), ⟨e29, e32, e35, e38, rfl, hd⟩, q40⟩
noncomputable def n8_c1 : Code := cFst n7_c2
noncomputable def n8_c2 : Code := cSnd n7_c2
noncomputable def n9_c1 : Code := cFst n8_c2
noncomputable def n9_c2 : Code := cSnd n8_c2
abbrev n10 (x0b : Option Addr) (x0n : Nat) (x0c : Nat) (x8b : Option Addr) (x8n : Nat) (x8c : Nat) (x9 : Int) (x10 : Int) (Kn : T3) (Ke0 : T2) (Kr : T0) (h : H) : Prop :=
  Rng .i64 (x10 + (1 : Int)) ∧ (Kn x0b x0n x0c x8b x8n x8c x9 (x10 + (1 : Int)) h)
theorem n10_ok (x0b : Option Addr) (x0n : Nat) (x0c : Nat) (x8b : Option Addr) (x8n : Nat) (x8c : Nat) (x9 : Int) (x10 : Int) (Kn : T3) (Ke0 : T2) (Kr : T0) (g : Env) (hg : E3 g x0b x0n x0c x8b x8n x8c x9 x10) (h : H) (hS : n10 x0b x0n x0c x8b x8n x8c x9 x10 Kn Ke0 Kr h) : wpC none Tryd.prog 41 n9_c2 (Q3 Kn Ke0 Kr) g h := by
  obtain ⟨hg0, hg8, hg9, hg10, hds⟩ := hg
  refine wpC_of_wpx (by kernel_rfl) (by kernel_rfl) (g' := ((((⟨g.v, []⟩ : Env).upd (some 0) (.slice x0b x0n x0c)).upd (some 8) (.slice x8b x8n x8c)).upd (some 9) (.int .i64 x9)).upd (some 10) (.int .i64 x10)) (by rw [env_ds hds, upd_self hg0, upd_self hg8, upd_self hg9, upd_self hg10]) ?_
  have e : (n10 x0b x0n x0c x8b x8n x8c x9 x10 Kn Ke0 Kr h) = wpx none Tryd.prog 41 n9_c2 (Q3 Kn Ke0 Kr) (((((⟨g.v, []⟩ : Env).upd (some 0) (.slice x0b x0n x0c)).upd (some 8) (.slice x8b x8n x8c)).upd (some 9) (.int .i64 x9)).upd (some 10) (.int .i64 x10)) h := by kernel_rfl
  exact e ▸ hS
noncomputable def n11_c1 : Code := cFst n9_c1
def Q4 (Kn : T3) (Ke1 : T3) (Ke0 : T2) (Kr : T0) : XPost
  | .normal, g, h => D3 Kn g h
  | .ret, g, h => D0 Kr g h
  | .exit id, g, h => cond (Nat.beq id 1) (D3 Ke1 g h) (cond (Nat.beq id 0) (D2 Ke0 g h) (False))
  | _, _, _ => False
noncomputable def n12_c1 : Code := cFst n11_c1
noncomputable def n12_c2 : Code := cSnd n11_c1
abbrev T5 := (Option Addr) → Nat → Nat → Int → (Option Addr) → Nat → Nat → Int → Int → H → Prop
def E5 (g : Env) (x0b : Option Addr) (x0n : Nat) (x0c : Nat) (x4 : Int) (x8b : Option Addr) (x8n : Nat) (x8c : Nat) (x9 : Int) (x10 : Int) : Prop := g.v 0 = (.slice x0b x0n x0c) ∧ g.v 4 = (.int .u8 x4) ∧ g.v 8 = (.slice x8b x8n x8c) ∧ g.v 9 = (.int .i64 x9) ∧ g.v 10 = (.int .i64 x10) ∧ g.ds = []
def D5 (K : T5) (g : Env) (h : H) : Prop := nilDs g.ds (vSlice (g.v 0) fun s41b s41n s41c => vInt .u8 (g.v 4) fun i42 => vSlice (g.v 8) fun s43b s43n s43c => vInt .i64 (g.v 9) fun i44 => vInt .i64 (g.v 10) fun i45 => K s41b s41n s41c i42 s43b s43n s43c i44 i45 h)
theorem D5_ok {K : T5} {g : Env} {h : H} (hq : D5 K g h) : ∃ (x0b : Option Addr) (x0n : Nat) (x0c : Nat) (x4 : Int) (x8b : Option Addr) (x8n : Nat) (x8c : Nat) (x9 : Int) (x10 : Int), E5 g x0b x0n x0c x4 x8b x8n x8c x9 x10 ∧ K x0b x0n x0c x4 x8b x8n x8c x9 x10 h := by
  obtain ⟨hd, hq⟩ := nilDs_ok hq
  obtain ⟨y47b, y47n, y47c, e46, q48⟩ := vSlice_ok hq
  obtain ⟨y50, e49, q51⟩ := vInt_ok q48
  obtain ⟨y53b, y53n, y53c, e52, q54⟩ := vSlice_ok q51
  obtain ⟨y56, e55, q57⟩ := vInt_ok q54
  obtain ⟨y59, e58, q60⟩ := vInt_ok q57
  exact ⟨y47b, y47n, y47c, y50, y53b, y53n, y53c, y56, y59, ⟨e46, e49, e52, e55, e58, hd⟩, q60⟩
noncomputable def n13_c1 : Code := cFst n12_c2
noncomputable def n13_c2 : Code := cSnd n12_c2
abbrev T6 := (Option Addr) → Nat → Nat → Int → (Option Addr) → Nat → Nat → (Option Addr) → Nat → Nat → Int → Int → H → Prop
def E6 (g : Env) (x0b : Option Addr) (x0n : Nat) (x0c : Nat) (x4 : Int) (x5b : Option Addr) (x5n : Nat) (x5c : Nat) (x8b : Option Addr) (x8n : Nat) (x8c : Nat) (x9 : Int) (x10 : Int) : Prop := g.v 0 = (.slice x0b x0n x0c) ∧ g.v 4 = (.int .u8 x4) ∧ g.v 5 = (.slice x5b x5n x5c) ∧ g.v 8 = (.slice x8b x8n x8c) ∧ g.v 9 = (.int .i64 x9) ∧ g.v 10 = (.int .i64 x10) ∧ g.ds = []
def D6 (K : T6) (g : Env) (h : H) : Prop := nilDs g.ds (vSlice (g.v 0) fun s61b s61n s61c => vInt .u8 (g.v 4) fun i62 => vSlice (g.v 5) fun s63b s63n s63c => vSlice (g.v 8) fun s64b s64n s64c => vInt .i64 (g.v 9) fun i65 => vInt .i64 (g.v 10) fun i66 => K s61b s61n s61c i62 s63b s63n s63c s64b s64n s64c i65 i66 h)
theorem D6_ok {K : T6} {g : Env} {h : H} (hq : D6 K g h) : ∃ (x0b : Option Addr) (x0n : Nat) (x0c : Nat) (x4 : Int) (x5b : Option Addr) (x5n : Nat) (x5c : Nat) (x8b : Option Addr) (x8n : Nat) (x8c : Nat) (x9 : Int) (x10 : Int), E6 g x0b x0n x0c x4 x5b x5n x5c x8b x8n x8c x9 x10 ∧ K x0b x0n x0c x4 x5b x5n x5c x8b x8n x8c x9 x10 h := by
  obtain ⟨hd, hq⟩ := nilDs_ok hq
  obtain ⟨y68b, y68n, y68c, e67, q69⟩ := vSlice_ok hq
  obtain ⟨y71, e70, q72⟩ := vInt_ok q69
  obtain ⟨y74b, y74n, y74c, e73, q75⟩ := vSlice_ok q72
  obtain ⟨y77b, y77n, y77c, e76, q78⟩ := vSlice_ok q75
  obtain ⟨y80, e79, q81⟩ := vInt_ok q78
  obtain ⟨y83, e82, q84⟩ := vInt_ok q81
  exact ⟨y68b, y68n, y68c, y71, y74b, y74n, y74c, y77b, y77n, y77c, y80, y83, ⟨e67, e70, e73, e76, e79, e82, hd⟩, q84⟩
noncomputable def n14_c1 : Code := cFst n13_c2
def Q5 (Kn : T3) (Ke2 : T3) (Ke1 : T3) (Ke0 : T2) (Kr : T0) : XPost
  | .normal, g, h => D3 Kn g h
  | .ret, g, h => D0 Kr g h
  | .exit id, g, h => cond (Nat.beq id 2) (D3 Ke2 g h) (cond (Nat.beq id 1) (D3 Ke1 g h) (cond (Nat.beq id 0) (D2 Ke0 g h) (False)))
  | _, _, _ => False
noncomputable def n15_c1 : Code := cFst n14_c1
def Q6 (Kn : T6) (Ke2 : T3) (Ke1 : T3) (Ke0 : T2) (Kr : T0) : XPost
  | .normal, g, h => D6 Kn g h
  | .ret, g, h => D0 Kr g h
  | .exit id, g, h => cond (Nat.beq id 2) (D3 Ke2 g h) (cond (Nat.beq id 1) (D3 Ke1 g h) (cond (Nat.beq id 0) (D2 Ke0 g h) (False)))
  | _, _, _ => False
def n15_L (Kn : T3) (Ke2 : T3) (Ke1 : T3) (Ke0 : T2) (Kr : T0) : Nat → (Option Addr) → Nat → Nat → Int → (Option Addr) → Nat → Nat → (Option Addr) → Nat → Nat → Int → Int → H → Prop
  | 0 => fun _ _ _ _ _ _ _ _ _ _ _ _ _ => False
  | N + 1 => fun x0b x0n x0c x4 x5b x5n x5c x8b x8n x8c x9 x10 h => Spl ((x5n : Int) < (4 : Int)) (newx h #[(.int .u8 x4)] 5 fun a85 h86 => SemH Tryd.prog (Builtin.append_ #[22, 22] 22 ⟨[(.slice x5b x5n x5c), (.slice (some a85) 1 1)]⟩) h86 fun v87 h88 => vSlice v87 fun s89b s89n s89c => HCalls Tryd.prog 30 ⟨[(.slice s89b s89n s89c)]⟩ h88 fun v90 h91 => vTup v90 fun l92 => uncons l92 fun e93 l94 => vInt .i32 e93 fun i95 => uncons l94 fun e96 l97 => vInt .i64 e96 fun i98 => unnil l97 (Spl (i98 = (s89n : Int)) (Spl (i95 = (65533 : Int)) (SemH Tryd.prog (convert 22 9 (.slice s89b s89n s89c)) h91 fun v99 h100 => vStr v99 fun s101 => Spl (s101 = ([239, 191, 189] : List UInt8)) (Kr true h100) (n15_L Kn Ke2 Ke1 Ke0 Kr N x0b x0n x0c x4 s89b s89n s89c x8b x8n x8c x9 x10 h100)) (Kr true h91)) (SemH Tryd.prog (convert 22 9 (.slice s89b s89n s89c)) h91 fun v102 h103 => vStr v102 fun s104 => Spl (s104 = ([239, 191, 189] : List UInt8)) (Kr true h103) (n15_L Kn Ke2 Ke1 Ke0 Kr N x0b x0n x0c x4 s89b s89n s89c x8b x8n x8c x9 x10 h103)))) (Ke2 x0b x0n x0c x8b x8n x8c x9 x10 h)
abbrev n15 (x0b : Option Addr) (x0n : Nat) (x0c : Nat) (x4 : Int) (x5b : Option Addr) (x5n : Nat) (x5c : Nat) (x8b : Option Addr) (x8n : Nat) (x8c : Nat) (x9 : Int) (x10 : Int) (Kn : T3) (Ke2 : T3) (Ke1 : T3) (Ke0 : T2) (Kr : T0) (h : H) : Prop := ∃ N, n15_L Kn Ke2 Ke1 Ke0 Kr N x0b x0n x0c x4 x5b x5n x5c x8b x8n x8c x9 x10 h
theorem n15_ok (x0b : Option Addr) (x0n : Nat) (x0c : Nat) (x4 : Int) (x5b : Option Addr) (x5n : Nat) (x5c : Nat) (x8b : Option Addr) (x8n : Nat) (x8c : Nat) (x9 : Int) (x10 : Int) (Kn : T3) (Ke2 : T3) (Ke1 : T3) (Ke0 : T2) (Kr : T0) (g : Env) (hg : E6 g x0b x0n x0c x4 x5b x5n x5c x8b x8n x8c x9 x10) (h : H) (hS : n15 x0b x0n x0c x4 x5b x5n x5c x8b x8n x8c x9 x10 Kn Ke2 Ke1 Ke0 Kr h) : wpC none Tryd.prog 41 n14_c1 (Q5 Kn Ke2 Ke1 Ke0 Kr) g h := by
  obtain ⟨N0, hS⟩ := hS
  refine wpC_loop' (x := n15_c1) (by kernel_rfl) (fun k g h => ∃ (x0b : Option Addr) (x0n : Nat) (x0c : Nat) (x4 : Int) (x5b : Option Addr) (x5n : Nat) (x5c : Nat) (x8b : Option Addr) (x8n : Nat) (x8c : Nat) (x9 : Int) (x10 : Int), E6 g x0b x0n x0c x4 x5b x5n x5c x8b x8n x8c x9 x10 ∧ n15_L Kn Ke2 Ke1 Ke0 Kr k x0b x0n x0c x4 x5b x5n x5c x8b x8n x8c x9 x10 h) (fun g h hr => ?_) (fun N g h hr => ?_) N0 ⟨x0b, x0n, x0c, x4, x5b, x5n, x5c, x8b, x8n, x8c, x9, x10, hg, hS⟩
  · obtain ⟨x0b, x0n, x0c, x4, x5b, x5n, x5c, x8b, x8n, x8c, x9, x10, hg, hS⟩ := hr
    exact hS.elim
  · obtain ⟨x0b, x0n, x0c, x4, x5b, x5n, x5c, x8b, x8n, x8c, x9, x10, hg, hS⟩ := hr
    have hw : wpC none Tryd.prog 41 n15_c1 (Q6 (fun z0b z0n z0c z4 z5b z5n z5c z8b z8n z8c z9 z10 h => n15_L Kn Ke2 Ke1 Ke0 Kr N z0b z0n z0c z4 z5b z5n z5c z8b z8n z8c z9 z10 h) Ke2 Ke1 Ke0 Kr) g h := by
      obtain ⟨hg0, hg4, hg5, hg8, hg9, hg10, hds⟩ := hg
      refine wpC_of_wpx (by kernel_rfl) (by kernel_rfl) (g' := ((((((⟨g.v, []⟩ : Env).upd (some 0) (.slice x0b x0n x0c)).upd (some 4) (.int .u8 x4)).upd (some 5) (.slice x5b x5n x5c)).upd (some 8) (.slice x8b x8n x8c)).upd (some 9) (.int .i64 x9)).upd (some 10) (.int .i64 x10)) (by rw [env_ds hds, upd_self hg0, upd_self hg4, upd_self hg5, upd_self hg8, upd_self hg9, upd_self hg10]) ?_
      have e : (n15_L Kn Ke2 Ke1 Ke0 Kr (N + 1) x0b x0n x0c x4 x5b x5n x5c x8b x8n x8c x9 x10 h) = wpx none Tryd.prog 41 n15_c1 (Q6 (fun z0b z0n z0c z4 z5b z5n z5c z8b z8n z8c z9 z10 h => n15_L Kn Ke2 Ke1 Ke0 Kr N z0b z0n z0c z4 z5b z5n z5c z8b z8n z8c z9 z10 h) Ke2 Ke1 Ke0 Kr) (((((((⟨g.v, []⟩ : Env).upd (some 0) (.slice x0b x0n x0c)).upd (some 4) (.int .u8 x4)).upd (some 5) (.slice x5b x5n x5c)).upd (some 8) (.slice x8b x8n x8c)).upd (some 9) (.int .i64 x9)).upd (some 10) (.int .i64 x10)) h := by kernel_rfl
      exact e ▸ hS
    refine hw.mono ?_
    intro e g' h' hq
    cases e with
    | normal => exact D6_ok (K := (fun z0b z0n z0c z4 z5b z5n z5c z8b z8n z8c z9 z10 h => n15_L Kn Ke2 Ke1 Ke0 Kr N z0b z0n z0c z4 z5b z5n z5c z8b z8n z8c z9 z10 h)) hq
    | _ => exact hq
abbrev n14 (x0b : Option Addr) (x0n : Nat) (x0c : Nat) (x4 : Int) (x5b : Option Addr) (x5n : Nat) (x5c : Nat) (x8b : Option Addr) (x8n : Nat) (x8c : Nat) (x9 : Int) (x10 : Int) (Kn : T3) (Ke1 : T3) (Ke0 : T2) (Kr : T0) (h : H) : Prop := n15 x0b x0n x0c x4 x5b x5n x5c x8b x8n x8c x9 x10 Kn Kn Ke1 Ke0 Kr h
theorem n14_ok (x0b : Option Addr) (x0n : Nat) (x0c : Nat) (x4 : Int) (x5b : Option Addr) (x5n : Nat) (x5c : Nat) (x8b : Option Addr) (x8n : Nat) (x8c : Nat) (x9 : Int) (x10 : Int) (Kn : T3) (Ke1 : T3) (Ke0 : T2) (Kr : T0) (g : Env) (hg : E6 g x0b x0n x0c x4 x5b x5n x5c x8b x8n x8c x9 x10) (h : H) (hS : n14 x0b x0n x0c x4 x5b x5n x5c x8b x8n x8c x9 x10 Kn Ke1 Ke0 Kr h) : wpC none Tryd.prog 41 n13_c2 (Q4 Kn Ke1 Ke0 Kr) g h := by
  refine wpC_block' (id := 2) (x := n14_c1) (by kernel_rfl) (n15_ok x0b x0n x0c x4 x5b x5n x5c x8b x8n x8c x9 x10 Kn Kn Ke1 Ke0 Kr g hg h hS) ?_
  intro e g' h' hq
  cases e <;> exact hq
def Q7 (Kn : T6) (Ke1 : T3) (Ke0 : T2) (Kr : T0) : XPost
  | .normal, g, h => D6 Kn g h
  | .ret, g, h => D0 Kr g h
  | .exit id, g, h => cond (Nat.beq id 1) (D3 Ke1 g h) (cond (Nat.beq id 0) (D2 Ke0 g h) (False))
  | _, _, _ => False
abbrev n13 (x0b : Option Addr) (x0n : Nat) (x0c : Nat) (x4 : Int) (x8b : Option Addr) (x8n : Nat) (x8c : Nat) (x9 : Int) (x10 : Int) (Kn : T3) (Ke1 : T3) (Ke0 : T2) (Kr : T0) (h : H) : Prop :=
  newx h #[] 5 fun a105 h106 => SemH Tryd.prog (Builtin.append_ #[22, 22] 22 ⟨[(.slice (some a105) 0 0), (.slice x0b x0n x0c)]⟩) h106 fun v107 h108 => vSlice v107 fun s109b s109n s109c => n14 x0b x0n x0c x4 s109b s109n s109c x8b x8n x8c x9 x10 Kn Ke1 Ke0 Kr h108
theorem n13_ok (x0b : Option Addr) (x0n : Nat) (x0c : Nat) (x4 : Int) (x8b : Option Addr) (x8n : Nat) (x8c : Nat) (x9 : Int) (x10 : Int) (Kn : T3) (Ke1 : T3) (Ke0 : T2) (Kr : T0) (g : Env) (hg : E5 g x0b x0n x0c x4 x8b x8n x8c x9 x10) (h : H) (hS : n13 x0b x0n x0c x4 x8b x8n x8c x9 x10 Kn Ke1 Ke0 Kr h) : wpC none Tryd.prog 41 n12_c2 (Q4 Kn Ke1 Ke0 Kr) g h := by
  obtain ⟨hg0, hg4, hg8, hg9, hg10, hds⟩ := hg
  refine wpC_seq' (x := n13_c1) (y := n13_c2) (Q' := (Q7 (fun z0b z0n z0c z4 z5b z5n z5c z8b z8n z8c z9 z10 h => n14 z0b z0n z0c z4 z5b z5n z5c z8b z8n z8c z9 z10 Kn Ke1 Ke0 Kr h) Ke1 Ke0 Kr)) (by kernel_rfl) ?_ ?_
  · refine wpC_of_wpx (by kernel_rfl) (by kernel_rfl) (g' := (((((⟨g.v, []⟩ : Env).upd (some 0) (.slice x0b x0n x0c)).upd (some 4) (.int .u8 x4)).upd (some 8) (.slice x8b x8n x8c)).upd (some 9) (.int .i64 x9)).upd (some 10) (.int .i64 x10)) (by rw [env_ds hds, upd_self hg0, upd_self hg4, upd_self hg8, upd_self hg9, upd_self hg10]) ?_
    have e : (n13 x0b x0n x0c x4 x8b x8n x8c x9 x10 Kn Ke1 Ke0 Kr h) = wpx none Tryd.prog 41 n13_c1 (Q7 (fun z0b z0n z0c z4 z5b z5n z5c z8b z8n z8c z9 z10 h => n14 z0b z0n z0c z4 z5b z5n z5c z8b z8n z8c z9 z10 Kn Ke1 Ke0 Kr h) Ke1 Ke0 Kr) ((((((⟨g.v, []⟩ : Env).upd (some 0) (.slice x0b x0n x0c)).upd (some 4) (.int .u8 x4)).upd (some 8) (.slice x8b x8n x8c)).upd (some 9) (.int .i64 x9)).upd (some 10) (.int .i64 x10)) h := by kernel_rfl
    exact e ▸ hS
  · intro e g' h' hq
    cases e with
    | normal =>
      have hq : D6 (fun z0b z0n z0c z4 z5b z5n z5c z8b z8n z8c z9 z10 h => n14 z0b z0n z0c z4 z5b z5n z5c z8b z8n z8c z9 z10 Kn Ke1 Ke0 Kr h) g' h' := hq
      obtain ⟨y0b, y0n, y0c, y4, y5b, y5n, y5c, y8b, y8n, y8c, y9, y10, hg', hq⟩ := D6_ok hq
      exact n14_ok y0b y0n y0c y4 y5b y5n y5c y8b y8n y8c y9 y10 Kn Ke1 Ke0 Kr g' hg' h' hq
    | _ => exact hq
def Q8 (Kn : T5) (Ke1 : T3) (Ke0 : T2) (Kr : T0) : XPost
  | .normal, g, h => D5 Kn g h
  | .ret, g, h => D0 Kr g h
  | .exit id, g, h => cond (Nat.beq id 1) (D3 Ke1 g h) (cond (Nat.beq id 0) (D2 Ke0 g h) (False))
  | _, _, _ => False
abbrev n12 (x0b : Option Addr) (x0n : Nat) (x0c : Nat) (x8b : Option Addr) (x8n : Nat) (x8c : Nat) (x9 : Int) (x10 : Int) (Kn : T3) (Ke1 : T3) (Ke0 : T2) (Kr : T0) (h : H) : Prop :=
  (0 ≤ x10 ∧ x10 < (x8n : Int)) ∧ (vSome x8b fun a110 => ∃ i111, cell h (a110.add (Int.toNat x10 * 1)) = some (.int .u8 i111) ∧ (n13 x0b x0n x0c i111 x8b x8n x8c x9 x10 Kn Ke1 Ke0 Kr h))
theorem n12_ok (x0b : Option Addr) (x0n : Nat) (x0c : Nat) (x8b : Option Addr) (x8n : Nat) (x8c : Nat) (x9 : Int) (x10 : Int) (Kn : T3) (Ke1 : T3) (Ke0 : T2) (Kr : T0) (g : Env) (hg : E3 g x0b x0n x0c x8b x8n x8c x9 x10) (h : H) (hS : n12 x0b x0n x0c x8b x8n x8c x9 x10 Kn Ke1 Ke0 Kr h) : wpC none Tryd.prog 41 n11_c1 (Q4 Kn Ke1 Ke0 Kr) g h := by
  obtain ⟨hg0, hg8, hg9, hg10, hds⟩ := hg
  refine wpC_seq' (x := n12_c1) (y := n12_c2) (Q' := (Q8 (fun z0b z0n z0c z4 z8b z8n z8c z9 z10 h => n13 z0b z0n z0c z4 z8b z8n z8c z9 z10 Kn Ke1 Ke0 Kr h) Ke1 Ke0 Kr)) (by kernel_rfl) ?_ ?_
  · refine wpC_of_wpx (by kernel_rfl) (by kernel_rfl) (g' := ((((⟨g.v, []⟩ : Env).upd (some 0) (.slice x0b x0n x0c)).upd (some 8) (.slice x8b x8n x8c)).upd (some 9) (.int .i64 x9)).upd (some 10) (.int .i64 x10)) (by rw [env_ds hds, upd_self hg0, upd_self hg8, upd_self hg9, upd_self hg10]) ?_
    have e : (n12 x0b x0n x0c x8b x8n x8c x9 x10 Kn Ke1 Ke0 Kr h) = wpx none Tryd.prog 41 n12_c1 (Q8 (fun z0b z0n z0c z4 z8b z8n z8c z9 z10 h => n13 z0b z0n z0c z4 z8b z8n z8c z9 z10 Kn Ke1 Ke0 Kr h) Ke1 Ke0 Kr) (((((⟨g.v, []⟩ : Env).upd (some 0) (.slice x0b x0n x0c)).upd (some 8) (.slice x8b x8n x8c)).upd (some 9) (.int .i64 x9)).upd (some 10) (.int .i64 x10)) h := by kernel_rfl
    exact e ▸ hS
  · intro e g' h' hq
    cases e with
    | normal =>
      have hq : D5 (fun z0b z0n z0c z4 z8b z8n z8c z9 z10 h => n13 z0b z0n z0c z4 z8b z8n z8c z9 z10 Kn Ke1 Ke0 Kr h) g' h' := hq
      obtain ⟨y0b, y0n, y0c, y4, y8b, y8n, y8c, y9, y10, hg', hq⟩ := D5_ok hq
      exact n13_ok y0b y0n y0c y4 y8b y8n y8c y9 y10 Kn Ke1 Ke0 Kr g' hg' h' hq
    | _ => exact hq
abbrev n11 (x0b : Option Addr) (x0n : Nat) (x0c : Nat) (x8b : Option Addr) (x8n : Nat) (x8c : Nat) (x9 : Int) (x10 : Int) (Kn : T3) (Ke0 : T2) (Kr : T0) (h : H) : Prop := n12 x0b x0n x0c x8b x8n x8c x9 x10 Kn Kn Ke0 Kr h
theorem n11_ok (x0b : Option Addr) (x0n : Nat) (x0c : Nat) (x8b : Option Addr) (x8n : Nat) (x8c : Nat) (x9 : Int) (x10 : Int) (Kn : T3) (Ke0 : T2) (Kr : T0) (g : Env) (hg : E3 g x0b x0n x0c x8b x8n x8c x9 x10) (h : H) (hS : n11 x0b x0n x0c x8b x8n x8c x9 x10 Kn Ke0 Kr h) : wpC none Tryd.prog 41 n9_c1 (Q3 Kn Ke0 Kr) g h := by
  refine wpC_block' (id := 1) (x := n11_c1) (by kernel_rfl) (n12_ok x0b x0n x0c x8b x8n x8c x9 x10 Kn Kn Ke0 Kr g hg h hS) ?_
  intro e g' h' hq
  cases e <;> exact hq
abbrev n9 (x0b : Option Addr) (x0n : Nat) (x0c : Nat) (x8b : Option Addr) (x8n : Nat) (x8c : Nat) (x9 : Int) (x10 : Int) (Kn : T3) (Ke0 : T2) (Kr : T0) (h : H) : Prop := n11 x0b x0n x0c x8b x8n x8c x9 x10 (fun z0b z0n z0c z8b z8n z8c z9 z10 h => n10 z0b z0n z0c z8b z8n z8c z9 z10 Kn Ke0 Kr h) Ke0 Kr h
theorem n9_ok (x0b : Option Addr) (x0n : Nat) (x0c : Nat) (x8b : Option Addr) (x8n : Nat) (x8c : Nat) (x9 : Int) (x10 : Int) (Kn : T3) (Ke0 : T2) (Kr : T0) (g : Env) (hg : E3 g x0b x0n x0c x8b x8n x8c x9 x10) (h : H) (hS : n9 x0b x0n x0c x8b x8n x8c x9 x10 Kn Ke0 Kr h) : wpC none Tryd.prog 41 n8_c2 (Q3 Kn Ke0 Kr) g h := by
  refine wpC_seq' (x := n9_c1) (y := n9_c2) (by kernel_rfl) (n11_ok x0b x0n x0c x8b x8n x8c x9 x10 (fun z0b z0n z0c z8b z8n z8c z9 z10 h => n10 z0b z0n z0c z8b z8n z8c z9 z10 Kn Ke0 Kr h) Ke0 Kr g hg h hS) ?_
  intro e g' h' hq
  cases e with
  | normal =>
    have hq : D3 (fun z0b z0n z0c z8b z8n z8c z9 z10 h => n10 z0b z0n z0c z8b z8n z8c z9 z10 Kn Ke0 Kr h) g' h' := hq
    obtain ⟨y0b, y0n, y0c, y8b, y8n, y8c, y9, y10, hg', hq⟩ := D3_ok hq
    exact n10_ok y0b y0n y0c y8b y8n y8c y9 y10 Kn Ke0 Kr g' hg' h' hq
  | _ => exact hq
abbrev n8 (x0b : Option Addr) (x0n : Nat) (x0c : Nat) (x8b : Option Addr) (x8n : Nat) (x8c : Nat) (x9 : Int) (x10 : Int) (x11 : Value) (Kn : T3) (Ke0 : T2) (Kr : T0) (h : H) : Prop :=
  vBool x11 fun b112 => cond b112 (n9 x0b x0n x0c x8b x8n x8c x9 x10 Kn Ke0 Kr h) (Ke0 h)
theorem n8_ok (x0b : Option Addr) (x0n : Nat) (x0c : Nat) (x8b : Option Addr) (x8n : Nat) (x8c : Nat) (x9 : Int) (x10 : Int) (x11 : Value) (Kn : T3) (Ke0 : T2) (Kr : T0) (g : Env) (hg : E4 g x0b x0n x0c x8b x8n x8c x9 x10 x11) (h : H) (hS : n8 x0b x0n x0c x8b x8n x8c x9 x10 x11 Kn Ke0 Kr h) : wpC none Tryd.prog 41 n7_c2 (Q3 Kn Ke0 Kr) g h := by
  obtain ⟨hg0, hg8, hg9, hg10, hg11, hds⟩ := hg
  refine wpC_seq' (x := n8_c1) (y := n8_c2) (Q' := (Q3 (fun z0b z0n z0c z8b z8n z8c z9 z10 h => n9 z0b z0n z0c z8b z8n z8c z9 z10 Kn Ke0 Kr h) Ke0 Kr)) (by kernel_rfl) ?_ ?_
  · refine wpC_of_wpx (by kernel_rfl) (by kernel_rfl) (g' := (((((⟨g.v, []⟩ : Env).upd (some 0) (.slice x0b x0n x0c)).upd (some 8) (.slice x8b x8n x8c)).upd (some 9) (.int .i64 x9)).upd (some 10) (.int .i64 x10)).upd (some 11) x11) (by rw [env_ds hds, upd_self hg0, upd_self hg8, upd_self hg9, upd_self hg10, upd_self hg11]) ?_
    have e : (n8 x0b x0n x0c x8b x8n x8c x9 x10 x11 Kn Ke0 Kr h) = wpx none Tryd.prog 41 n8_c1 (Q3 (fun z0b z0n z0c z8b z8n z8c z9 z10 h => n9 z0b z0n z0c z8b z8n z8c z9 z10 Kn Ke0 Kr h) Ke0 Kr) ((((((⟨g.v, []⟩ : Env).upd (some 0) (.slice x0b x0n x0c)).upd (some 8) (.slice x8b x8n x8c)).upd (some 9) (.int .i64 x9)).upd (some 10) (.int .i64 x10)).upd (some 11) x11) h := by kernel_rfl
    exact e ▸ hS
  · intro e g' h' hq
    cases e with
    | normal =>
      have hq : D3 (fun z0b z0n z0c z8b z8n z8c z9 z10 h => n9 z0b z0n z0c z8b z8n z8c z9 z10 Kn Ke0 Kr h) g' h' := hq
      obtain ⟨y0b, y0n, y0c, y8b, y8n, y8c, y9, y10, hg', hq⟩ := D3_ok hq
      exact n9_ok y0b y0n y0c y8b y8n y8c y9 y10 Kn Ke0 Kr g' hg' h' hq
    | _ => exact hq
def Q9 (Kn : T4) (Ke0 : T2) (Kr : T0) : XPost
  | .normal, g, h => D4 Kn g h
  | .ret, g, h => D0 Kr g h
  | .exit id, g, h => cond (Nat.beq id 0) (D2 Ke0 g h) (False)
  | _, _, _ => False
abbrev n7 (x0b : Option Addr) (x0n : Nat) (x0c : Nat) (x8b : Option Addr) (x8n : Nat) (x8c : Nat) (x9 : Int) (x10 : Int) (Kn : T3) (Ke0 : T2) (Kr : T0) (h : H) : Prop :=
  Spl (x10 < x9) (n8 x0b x0n x0c x8b x8n x8c x9 x10 (.bool true) Kn Ke0 Kr h) (n8 x0b x0n x0c x8b x8n x8c x9 x10 (.bool false) Kn Ke0 Kr h)
theorem n7_ok (x0b : Option Addr) (x0n : Nat) (x0c : Nat) (x8b : Option Addr) (x8n : Nat) (x8c : Nat) (x9 : Int) (x10 : Int) (Kn : T3) (Ke0 : T2) (Kr : T0) (g : Env) (hg : E3 g x0b x0n x0c x8b x8n x8c x9 x10) (h : H) (hS : n7 x0b x0n x0c x8b x8n x8c x9 x10 Kn Ke0 Kr h) : wpC none Tryd.prog 41 n6_c1 (Q3 Kn Ke0 Kr) g h := by
  obtain ⟨hg0, hg8, hg9, hg10, hds⟩ := hg
  refine wpC_seq' (x := n7_c1) (y := n7_c2) (Q' := (Q9 (fun z0b z0n z0c z8b z8n z8c z9 z10 z11 h => n8 z0b z0n z0c z8b z8n z8c z9 z10 z11 Kn Ke0 Kr h) Ke0 Kr)) (by kernel_rfl) ?_ ?_
  · refine wpC_of_wpx (by kernel_rfl) (by kernel_rfl) (g' := ((((⟨g.v, []⟩ : Env).upd (some 0) (.slice x0b x0n x0c)).upd (some 8) (.slice x8b x8n x8c)).upd (some 9) (.int .i64 x9)).upd (some 10) (.int .i64 x10)) (by rw [env_ds hds, upd_self hg0, upd_self hg8, upd_self hg9, upd_self hg10]) ?_
    have e : (n7 x0b x0n x0c x8b x8n x8c x9 x10 Kn Ke0 Kr h) = wpx none Tryd.prog 41 n7_c1 (Q9 (fun z0b z0n z0c z8b z8n z8c z9 z10 z11 h => n8 z0b z0n z0c z8b z8n z8c z9 z10 z11 Kn Ke0 Kr h) Ke0 Kr) (((((⟨g.v, []⟩ : Env).upd (some 0) (.slice x0b x0n x0c)).upd (some 8) (.slice x8b x8n x8c)).upd (some 9) (.int .i64 x9)).upd (some 10) (.int .i64 x10)) h := by kernel_rfl
    exact e ▸ hS
  · intro e g' h' hq
    cases e with
    | normal =>
      have hq : D4 (fun z0b z0n z0c z8b z8n z8c z9 z10 z11 h => n8 z0b z0n z0c z8b z8n z8c z9 z10 z11 Kn Ke0 Kr h) g' h' := hq
      obtain ⟨y0b, y0n, y0c, y8b, y8n, y8c, y9, y10, y11, hg', hq⟩ := D4_ok hq
      exact n8_ok y0b y0n y0c y8b y8n y8c y9 y10 y11 Kn Ke0 Kr g' hg' h' hq
    | _ => exact hq
def n6_L (Kn : T2) (Ke0 : T2) (Kr : T0) : Nat → (Option Addr) → Nat → Nat → (Option Addr) → Nat → Nat → Int → Int → H → Prop
  | 0 => fun _ _ _ _ _ _ _ _ _ => False
  | N + 1 => fun x0b x0n x0c x8b x8n x8c x9 x10 h => n7 x0b x0n x0c x8b x8n x8c x9 x10 (fun z0b z0n z0c z8b z8n z8c z9 z10 h => n6_L Kn Ke0 Kr N z0b z0n z0c z8b z8n z8c z9 z10 h) Ke0 Kr h
abbrev n6 (x0b : Option Addr) (x0n : Nat) (x0c : Nat) (x8b : Option Addr) (x8n : Nat) (x8c : Nat) (x9 : Int) (x10 : Int) (Kn : T2) (Ke0 : T2) (Kr : T0) (h : H) : Prop := ∃ N, n6_L Kn Ke0 Kr N x0b x0n x0c x8b x8n x8c x9 x10 h
theorem n6_ok (x0b : Option Addr) (x0n : Nat) (x0c : Nat) (x8b : Option Addr) (x8n : Nat) (x8c : Nat) (x9 : Int) (x10 : Int) (Kn : T2) (Ke0 : T2) (Kr : T0) (g : Env) (hg : E3 g x0b x0n x0c x8b x8n x8c x9 x10) (h : H) (hS : n6 x0b x0n x0c x8b x8n x8c x9 x10 Kn Ke0 Kr h) : wpC none Tryd.prog 41 n5_c1 (Q2 Kn Ke0 Kr) g h := by
  obtain ⟨N0, hS⟩ := hS
  refine wpC_loop' (x := n6_c1) (by kernel_rfl) (fun k g h => ∃ (x0b : Option Addr) (x0n : Nat) (x0c : Nat) (x8b : Option Addr) (x8n : Nat) (x8c : Nat) (x9 : Int) (x10 : Int), E3 g x0b x0n x0c x8b x8n x8c x9 x10 ∧ n6_L Kn Ke0 Kr k x0b x0n x0c x8b x8n x8c x9 x10 h) (fun g h hr => ?_) (fun N g h hr => ?_) N0 ⟨x0b, x0n, x0c, x8b, x8n, x8c, x9, x10, hg, hS⟩
  · obtain ⟨x0b, x0n, x0c, x8b, x8n, x8c, x9, x10, hg, hS⟩ := hr
    exact hS.elim
  · obtain ⟨x0b, x0n, x0c, x8b, x8n, x8c, x9, x10, hg, hS⟩ := hr
    refine (n7_ok x0b x0n x0c x8b x8n x8c x9 x10 (fun z0b z0n z0c z8b z8n z8c z9 z10 h => n6_L Kn Ke0 Kr N z0b z0n z0c z8b z8n z8c z9 z10 h) Ke0 Kr g hg h hS).mono ?_
    intro e g' h' hq
    cases e with
    | normal => exact D3_ok (K := (fun z0b z0n z0c z8b z8n z8c z9 z10 h => n6_L Kn Ke0 Kr N z0b z0n z0c z8b z8n z8c z9 z10 h)) hq
    | _ => exact hq
abbrev n5 (x0b : Option Addr) (x0n : Nat) (x0c : Nat) (x8b : Option Addr) (x8n : Nat) (x8c : Nat) (x9 : Int) (x10 : Int) (Kn : T2) (Kr : T0) (h : H) : Prop := n6 x0b x0n x0c x8b x8n x8c x9 x10 Kn Kn Kr h
theorem n5_ok (x0b : Option Addr) (x0n : Nat) (x0c : Nat) (x8b : Option Addr) (x8n : Nat) (x8c : Nat) (x9 : Int) (x10 : Int) (Kn : T2) (Kr : T0) (g : Env) (hg : E3 g x0b x0n x0c x8b x8n x8c x9 x10) (h : H) (hS : n5 x0b x0n x0c x8b x8n x8c x9 x10 Kn Kr h) : wpC none Tryd.prog 41 n4_c2 (Q1 Kn Kr) g h := by
  refine wpC_block' (id := 0) (x := n5_c1) (by kernel_rfl) (n6_ok x0b x0n x0c x8b x8n x8c x9 x10 Kn Kn Kr g hg h hS) ?_
  intro e g' h' hq
  cases e <;> exact hq
def Q10 (Kn : T3) (Kr : T0) : XPost
  | .normal, g, h => D3 Kn g h
  | .ret, g, h => D0 Kr g h
  | _, _, _ => False
abbrev n4 (x0b : Option Addr) (x0n : Nat) (x0c : Nat) (Kn : T2) (Kr : T0) (h : H) : Prop :=
  newx h #[(.int .u8 (128 : Int)), (.int .u8 (144 : Int)), (.int .u8 (160 : Int))] 5 fun a113 h114 => n5 x0b x0n x0c (some a113) 3 3 (3 : Int) (0 : Int) Kn Kr h114
theorem n4_ok (x0b : Option Addr) (x0n : Nat) (x0c : Nat) (Kn : T2) (Kr : T0) (g : Env) (hg : E1 g x0b x0n x0c) (h : H) (hS : n4 x0b x0n x0c Kn Kr h) : wpC none Tryd.prog 41 n2_c1 (Q1 Kn Kr) g h := by
  obtain ⟨hg0, hds⟩ := hg
  refine wpC_seq' (x := n4_c1) (y := n4_c2) (Q' := (Q10 (fun z0b z0n z0c z8b z8n z8c z9 z10 h => n5 z0b z0n z0c z8b z8n z8c z9 z10 Kn Kr h) Kr)) (by kernel_rfl) ?_ ?_
  · refine wpC_of_wpx (by kernel_rfl) (by kernel_rfl) (g' := (⟨g.v, []⟩ : Env).upd (some 0) (.slice x0b x0n x0c)) (by rw [env_ds hds, upd_self hg0]) ?_
    have e : (n4 x0b x0n x0c Kn Kr h) = wpx none Tryd.prog 41 n4_c1 (Q10 (fun z0b z0n z0c z8b z8n z8c z9 z10 h => n5 z0b z0n z0c z8b z8n z8c z9 z10 Kn Kr h) Kr) ((⟨g.v, []⟩ : Env).upd (some 0) (.slice x0b x0n x0c)) h := by kernel_rfl
    exact e ▸ hS
  · intro e g' h' hq
    cases e with
    | normal =>
      have hq : D3 (fun z0b z0n z0c z8b z8n z8c z9 z10 h => n5 z0b z0n z0c z8b z8n z8c z9 z10 Kn Kr h) g' h' := hq
      obtain ⟨y0b, y0n, y0c, y8b, y8n, y8c, y9, y10, hg', hq⟩ := D3_ok hq
      exact n5_ok y0b y0n y0c y8b y8n y8c y9 y10 Kn Kr g' hg' h' hq
    | _ => exact hq
abbrev n2 (x0b : Option Addr) (x0n : Nat) (x0c : Nat) (Kn : T0) (Kr : T0) (h : H) : Prop := n4 x0b x0n x0c (fun  h => n3 Kn Kr h) Kr h
theorem n2_ok (x0b : Option Addr) (x0n : Nat) (x0c : Nat) (Kn : T0) (Kr : T0) (g : Env) (hg : E1 g x0b x0n x0c) (h : H) (hS : n2 x0b x0n x0c Kn Kr h) : wpC none Tryd.prog 41 n1_c2 (Q0 Kn Kr) g h := by
  refine wpC_seq' (x := n2_c1) (y := n2_c2) (by kernel_rfl) (n4_ok x0b x0n x0c (fun  h => n3 Kn Kr h) Kr g hg h hS) ?_
  intro e g' h' hq
  cases e with
  | normal =>
    have hq : D2 (fun  h => n3 Kn Kr h) g' h' := hq
    obtain ⟨hg', hq⟩ := D2_ok hq
    exact n3_ok  Kn Kr g' hg' h' hq
  | _ => exact hq
def Q11 (Kn : T1) (Kr : T0) : XPost
  | .normal, g, h => D1 Kn g h
  | .ret, g, h => D0 Kr g h
  | _, _, _ => False
abbrev n1 (x0b : Option Addr) (x0n : Nat) (x0c : Nat) (Kn : T0) (Kr : T0) (h : H) : Prop :=
  n2 x0b x0n x0c Kn Kr h
theorem n1_ok (x0b : Option Addr) (x0n : Nat) (x0c : Nat) (Kn : T0) (Kr : T0) (g : Env) (hg : E1 g x0b x0n x0c) (h : H) (hS : n1 x0b x0n x0c Kn Kr h) : wpC none Tryd.prog 41 code (Q0 Kn Kr) g h := by
  obtain ⟨hg0, hds⟩ := hg
  refine wpC_seq' (x := n1_c1) (y := n1_c2) (Q' := (Q11 (fun z0b z0n z0c h => n2 z0b z0n z0c Kn Kr h) Kr)) (by kernel_rfl) ?_ ?_
  · refine wpC_of_wpx (by kernel_rfl) (by kernel_rfl) (g' := (⟨g.v, []⟩ : Env).upd (some 0) (.slice x0b x0n x0c)) (by rw [env_ds hds, upd_self hg0]) ?_
    have e : (n1 x0b x0n x0c Kn Kr h) = wpx none Tryd.prog 41 n1_c1 (Q11 (fun z0b z0n z0c h => n2 z0b z0n z0c Kn Kr h) Kr) ((⟨g.v, []⟩ : Env).upd (some 0) (.slice x0b x0n x0c)) h := by kernel_rfl
    exact e ▸ hS
  · intro e g' h' hq
    cases e with
    | normal =>
      have hq : D1 (fun z0b z0n z0c h => n2 z0b z0n z0c Kn Kr h) g' h' := hq
      obtain ⟨y0b, y0n, y0c, hg', hq⟩ := D1_ok hq
      exact n2_ok y0b y0n y0c Kn Kr g' hg' h' hq
    | _ => exact hq
/-- WHAT tympan/utf.begins ASKS -/
abbrev asks (x0b : Option Addr) (x0n : Nat) (x0c : Nat) (K : Value → H → Prop) (h : H) : Prop := n1 x0b x0n x0c (fun y2 h => K (.bool y2) h) (fun y2 h => K (.bool y2) h) h
theorem ok (x0b : Option Addr) (x0n : Nat) (x0c : Nat) (K : Value → H → Prop) (h : H) (hS : asks x0b x0n x0c K h) : HCalls Tryd.prog 31 ⟨[(.slice x0b x0n x0c)]⟩ h K := by
  refine calls_of_wpC (c := code) Tryd.func31 (by kernel_rfl) (Nat.le_of_ble_eq_true (by kernel_rfl)) ?_
  refine (n1_ok x0b x0n x0c (fun y2 h => K (.bool y2) h) (fun y2 h => K (.bool y2) h) (env0 [(.slice x0b x0n x0c)]) ⟨rfl, rfl⟩ h hS).mono ?_
  intro e g' h' hq
  cases e with
  | normal =>
    have hq : D0 (fun y2 h => K (.bool y2) h) g' h' := hq
    obtain ⟨y2, ⟨hg2, hd⟩, hq⟩ := D0_ok hq
    show leaveX g'.ds h' _
    rw [hd]
    show K (g'.v 2) h'
    rw [hg2]
    exact hq
  | ret =>
    have hq : D0 (fun y2 h => K (.bool y2) h) g' h' := hq
    obtain ⟨y2, ⟨hg2, hd⟩, hq⟩ := D0_ok hq
    show leaveX g'.ds h' _
    rw [hd]
    show K (g'.v 2) h'
    rw [hg2]
    exact hq
  | _ => exact hq
end Sx.utf_begins

/-! ### unicode/utf8.decodeRuneSlow -/
namespace Sx.unicode_utf8_decodeRuneSlow
noncomputable def code : Code := bodyOf Tryd.f38
abbrev T0 := Int → Int → H → Prop
def E0 (g : Env) (x2 : Int) (x3 : Int) : Prop := g.v 2 = (.int .i32 x2) ∧ g.v 3 = (.int .i64 x3) ∧ g.ds = []
def D0 (K : T0) (g : Env) (h : H) : Prop := nilDs g.ds (vInt .i32 (g.v 2) fun i1 => vInt .i64 (g.v 3) fun i2 => K i1 i2 h)
theorem D0_ok {K : T0} {g : Env} {h : H} (hq : D0 K g h) : ∃ (x2 : Int) (x3 : Int), E0 g x2 x3 ∧ K x2 x3 h := by
  obtain ⟨hd, hq⟩ := nilDs_ok hq
  obtain ⟨y4, e3, q5⟩ := vInt_ok hq
  obtain ⟨y7, e6, q8⟩ := vInt_ok q5
  exact ⟨y4, y7, ⟨e3, e6, hd⟩, q8⟩
def Q0 (Kn : T0) (Kr : T0) : XPost
  | .normal, g, h => D0 Kn g h
  | .ret, g, h => D0 Kr g h
  | _, _, _ => False
abbrev T1 := (Option Addr) → Nat → Nat → H → Prop
def E1 (g : Env) (x0b : Option Addr) (x0n : Nat) (x0c : Nat) : Prop := g.v 0 = (.slice x0b x0n x0c) ∧ g.ds = []
def D1 (K : T1) (g : Env) (h : H) : Prop := nilDs g.ds (vSlice (g.v 0) fun s9b s9n s9c => K s9b s9n s9c h)
theorem D1_ok {K : T1} {g : Env} {h : H} (hq : D1 K g h) : ∃ (x0b : Option Addr) (x0n : Nat) (x0c : Nat), E1 g x0b x0n x0c ∧ K x0b x0n x0c h := by
  obtain ⟨hd, hq⟩ := nilDs_ok hq
  obtain ⟨y11b, y11n, y11c, e10, q12⟩ := vSlice_ok hq
  exact ⟨y11b, y11n, y11c, ⟨e10, hd⟩, q12⟩
noncomputable def n1_c1 : Code := cFst code
noncomputable def n1_c2 : Code := cSnd code
noncomputable def n2_c1 : Code := cFst n1_c2
noncomputable def n2_c2 : Code := cSnd n1_c2
abbrev T2 := (Option Addr) → Nat → Nat → Int → H → Prop
def E2 (g : Env) (x0b : Option Addr) (x0n : Nat) (x0c : Nat) (x4 : Int) : Prop := g.v 0 = (.slice x0b x0n x0c) ∧ g.v 4 = (.int .i64 x4) ∧ g.ds = []
def D2 (K : T2) (g : Env) (h : H) : Prop := nilDs g.ds (vSlice (g.v 0) fun s13b s13n s13c => vInt .i64 (g.v 4) fun i14 => K s13b s13n s13c i14 h)
theorem D2_ok {K : T2} {g : Env} {h : H} (hq : D2 K g h) : ∃ (x0b : Option Addr) (x0n : Nat) (x0c : Nat) (x4 : Int), E2 g x0b x0n x0c x4 ∧ K x0b x0n x0c x4 h := by
  obtain ⟨hd, hq⟩ := nilDs_ok hq
  obtain ⟨y16b, y16n, y16c, e15, q17⟩ := vSlice_ok hq
  obtain ⟨y19, e18, q20⟩ := vInt_ok q17
  exact ⟨y16b, y16n, y16c, y19, ⟨e15, e18, hd⟩, q20⟩
noncomputable def n3_c1 : Code := cFst n2_c2
noncomputable def n3_c2 : Code := cSnd n2_c2
noncomputable def n4_c1 : Code := cFst n3_c2
noncomputable def n4_c2 : Code := cSnd n3_c2
abbrev T3 := (Option Addr) → Nat → Nat → Int → Int → H → Prop
def E3 (g : Env) (x0b : Option Addr) (x0n : Nat) (x0c : Nat) (x4 : Int) (x5 : Int) : Prop := g.v 0 = (.slice x0b x0n x0c) ∧ g.v 4 = (.int .i64 x4) ∧ g.v 5 = (.int .u8 x5) ∧ g.ds = []
def D3 (K : T3) (g : Env) (h : H) : Prop := nilDs g.ds (vSlice (g.v 0) fun s21b s21n s21c => vInt .i64 (g.v 4) fun i22 => vInt .u8 (g.v 5) fun i23 => K s21b s21n s21c i22 i23 h)
theorem D3_ok {K : T3} {g : Env} {h : H} (hq : D3 K g h) : ∃ (x0b : Option Addr) (x0n : Nat) (x0c : Nat) (x4 : Int) (x5 : Int), E3 g x0b x0n x0c x4 x5 ∧ K x0b x0n x0c x4 x5 h := by
  obtain ⟨hd, hq⟩ := nilDs_ok hq
  obtain ⟨y25b, y25n, y25c, e24, q26⟩ := vSlice_ok hq
  obtain ⟨y28, e27, q29⟩ := vInt_ok q26
  obtain ⟨y31, e30, q32⟩ := vInt_ok q29
  exact ⟨y25b, y25n, y25c, y28, y31, ⟨e24, e27, e30, hd⟩, q32⟩
noncomputable def n5_c1 : Code := cFst n4_c2
noncomputable def n5_c2 : Code := cSnd n4_c2
abbrev T4 := (Option Addr) → Nat → Nat → Int → Int → Int → H → Prop
def E4 (g : Env) (x0b : Option Addr) (x0n : Nat) (x0c : Nat) (x4 : Int) (x5 : Int) (x6 : Int) : Prop := g.v 0 = (.slice x0b x0n x0c) ∧ g.v 4 = (.int .i64 x4) ∧ g.v 5 = (.int .u8 x5) ∧ g.v 6 = (.int .u8 x6) ∧ g.ds = []
def D4 (K : T4) (g : Env) (h : H) : Prop := nilDs g.ds (vSlice (g.v 0) fun s33b s33n s33c => vInt .i64 (g.v 4) fun i34 => vInt .u8 (g.v 5) fun i35 => vInt .u8 (g.v 6) fun i36 => K s33b s33n s33c i34 i35 i36 h)
theorem D4_ok {K : T4} {g : Env} {h : H} (hq : D4 K g h) : ∃ (x0b : Option Addr) (x0n : Nat) (x0c : Nat) (x4 : Int) (x5 : Int) (x6 : Int), E4 g x0b x0n x0c x4 x5 x6 ∧ K x0b x0n x0c x4 x5 x6 h := by
  obtain ⟨hd, hq⟩ := nilDs_ok hq
  obtain ⟨y38b, y38n, y38c, e37, q39⟩ := vSlice_ok hq
  obtain ⟨y41, e40, q42⟩ := vInt_ok q39
  obtain ⟨y44, e43, q45⟩ := vInt_ok q42
  obtain ⟨y47, e46, q48⟩ := vInt_ok q45
  exact ⟨y38b, y38n, y38c, y41, y44, y47, ⟨e37, e40, e43, e46, hd⟩, q48⟩
noncomputable def n6_c1 : Code := cFst n5_c2
noncomputable def n6_c2 : Code := cSnd n5_c2
noncomputable def n7_c1 : Code := cFst n6_c2
noncomputable def n7_c2 : Code := cSnd n6_c2
abbrev T5 := (Option Addr) → Nat → Nat → Int → Int → Int → Int → H → Prop
def E5 (g : Env) (x0b : Option Addr) (x0n : Nat) (x0c : Nat) (x4 : Int) (x5 : Int) (x6 : Int) (x8 : Int) : Prop := g.v 0 = (.slice x0b x0n x0c) ∧ g.v 4 = (.int .i64 x4) ∧ g.v 5 = (.int .u8 x5) ∧ g.v 6 = (.int .u8 x6) ∧ g.v 8 = (.int .i64 x8) ∧ g.ds = []
def D5 (K : T5) (g : Env) (h : H) : Prop := nilDs g.ds (vSlice (g.v 0) fun s49b s49n s49c => vInt .i64 (g.v 4) fun i50 => vInt .u8 (g.v 5) fun i51 => vInt .u8 (g.v 6) fun i52 => vInt .i64 (g.v 8) fun i53 => K s49b s49n s49c i50 i51 i52 i53 h)
theorem D5_ok {K : T5} {g : Env} {h : H} (hq : D5 K g h) : ∃ (x0b : Option Addr) (x0n : Nat) (x0c : Nat) (x4 : Int) (x5 : Int) (x6 : Int) (x8 : Int), E5 g x0b x0n x0c x4 x5 x6 x8 ∧ K x0b x0n x0c x4 x5 x6 x8 h := by
  obtain ⟨hd, hq⟩ := nilDs_ok hq
  obtain ⟨y55b, y55n, y55c, e54, q56⟩ := vSlice_ok hq
  obtain ⟨y58, e57, q59⟩ := vInt_ok q56
  obtain ⟨y61, e60, q62⟩ := vInt_ok q59
  obtain ⟨y64, e63, q65⟩ := vInt_ok q62
  obtain ⟨y67, e66, q68⟩ := vInt_ok q65
  exact ⟨y55b, y55n, y55c, y58, y61, y64, y67, ⟨e54, e57, e60, e63, e66, hd⟩, q68⟩
noncomputable def n8_c1 : Code := cFst n7_c2
noncomputable def n8_c2 : Code := cSnd n7_c2
abbrev T6 := (Option Addr) → Nat → Nat → Int → Int → Int → Addr → H → Prop
def E6 (g : Env) (x0b : Option Addr) (x0n : Nat) (x0c : Nat) (x4 : Int) (x5 : Int) (x8 : Int) (x9 : Addr) : Prop := g.v 0 = (.slice x0b x0n x0c) ∧ g.v 4 = (.int .i64 x4) ∧ g.v 5 = (.int .u8 x5) ∧ g.v 8 = (.int .i64 x8) ∧ g.v 9 = (.pointer (some x9)) ∧ g.ds = []
def D6 (K : T6) (g : Env) (h : H) : Prop := nilDs g.ds (vSlice (g.v 0) fun s69b s69n s69c => vInt .i64 (g.v 4) fun i70 => vInt .u8 (g.v 5) fun i71 => vInt .i64 (g.v 8) fun i72 => vAddr (g.v 9) fun a73 => K s69b s69n s69c i70 i71 i72 a73 h)
theorem D6_ok {K : T6} {g : Env} {h : H} (hq : D6 K g h) : ∃ (x0b : Option Addr) (x0n : Nat) (x0c : Nat) (x4 : Int) (x5 : Int) (x8 : Int) (x9 : Addr), E6 g x0b x0n x0c x4 x5 x8 x9 ∧ K x0b x0n x0c x4 x5 x8 x9 h := by
  obtain ⟨hd, hq⟩ := nilDs_ok hq
  obtain ⟨y75b, y75n, y75c, e74, q76⟩ := vSlice_ok hq
  obtain ⟨y78, e77, q79⟩ := vInt_ok q76
  obtain ⟨y81, e80, q82⟩ := vInt_ok q79
  obtain ⟨y84, e83, q85⟩ := vInt_ok q82
  obtain ⟨y87, e86, q88⟩ := vAddr_ok q85
  exact ⟨y75b, y75n, y75c, y78, y81, y84, y87, ⟨e74, e77, e80, e83, e86, hd⟩, q88⟩
noncomputable def n9_c1 : Code := cFst n8_c2
noncomputable def n9_c2 : Code := cSnd n8_c2
abbrev T7 := (Option Addr) → Nat → Nat → Int → Int → Addr → H → Prop
def E7 (g : Env) (x0b : Option Addr) (x0n : Nat) (x0c : Nat) (x5 : Int) (x8 : Int) (x9 : Addr) : Prop := g.v 0 = (.slice x0b x0n x0c) ∧ g.v 5 = (.int .u8 x5) ∧ g.v 8 = (.int .i64 x8) ∧ g.v 9 = (.pointer (some x9)) ∧ g.ds = []
def D7 (K : T7) (g : Env) (h : H) : Prop := nilDs g.ds (vSlice (g.v 0) fun s89b s89n s89c => vInt .u8 (g.v 5) fun i90 => vInt .i64 (g.v 8) fun i91 => vAddr (g.v 9) fun a92 => K s89b s89n s89c i90 i91 a92 h)
theorem D7_ok {K : T7} {g : Env} {h : H} (hq : D7 K g h) : ∃ (x0b : Option Addr) (x0n : Nat) (x0c : Nat) (x5 : Int) (x8 : Int) (x9 : Addr), E7 g x0b x0n x0c x5 x8 x9 ∧ K x0b x0n x0c x5 x8 x9 h := by
  obtain ⟨hd, hq⟩ := nilDs_ok hq
  obtain ⟨y94b, y94n, y94c, e93, q95⟩ := vSlice_ok hq
  obtain ⟨y97, e96, q98⟩ := vInt_ok q95
  obtain ⟨y100, e99, q101⟩ := vInt_ok q98
  obtain ⟨y103, e102, q104⟩ := vAddr_ok q101
  exact ⟨y94b, y94n, y94c, y97, y100, y103, ⟨e93, e96, e99, e102, hd⟩, q104⟩
noncomputable def n10_c1 : Code := cFst n9_c2
noncomputable def n10_c2 : Code := cSnd n9_c2
abbrev T8 := (Option Addr) → Nat → Nat → Int → Int → Addr → Int → H → Prop
def E8 (g : Env) (x0b : Option Addr) (x0n : Nat) (x0c : Nat) (x5 : Int) (x8 : Int) (x9 : Addr) (x10 : Int) : Prop := g.v 0 = (.slice x0b x0n x0c) ∧ g.v 5 = (.int .u8 x5) ∧ g.v 8 = (.int .i64 x8) ∧ g.v 9 = (.pointer (some x9)) ∧ g.v 10 = (.int .u8 x10) ∧ g.ds = []
def D8 (K : T8) (g : Env) (h : H) : Prop := nilDs g.ds (vSlice (g.v 0) fun s105b s105n s105c => vInt .u8 (g.v 5) fun i106 => vInt .i64 (g.v 8) fun i107 => vAddr (g.v 9) fun a108 => vInt .u8 (g.v 10) fun i109 => K s105b s105n s105c i106 i107 a108 i109 h)
theorem D8_ok {K : T8} {g : Env} {h : H} (hq : D8 K g h) : ∃ (x0b : Option Addr) (x0n : Nat) (x0c : Nat) (x5 : Int) (x8 : Int) (x9 : Addr) (x10 : Int), E8 g x0b x0n x0c x5 x8 x9 x10 ∧ K x0b x0n x0c x5 x8 x9 x10 h := by
  obtain ⟨hd, hq⟩ := nilDs_ok hq
  obtain ⟨y111b, y111n, y111c, e110, q112⟩ := vSlice_ok hq
  obtain ⟨y114, e113, q115⟩ := vInt_ok q112
  obtain ⟨y117, e116, q118⟩ := vInt_ok q115
  obtain ⟨y120, e119, q121⟩ := vAddr_ok q118
  obtain ⟨y123, e122, q124⟩ := vInt_ok q121
  exact ⟨y111b, y111n, y111c, y114, y117, y120, y123, ⟨e110, e113, e116, e119, e122, hd⟩, q124⟩
noncomputable def n11_c1 : Code := cFst n10_c2
noncomputable def n11_c2 : Code := cSnd n10_c2
abbrev T9 := (Option Addr) → Nat → Nat → Int → Int → Int → H → Prop
def E9 (g : Env) (x0b : Option Addr) (x0n : Nat) (x0c : Nat) (x5 : Int) (x8 : Int) (x10 : Int) : Prop := g.v 0 = (.slice x0b x0n x0c) ∧ g.v 5 = (.int .u8 x5) ∧ g.v 8 = (.int .i64 x8) ∧ g.v 10 = (.int .u8 x10) ∧ g.ds = []
def D9 (K : T9) (g : Env) (h : H) : Prop := nilDs g.ds (vSlice (g.v 0) fun s125b s125n s125c => vInt .u8 (g.v 5) fun i126 => vInt .i64 (g.v 8) fun i127 => vInt .u8 (g.v 10) fun i128 => K s125b s125n s125c i126 i127 i128 h)
theorem D9_ok {K : T9} {g : Env} {h : H} (hq : D9 K g h) : ∃ (x0b : Option Addr) (x0n : Nat) (x0c : Nat) (x5 : Int) (x8 : Int) (x10 : Int), E9 g x0b x0n x0c x5 x8 x10 ∧ K x0b x0n x0c x5 x8 x10 h := by
  obtain ⟨hd, hq⟩ := nilDs_ok hq
  obtain ⟨y130b, y130n, y130c, e129, q131⟩ := vSlice_ok hq
  obtain ⟨y133, e132, q134⟩ := vInt_ok q131
  obtain ⟨y136, e135, q137⟩ := vInt_ok q134
  obtain ⟨y139, e138, q140⟩ := vInt_ok q137
  exact ⟨y130b, y130n, y130c, y133, y136, y139, ⟨e129, e132, e135, e138, hd⟩, q140⟩
noncomputable def n12_c1 : Code := cFst n11_c2
noncomputable def n12_c2 : Code := cSnd n11_c2
noncomputable def n13_c1 : Code := cFst n12_c2
noncomputable def n13_c2 : Code := cSnd n12_c2
abbrev T10 := (Option Addr) → Nat → Nat → Int → Int → Int → Int → H → Prop
def E10 (g : Env) (x0b : Option Addr) (x0n : Nat) (x0c : Nat) (x5 : Int) (x8 : Int) (x10 : Int) (x11 : Int) : Prop := g.v 0 = (.slice x0b x0n x0c) ∧ g.v 5 = (.int .u8 x5) ∧ g.v 8 = (.int .i64 x8) ∧ g.v 10 = (.int .u8 x10) ∧ g.v 11 = (.int .u8 x11) ∧ g.ds = []
def D10 (K : T10) (g : Env) (h : H) : Prop := nilDs g.ds (vSlice (g.v 0) fun s141b s141n s141c => vInt .u8 (g.v 5) fun i142 => vInt .i64 (g.v 8) fun i143 => vInt .u8 (g.v 10) fun i144 => vInt .u8 (g.v 11) fun i145 => K s141b s141n s141c i142 i143 i144 i145 h)
theorem D10_ok {K : T10} {g : Env} {h : H} (hq : D10 K g h) : ∃ (x0b : Option Addr) (x0n : Nat) (x0c : Nat) (x5 : Int) (x8 : Int) (x10 : Int) (x11 : Int), E10 g x0b x0n x0c x5 x8 x10 x11 ∧ K x0b x0n x0c x5 x8 x10 x11 h := by
  obtain ⟨hd, hq⟩ := nilDs_ok hq
  obtain ⟨y147b, y147n, y147c, e146, q148⟩ := vSlice_ok hq
  obtain ⟨y150, e149, q151⟩ := vInt_ok q148
  obtain ⟨y153, e152, q154⟩ := vInt_ok q151
  obtain ⟨y156, e155, q157⟩ := vInt_ok q154
  obtain ⟨y159, e158, q160⟩ := vInt_ok q157
  exact ⟨y147b, y147n, y147c, y150, y153, y156, y159, ⟨e146, e149, e152, e155, e158, hd⟩, q160⟩
noncomputable def n14_c1 : Code := cFst n13_c2
noncomputable def n14_c2 : Code := cSnd n13_c2
noncomputable def n15_c1 : Code := cFst n14_c2
noncomputable def n15_c2 : Code := cSnd n14_c2
abbrev T11 := (Option Addr) → Nat → Nat → Int → Int → Int → H → Prop
def E11 (g : Env) (x0b : Option Addr) (x0n : Nat) (x0c : Nat) (x5 : Int) (x10 : Int) (x11 : Int) : Prop := g.v 0 = (.slice x0b x0n x0c) ∧ g.v 5 = (.int .u8 x5) ∧ g.v 10 = (.int .u8 x10) ∧ g.v 11 = (.int .u8 x11) ∧ g.ds = []
def D11 (K : T11) (g : Env) (h : H) : Prop := nilDs g.ds (vSlice (g.v 0) fun s161b s161n s161c => vInt .u8 (g.v 5) fun i162 => vInt .u8 (g.v 10) fun i163 => vInt .u8 (g.v 11) fun i164 => K s161b s161n s161c i162 i163 i164 h)
theorem D11_ok {K : T11} {g : Env} {h : H} (hq : D11 K g h) : ∃ (x0b : Option Addr) (x0n : Nat) (x0c : Nat) (x5 : Int) (x10 : Int) (x11 : Int), E11 g x0b x0n x0c x5 x10 x11 ∧ K x0b x0n x0c x5 x10 x11 h := by
  obtain ⟨hd, hq⟩ := nilDs_ok hq
  obtain ⟨y166b, y166n, y166c, e165, q167⟩ := vSlice_ok hq
  obtain ⟨y169, e168, q170⟩ := vInt_ok q167
  obtain ⟨y172, e171, q173⟩ := vInt_ok q170
  obtain ⟨y175, e174, q176⟩ := vInt_ok q173
  exact ⟨y166b, y166n, y166c, y169, y172, y175, ⟨e165, e168, e171, e174, hd⟩, q176⟩
abbrev n16 (x0b : Option Addr) (x0n : Nat) (x0c : Nat) (x5 : Int) (x10 : Int) (x11 : Int) (Kn : T0) (Kr : T0) (h : H) : Prop :=
  (0 ≤ (3 : Int) ∧ (3 : Int) < (x0n : Int)) ∧ (vSome x0b fun a177 => ∃ i178, cell h (a177.add (Int.toNat (3 : Int) * 1)) = some (.int .u8 i178) ∧ (Spl (i178 < (128 : Int)) (Kr (65533 : Int) (1 : Int) h) (Spl ((191 : Int) < i178) (Kr (65533 : Int) (1 : Int) h) (Rng .i32 (bits .and .u8 x5 (7 : Int)) ∧ (SemH Tryd.prog (binS .shl 21 (.tmp 106) (.const (.int .u64 (18 : Int))) (.int .i32 (bits .and .u8 x5 (7 : Int))) (.int .u64 (18 : Int))) h fun v179 h180 => vInt .i32 v179 fun i181 => Rng .i32 (bits .and .u8 x10 (63 : Int)) ∧ (SemH Tryd.prog (binS .shl 21 (.tmp 110) (.const (.int .u64 (12 : Int))) (.int .i32 (bits .and .u8 x10 (63 : Int))) (.int .u64 (12 : Int))) h180 fun v182 h183 => vInt .i32 v182 fun i184 => Rng .i32 (bits .and .u8 x11 (63 : Int)) ∧ (SemH Tryd.prog (binS .shl 21 (.tmp 115) (.const (.int .u64 (6 : Int))) (.int .i32 (bits .and .u8 x11 (63 : Int))) (.int .u64 (6 : Int))) h183 fun v185 h186 => vInt .i32 v185 fun i187 => Rng .i32 (bits .and .u8 i178 (63 : Int)) ∧ (Kr (bits .or .i32 (bits .or .i32 (bits .or .i32 i181 i184) i187) (bits .and .u8 i178 (63 : Int))) (4 : Int) h186))))))))
theorem n16_ok (x0b : Option Addr) (x0n : Nat) (x0c : Nat) (x5 : Int) (x10 : Int) (x11 : Int) (Kn : T0) (Kr : T0) (g : Env) (hg : E11 g x0b x0n x0c x5 x10 x11) (h : H) (hS : n16 x0b x0n x0c x5 x10 x11 Kn Kr h) : wpC none Tryd.prog 122 n15_c2 (Q0 Kn Kr) g h := by
  obtain ⟨hg0, hg5, hg10, hg11, hds⟩ := hg
  refine wpC_of_wpx (by kernel_rfl) (by kernel_rfl) (g' := ((((⟨g.v, []⟩ : Env).upd (some 0) (.slice x0b x0n x0c)).upd (some 5) (.int .u8 x5)).upd (some 10) (.int .u8 x10)).upd (some 11) (.int .u8 x11)) (by rw [env_ds hds, upd_self hg0, upd_self hg5, upd_self hg10, upd_self hg11]) ?_
  have e : (n16 x0b x0n x0c x5 x10 x11 Kn Kr h) = wpx none Tryd.prog 122 n15_c2 (Q0 Kn Kr) (((((⟨g.v, []⟩ : Env).upd (some 0) (.slice x0b x0n x0c)).upd (some 5) (.int .u8 x5)).upd (some 10) (.int .u8 x10)).upd (some 11) (.int .u8 x11)) h := by kernel_rfl
  exact e ▸ hS
def Q1 (Kn : T11) (Kr : T0) : XPost
  | .normal, g, h => D11 Kn g h
  | .ret, g, h => D0 Kr g h
  | _, _, _ => False
noncomputable def n17_c1 : Code := cFst n15_c1
noncomputable def n17_c2 : Code := cSnd n15_c1
abbrev T12 := (Option Addr) → Nat → Nat → Int → Int → Int → Bool → H → Prop
def E12 (g : Env) (x0b : Option Addr) (x0n : Nat) (x0c : Nat) (x5 : Int) (x10 : Int) (x11 : Int) (x81 : Bool) : Prop := g.v 0 = (.slice x0b x0n x0c) ∧ g.v 5 = (.int .u8 x5) ∧ g.v 10 = (.int .u8 x10) ∧ g.v 11 = (.int .u8 x11) ∧ g.v 81 = (.bool x81) ∧ g.ds = []
def D12 (K : T12) (g : Env) (h : H) : Prop := nilDs g.ds (vSlice (g.v 0) fun s188b s188n s188c => vInt .u8 (g.v 5) fun i189 => vInt .u8 (g.v 10) fun i190 => vInt .u8 (g.v 11) fun i191 => vBool (g.v 81) fun b192 => K s188b s188n s188c i189 i190 i191 b192 h)
theorem D12_ok {K : T12} {g : Env} {h : H} (hq : D12 K g h) : ∃ (x0b : Option Addr) (x0n : Nat) (x0c : Nat) (x5 : Int) (x10 : Int) (x11 : Int) (x81 : Bool), E12 g x0b x0n x0c x5 x10 x11 x81 ∧ K x0b x0n x0c x5 x10 x11 x81 h := by
  obtain ⟨hd, hq⟩ := nilDs_ok hq
  obtain ⟨y194b, y194n, y194c, e193, q195⟩ := vSlice_ok hq
  obtain ⟨y197, e196, q198⟩ := vInt_ok q195
  obtain ⟨y200, e199, q201⟩ := vInt_ok q198
  obtain ⟨y203, e202, q204⟩ := vInt_ok q201
  obtain ⟨y206, e205, q207⟩ := vBool_ok q204
  exact ⟨y194b, y194n, y194c, y197, y200, y203, y206, ⟨e193, e196, e199, e202, e205, hd⟩, q207⟩
abbrev n18 (x0b : Option Addr) (x0n : Nat) (x0c : Nat) (x5 : Int) (x10 : Int) (x11 : Int) (x81 : Bool) (Kn : T11) (Kr : T0) (h : H) : Prop :=
  cond x81 (Rng .i32 (bits .and .u8 x5 (15 : Int)) ∧ (SemH Tryd.prog (binS .shl 21 (.tmp 84) (.const (.int .u64 (12 : Int))) (.int .i32 (bits .and .u8 x5 (15 : Int))) (.int .u64 (12 : Int))) h fun v208 h209 => vInt .i32 v208 fun i210 => Rng .i32 (bits .and .u8 x10 (63 : Int)) ∧ (SemH Tryd.prog (binS .shl 21 (.tmp 88) (.const (.int .u64 (6 : Int))) (.int .i32 (bits .and .u8 x10 (63 : Int))) (.int .u64 (6 : Int))) h209 fun v211 h212 => vInt .i32 v211 fun i213 => Rng .i32 (bits .and .u8 x11 (63 : Int)) ∧ (Kr (bits .or .i32 (bits .or .i32 i210 i213) (bits .and .u8 x11 (63 : Int))) (3 : Int) h212)))) (Kn x0b x0n x0c x5 x10 x11 h)
theorem n18_ok (x0b : Option Addr) (x0n : Nat) (x0c : Nat) (x5 : Int) (x10 : Int) (x11 : Int) (x81 : Bool) (Kn : T11) (Kr : T0) (g : Env) (hg : E12 g x0b x0n x0c x5 x10 x11 x81) (h : H) (hS : n18 x0b x0n x0c x5 x10 x11 x81 Kn Kr h) : wpC none Tryd.prog 122 n17_c2 (Q1 Kn Kr) g h := by
  obtain ⟨hg0, hg5, hg10, hg11, hg81, hds⟩ := hg
  refine wpC_of_wpx (by kernel_rfl) (by kernel_rfl) (g' := (((((⟨g.v, []⟩ : Env).upd (some 0) (.slice x0b x0n x0c)).upd (some 5) (.int .u8 x5)).upd (some 10) (.int .u8 x10)).upd (some 11) (.int .u8 x11)).upd (some 81) (.bool x81)) (by rw [env_ds hds, upd_self hg0, upd_self hg5, upd_self hg10, upd_self hg11, upd_self hg81]) ?_
  have e : (n18 x0b x0n x0c x5 x10 x11 x81 Kn Kr h) = wpx none Tryd.prog 122 n17_c2 (Q1 Kn Kr) ((((((⟨g.v, []⟩ : Env).upd (some 0) (.slice x0b x0n x0c)).upd (some 5) (.int .u8 x5)).upd (some 10) (.int .u8 x10)).upd (some 11) (.int .u8 x11)).upd (some 81) (.bool x81)) h := by kernel_rfl
  exact e ▸ hS
def Q2 (Kn : T12) (Kr : T0) : XPost
  | .normal, g, h => D12 Kn g h
  | .ret, g, h => D0 Kr g h
  | _, _, _ => False
abbrev n17 (x0b : Option Addr) (x0n : Nat) (x0c : Nat) (x5 : Int) (x8 : Int) (x10 : Int) (x11 : Int) (Kn : T11) (Kr : T0) (h : H) : Prop :=
  Spl (x8 ≤ (3 : Int)) (n18 x0b x0n x0c x5 x10 x11 true Kn Kr h) (n18 x0b x0n x0c x5 x10 x11 false Kn Kr h)
theorem n17_ok (x0b : Option Addr) (x0n : Nat) (x0c : Nat) (x5 : Int) (x8 : Int) (x10 : Int) (x11 : Int) (Kn : T11) (Kr : T0) (g : Env) (hg : E10 g x0b x0n x0c x5 x8 x10 x11) (h : H) (hS : n17 x0b x0n x0c x5 x8 x10 x11 Kn Kr h) : wpC none Tryd.prog 122 n15_c1 (Q1 Kn Kr) g h := by
  obtain ⟨hg0, hg5, hg8, hg10, hg11, hds⟩ := hg
  refine wpC_seq' (x := n17_c1) (y := n17_c2) (Q' := (Q2 (fun z0b z0n z0c z5 z10 z11 z81 h => n18 z0b z0n z0c z5 z10 z11 z81 Kn Kr h) Kr)) (by kernel_rfl) ?_ ?_
  · refine wpC_of_wpx (by kernel_rfl) (by kernel_rfl) (g' := (((((⟨g.v, []⟩ : Env).upd (some 0) (.slice x0b x0n x0c)).upd (some 5) (.int .u8 x5)).upd (some 8) (.int .i64 x8)).upd (some 10) (.int .u8 x10)).upd (some 11) (.int .u8 x11)) (by rw [env_ds hds, upd_self hg0, upd_self hg5, upd_self hg8, upd_self hg10, upd_self hg11]) ?_
    have e : (n17 x0b x0n x0c x5 x8 x10 x11 Kn Kr h) = wpx none Tryd.prog 122 n17_c1 (Q2 (fun z0b z0n z0c z5 z10 z11 z81 h => n18 z0b z0n z0c z5 z10 z11 z81 Kn Kr h) Kr) ((((((⟨g.v, []⟩ : Env).upd (some 0) (.slice x0b x0n x0c)).upd (some 5) (.int .u8 x5)).upd (some 8) (.int .i64 x8)).upd (some 10) (.int .u8 x10)).upd (some 11) (.int .u8 x11)) h := by kernel_rfl
    exact e ▸ hS
  · intro e g' h' hq
    cases e with
    | normal =>
      have hq : D12 (fun z0b z0n z0c z5 z10 z11 z81 h => n18 z0b z0n z0c z5 z10 z11 z81 Kn Kr h) g' h' := hq
      obtain ⟨y0b, y0n, y0c, y5, y10, y11, y81, hg', hq⟩ := D12_ok hq
      exact n18_ok y0b y0n y0c y5 y10 y11 y81 Kn Kr g' hg' h' hq
    | _ => exact hq
abbrev n15 (x0b : Option Addr) (x0n : Nat) (x0c : Nat) (x5 : Int) (x8 : Int) (x10 : Int) (x11 : Int) (Kn : T0) (Kr : T0) (h : H) : Prop := n17 x0b x0n x0c x5 x8 x10 x11 (fun z0b z0n z0c z5 z10 z11 h => n16 z0b z0n z0c z5 z10 z11 Kn Kr h) Kr h
theorem n15_ok (x0b : Option Addr) (x0n : Nat) (x0c : Nat) (x5 : Int) (x8 : Int) (x10 : Int) (x11 : Int) (Kn : T0) (Kr : T0) (g : Env) (hg : E10 g x0b x0n x0c x5 x8 x10 x11) (h : H) (hS : n15 x0b x0n x0c x5 x8 x10 x11 Kn Kr h) : wpC none Tryd.prog 122 n14_c2 (Q0 Kn Kr) g h := by
  refine wpC_seq' (x := n15_c1) (y := n15_c2) (by kernel_rfl) (n17_ok x0b x0n x0c x5 x8 x10 x11 (fun z0b z0n z0c z5 z10 z11 h => n16 z0b z0n z0c z5 z10 z11 Kn Kr h) Kr g hg h hS) ?_
  intro e g' h' hq
  cases e with
  | normal =>
    have hq : D11 (fun z0b z0n z0c z5 z10 z11 h => n16 z0b z0n z0c z5 z10 z11 Kn Kr h) g' h' := hq
    obtain ⟨y0b, y0n, y0c, y5, y10, y11, hg', hq⟩ := D11_ok hq
    exact n16_ok y0b y0n y0c y5 y10 y11 Kn Kr g' hg' h' hq
  | _ => exact hq
def Q3 (Kn : T10) (Kr : T0) : XPost
  | .normal, g, h => D10 Kn g h
  | .ret, g, h => D0 Kr g h
  | _, _, _ => False
abbrev n14 (x0b : Option Addr) (x0n : Nat) (x0c : Nat) (x5 : Int) (x8 : Int) (x10 : Int) (x11 : Int) (Kn : T0) (Kr : T0) (h : H) : Prop :=
  Spl (x11 < (128 : Int)) (Kr (65533 : Int) (1 : Int) h) (Spl ((191 : Int) < x11) (Kr (65533 : Int) (1 : Int) h) (n15 x0b x0n x0c x5 x8 x10 x11 Kn Kr h))
theorem n14_ok (x0b : Option Addr) (x0n : Nat) (x0c : Nat) (x5 : Int) (x8 : Int) (x10 : Int) (x11 : Int) (Kn : T0) (Kr : T0) (g : Env) (hg : E10 g x0b x0n x0c x5 x8 x10 x11) (h : H) (hS : n14 x0b x0n x0c x5 x8 x10 x11 Kn Kr h) : wpC none Tryd.prog 122 n13_c2 (Q0 Kn Kr) g h := by
  obtain ⟨hg0, hg5, hg8, hg10, hg11, hds⟩ := hg
  refine wpC_seq' (x := n14_c1) (y := n14_c2) (Q' := (Q3 (fun z0b z0n z0c z5 z8 z10 z11 h => n15 z0b z0n z0c z5 z8 z10 z11 Kn Kr h) Kr)) (by kernel_rfl) ?_ ?_
  · refine wpC_of_wpx (by kernel_rfl) (by kernel_rfl) (g' := (((((⟨g.v, []⟩ : Env).upd (some 0) (.slice x0b x0n x0c)).upd (some 5) (.int .u8 x5)).upd (some 8) (.int .i64 x8)).upd (some 10) (.int .u8 x10)).upd (some 11) (.int .u8 x11)) (by rw [env_ds hds, upd_self hg0, upd_self hg5, upd_self hg8, upd_self hg10, upd_self hg11]) ?_
    have e : (n14 x0b x0n x0c x5 x8 x10 x11 Kn Kr h) = wpx none Tryd.prog 122 n14_c1 (Q3 (fun z0b z0n z0c z5 z8 z10 z11 h => n15 z0b z0n z0c z5 z8 z10 z11 Kn Kr h) Kr) ((((((⟨g.v, []⟩ : Env).upd (some 0) (.slice x0b x0n x0c)).upd (some 5) (.int .u8 x5)).upd (some 8) (.int .i64 x8)).upd (some 10) (.int .u8 x10)).upd (some 11) (.int .u8 x11)) h := by kernel_rfl
    exact e ▸ hS
  · intro e g' h' hq
    cases e with
    | normal =>
      have hq : D10 (fun z0b z0n z0c z5 z8 z10 z11 h => n15 z0b z0n z0c z5 z8 z10 z11 Kn Kr h) g' h' := hq
      obtain ⟨y0b, y0n, y0c, y5, y8, y10, y11, hg', hq⟩ := D10_ok hq
      exact n15_ok y0b y0n y0c y5 y8 y10 y11 Kn Kr g' hg' h' hq
    | _ => exact hq
abbrev n13 (x0b : Option Addr) (x0n : Nat) (x0c : Nat) (x5 : Int) (x8 : Int) (x10 : Int) (Kn : T0) (Kr : T0) (h : H) : Prop :=
  (0 ≤ (2 : Int) ∧ (2 : Int) < (x0n : Int)) ∧ (vSome x0b fun a214 => ∃ i215, cell h (a214.add (Int.toNat (2 : Int) * 1)) = some (.int .u8 i215) ∧ (n14 x0b x0n x0c x5 x8 x10 i215 Kn Kr h))
theorem n13_ok (x0b : Option Addr) (x0n : Nat) (x0c : Nat) (x5 : Int) (x8 : Int) (x10 : Int) (Kn : T0) (Kr : T0) (g : Env) (hg : E9 g x0b x0n x0c x5 x8 x10) (h : H) (hS : n13 x0b x0n x0c x5 x8 x10 Kn Kr h) : wpC none Tryd.prog 122 n12_c2 (Q0 Kn Kr) g h := by
  obtain ⟨hg0, hg5, hg8, hg10, hds⟩ := hg
  refine wpC_seq' (x := n13_c1) (y := n13_c2) (Q' := (Q3 (fun z0b z0n z0c z5 z8 z10 z11 h => n14 z0b z0n z0c z5 z8 z10 z11 Kn Kr h) Kr)) (by kernel_rfl) ?_ ?_
  · refine wpC_of_wpx (by kernel_rfl) (by kernel_rfl) (g' := ((((⟨g.v, []⟩ : Env).upd (some 0) (.slice x0b x0n x0c)).upd (some 5) (.int .u8 x5)).upd (some 8) (.int .i64 x8)).upd (some 10) (.int .u8 x10)) (by rw [env_ds hds, upd_self hg0, upd_self hg5, upd_self hg8, upd_self hg10]) ?_
    have e : (n13 x0b x0n x0c x5 x8 x10 Kn Kr h) = wpx none Tryd.prog 122 n13_c1 (Q3 (fun z0b z0n z0c z5 z8 z10 z11 h => n14 z0b z0n z0c z5 z8 z10 z11 Kn Kr h) Kr) (((((⟨g.v, []⟩ : Env).upd (some 0) (.slice x0b x0n x0c)).upd (some 5) (.int .u8 x5)).upd (some 8) (.int .i64 x8)).upd (some 10) (.int .u8 x10)) h := by kernel_rfl
    exact e ▸ hS
  · intro e g' h' hq
    cases e with
    | normal =>
      have hq : D10 (fun z0b z0n z0c z5 z8 z10 z11 h => n14 z0b z0n z0c z5 z8 z10 z11 Kn Kr h) g' h' := hq
      obtain ⟨y0b, y0n, y0c, y5, y8, y10, y11, hg', hq⟩ := D10_ok hq
      exact n14_ok y0b y0n y0c y5 y8 y10 y11 Kn Kr g' hg' h' hq
    | _ => exact hq
def Q4 (Kn : T9) (Kr : T0) : XPost
  | .normal, g, h => D9 Kn g h
  | .ret, g, h => D0 Kr g h
  | _, _, _ => False
abbrev n12 (x0b : Option Addr) (x0n : Nat) (x0c : Nat) (x5 : Int) (x8 : Int) (x10 : Int) (Kn : T0) (Kr : T0) (h : H) : Prop :=
  Spl (x8 ≤ (2 : Int)) (Rng .i32 (bits .and .u8 x5 (31 : Int)) ∧ (SemH Tryd.prog (binS .shl 21 (.tmp 65) (.const (.int .u64 (6 : Int))) (.int .i32 (bits .and .u8 x5 (31 : Int))) (.int .u64 (6 : Int))) h fun v216 h217 => vInt .i32 v216 fun i218 => Rng .i32 (bits .and .u8 x10 (63 : Int)) ∧ (Kr (bits .or .i32 i218 (bits .and .u8 x10 (63 : Int))) (2 : Int) h217))) (n13 x0b x0n x0c x5 x8 x10 Kn Kr h)
theorem n12_ok (x0b : Option Addr) (x0n : Nat) (x0c : Nat) (x5 : Int) (x8 : Int) (x10 : Int) (Kn : T0) (Kr : T0) (g : Env) (hg : E9 g x0b x0n x0c x5 x8 x10) (h : H) (hS : n12 x0b x0n x0c x5 x8 x10 Kn Kr h) : wpC none Tryd.prog 122 n11_c2 (Q0 Kn Kr) g h := by
  obtain ⟨hg0, hg5, hg8, hg10, hds⟩ := hg
  refine wpC_seq' (x := n12_c1) (y := n12_c2) (Q' := (Q4 (fun z0b z0n z0c z5 z8 z10 h => n13 z0b z0n z0c z5 z8 z10 Kn Kr h) Kr)) (by kernel_rfl) ?_ ?_
  · refine wpC_of_wpx (by kernel_rfl) (by kernel_rfl) (g' := ((((⟨g.v, []⟩ : Env).upd (some 0) (.slice x0b x0n x0c)).upd (some 5) (.int .u8 x5)).upd (some 8) (.int .i64 x8)).upd (some 10) (.int .u8 x10)) (by rw [env_ds hds, upd_self hg0, upd_self hg5, upd_self hg8, upd_self hg10]) ?_
    have e : (n12 x0b x0n x0c x5 x8 x10 Kn Kr h) = wpx none Tryd.prog 122 n12_c1 (Q4 (fun z0b z0n z0c z5 z8 z10 h => n13 z0b z0n z0c z5 z8 z10 Kn Kr h) Kr) (((((⟨g.v, []⟩ : Env).upd (some 0) (.slice x0b x0n x0c)).upd (some 5) (.int .u8 x5)).upd (some 8) (.int .i64 x8)).upd (some 10) (.int .u8 x10)) h := by kernel_rfl
    exact e ▸ hS
  · intro e g' h' hq
    cases e with
    | normal =>
      have hq : D9 (fun z0b z0n z0c z5 z8 z10 h => n13 z0b z0n z0c z5 z8 z10 Kn Kr h) g' h' := hq
      obtain ⟨y0b, y0n, y0c, y5, y8, y10, hg', hq⟩ := D9_ok hq
      exact n13_ok y0b y0n y0c y5 y8 y10 Kn Kr g' hg' h' hq
    | _ => exact hq
abbrev n11 (x0b : Option Addr) (x0n : Nat) (x0c : Nat) (x5 : Int) (x8 : Int) (x9 : Addr) (x10 : Int) (Kn : T0) (Kr : T0) (h : H) : Prop :=
  ∃ i219, cell h (x9.add 0) = some (.int .u8 i219) ∧ (Spl (x10 < i219) (Kr (65533 : Int) (1 : Int) h) (∃ i220, cell h (x9.add 1) = some (.int .u8 i220) ∧ (Spl (i220 < x10) (Kr (65533 : Int) (1 : Int) h) (n12 x0b x0n x0c x5 x8 x10 Kn Kr h))))
theorem n11_ok (x0b : Option Addr) (x0n : Nat) (x0c : Nat) (x5 : Int) (x8 : Int) (x9 : Addr) (x10 : Int) (Kn : T0) (Kr : T0) (g : Env) (hg : E8 g x0b x0n x0c x5 x8 x9 x10) (h : H) (hS : n11 x0b x0n x0c x5 x8 x9 x10 Kn Kr h) : wpC none Tryd.prog 122 n10_c2 (Q0 Kn Kr) g h := by
  obtain ⟨hg0, hg5, hg8, hg9, hg10, hds⟩ := hg
  refine wpC_seq' (x := n11_c1) (y := n11_c2) (Q' := (Q4 (fun z0b z0n z0c z5 z8 z10 h => n12 z0b z0n z0c z5 z8 z10 Kn Kr h) Kr)) (by kernel_rfl) ?_ ?_
  · refine wpC_of_wpx (by kernel_rfl) (by kernel_rfl) (g' := (((((⟨g.v, []⟩ : Env).upd (some 0) (.slice x0b x0n x0c)).upd (some 5) (.int .u8 x5)).upd (some 8) (.int .i64 x8)).upd (some 9) (.pointer (some x9))).upd (some 10) (.int .u8 x10)) (by rw [env_ds hds, upd_self hg0, upd_self hg5, upd_self hg8, upd_self hg9, upd_self hg10]) ?_
    have e : (n11 x0b x0n x0c x5 x8 x9 x10 Kn Kr h) = wpx none Tryd.prog 122 n11_c1 (Q4 (fun z0b z0n z0c z5 z8 z10 h => n12 z0b z0n z0c z5 z8 z10 Kn Kr h) Kr) ((((((⟨g.v, []⟩ : Env).upd (some 0) (.slice x0b x0n x0c)).upd (some 5) (.int .u8 x5)).upd (some 8) (.int .i64 x8)).upd (some 9) (.pointer (some x9))).upd (some 10) (.int .u8 x10)) h := by kernel_rfl
    exact e ▸ hS
  · intro e g' h' hq
    cases e with
    | normal =>
      have hq : D9 (fun z0b z0n z0c z5 z8 z10 h => n12 z0b z0n z0c z5 z8 z10 Kn Kr h) g' h' := hq
      obtain ⟨y0b, y0n, y0c, y5, y8, y10, hg', hq⟩ := D9_ok hq
      exact n12_ok y0b y0n y0c y5 y8 y10 Kn Kr g' hg' h' hq
    | _ => exact hq
def Q5 (Kn : T8) (Kr : T0) : XPost
  | .normal, g, h => D8 Kn g h
  | .ret, g, h => D0 Kr g h
  | _, _, _ => False
abbrev n10 (x0b : Option Addr) (x0n : Nat) (x0c : Nat) (x5 : Int) (x8 : Int) (x9 : Addr) (Kn : T0) (Kr : T0) (h : H) : Prop :=
  (0 ≤ (1 : Int) ∧ (1 : Int) < (x0n : Int)) ∧ (vSome x0b fun a221 => ∃ i222, cell h (a221.add (Int.toNat (1 : Int) * 1)) = some (.int .u8 i222) ∧ (n11 x0b x0n x0c x5 x8 x9 i222 Kn Kr h))
theorem n10_ok (x0b : Option Addr) (x0n : Nat) (x0c : Nat) (x5 : Int) (x8 : Int) (x9 : Addr) (Kn : T0) (Kr : T0) (g : Env) (hg : E7 g x0b x0n x0c x5 x8 x9) (h : H) (hS : n10 x0b x0n x0c x5 x8 x9 Kn Kr h) : wpC none Tryd.prog 122 n9_c2 (Q0 Kn Kr) g h := by
  obtain ⟨hg0, hg5, hg8, hg9, hds⟩ := hg
  refine wpC_seq' (x := n10_c1) (y := n10_c2) (Q' := (Q5 (fun z0b z0n z0c z5 z8 z9 z10 h => n11 z0b z0n z0c z5 z8 z9 z10 Kn Kr h) Kr)) (by kernel_rfl) ?_ ?_
  · refine wpC_of_wpx (by kernel_rfl) (by kernel_rfl) (g' := ((((⟨g.v, []⟩ : Env).upd (some 0) (.slice x0b x0n x0c)).upd (some 5) (.int .u8 x5)).upd (some 8) (.int .i64 x8)).upd (some 9) (.pointer (some x9))) (by rw [env_ds hds, upd_self hg0, upd_self hg5, upd_self hg8, upd_self hg9]) ?_
    have e : (n10 x0b x0n x0c x5 x8 x9 Kn Kr h) = wpx none Tryd.prog 122 n10_c1 (Q5 (fun z0b z0n z0c z5 z8 z9 z10 h => n11 z0b z0n z0c z5 z8 z9 z10 Kn Kr h) Kr) (((((⟨g.v, []⟩ : Env).upd (some 0) (.slice x0b x0n x0c)).upd (some 5) (.int .u8 x5)).upd (some 8) (.int .i64 x8)).upd (some 9) (.pointer (some x9))) h := by kernel_rfl
    exact e ▸ hS
  · intro e g' h' hq
    cases e with
    | normal =>
      have hq : D8 (fun z0b z0n z0c z5 z8 z9 z10 h => n11 z0b z0n z0c z5 z8 z9 z10 Kn Kr h) g' h' := hq
      obtain ⟨y0b, y0n, y0c, y5, y8, y9, y10, hg', hq⟩ := D8_ok hq
      exact n11_ok y0b y0n y0c y5 y8 y9 y10 Kn Kr g' hg' h' hq
    | _ => exact hq
def Q6 (Kn : T7) (Kr : T0) : XPost
  | .normal, g, h => D7 Kn g h
  | .ret, g, h => D0 Kr g h
  | _, _, _ => False
abbrev n9 (x0b : Option Addr) (x0n : Nat) (x0c : Nat) (x4 : Int) (x5 : Int) (x8 : Int) (x9 : Addr) (Kn : T0) (Kr : T0) (h : H) : Prop :=
  Spl (x4 < x8) (Kr (65533 : Int) (1 : Int) h) (n10 x0b x0n x0c x5 x8 x9 Kn Kr h)
theorem n9_ok (x0b : Option Addr) (x0n : Nat) (x0c : Nat) (x4 : Int) (x5 : Int) (x8 : Int) (x9 : Addr) (Kn : T0) (Kr : T0) (g : Env) (hg : E6 g x0b x0n x0c x4 x5 x8 x9) (h : H) (hS : n9 x0b x0n x0c x4 x5 x8 x9 Kn Kr h) : wpC none Tryd.prog 122 n8_c2 (Q0 Kn Kr) g h := by
  obtain ⟨hg0, hg4, hg5, hg8, hg9, hds⟩ := hg
  refine wpC_seq' (x := n9_c1) (y := n9_c2) (Q' := (Q6 (fun z0b z0n z0c z5 z8 z9 h => n10 z0b z0n z0c z5 z8 z9 Kn Kr h) Kr)) (by kernel_rfl) ?_ ?_
  · refine wpC_of_wpx (by kernel_rfl) (by kernel_rfl) (g' := (((((⟨g.v, []⟩ : Env).upd (some 0) (.slice x0b x0n x0c)).upd (some 4) (.int .i64 x4)).upd (some 5) (.int .u8 x5)).upd (some 8) (.int .i64 x8)).upd (some 9) (.pointer (some x9))) (by rw [env_ds hds, upd_self hg0, upd_self hg4, upd_self hg5, upd_self hg8, upd_self hg9]) ?_
    have e : (n9 x0b x0n x0c x4 x5 x8 x9 Kn Kr h) = wpx none Tryd.prog 122 n9_c1 (Q6 (fun z0b z0n z0c z5 z8 z9 h => n10 z0b z0n z0c z5 z8 z9 Kn Kr h) Kr) ((((((⟨g.v, []⟩ : Env).upd (some 0) (.slice x0b x0n x0c)).upd (some 4) (.int .i64 x4)).upd (some 5) (.int .u8 x5)).upd (some 8) (.int .i64 x8)).upd (some 9) (.pointer (some x9))) h := by kernel_rfl
    exact e ▸ hS
  · intro e g' h' hq
    cases e with
    | normal =>
      have hq : D7 (fun z0b z0n z0c z5 z8 z9 h => n10 z0b z0n z0c z5 z8 z9 Kn Kr h) g' h' := hq
      obtain ⟨y0b, y0n, y0c, y5, y8, y9, hg', hq⟩ := D7_ok hq
      exact n10_ok y0b y0n y0c y5 y8 y9 Kn Kr g' hg' h' hq
    | _ => exact hq
def Q7 (Kn : T6) (Kr : T0) : XPost
  | .normal, g, h => D6 Kn g h
  | .ret, g, h => D0 Kr g h
  | _, _, _ => False
abbrev n8 (x0b : Option Addr) (x0n : Nat) (x0c : Nat) (x4 : Int) (x5 : Int) (x6 : Int) (x8 : Int) (Kn : T0) (Kr : T0) (h : H) : Prop :=
  SemH Tryd.prog (binS .shr 5 (.tmp 41) (.const (.int .u64 (4 : Int))) (.int .u8 x6) (.int .u64 (4 : Int))) h fun v223 h224 => vInt .u8 v223 fun i225 => (0 ≤ i225 ∧ i225 < ((16 : Nat) : Int)) ∧ (∃ i226, cell h224 ((((Ad 1).add (Int.toNat i225 * 2))).add 0) = some (.int .u8 i226) ∧ (∃ i227, cell h224 ((((Ad 1).add (Int.toNat i225 * 2))).add 1) = some (.int .u8 i227) ∧ (newx h224 ⟨[(.int .u8 (0 : Int)), (.int .u8 (0 : Int))]⟩ 68 fun a228 h229 => stL a228 [(.int .u8 i226), (.int .u8 i227)] 0 h229 fun h230 => n9 x0b x0n x0c x4 x5 x8 a228 Kn Kr h230)))
theorem n8_ok (x0b : Option Addr) (x0n : Nat) (x0c : Nat) (x4 : Int) (x5 : Int) (x6 : Int) (x8 : Int) (Kn : T0) (Kr : T0) (g : Env) (hg : E5 g x0b x0n x0c x4 x5 x6 x8) (h : H) (hS : n8 x0b x0n x0c x4 x5 x6 x8 Kn Kr h) : wpC none Tryd.prog 122 n7_c2 (Q0 Kn Kr) g h := by
  obtain ⟨hg0, hg4, hg5, hg6, hg8, hds⟩ := hg
  refine wpC_seq' (x := n8_c1) (y := n8_c2) (Q' := (Q7 (fun z0b z0n z0c z4 z5 z8 z9 h => n9 z0b z0n z0c z4 z5 z8 z9 Kn Kr h) Kr)) (by kernel_rfl) ?_ ?_
  · refine wpC_of_wpx (by kernel_rfl) (by kernel_rfl) (g' := (((((⟨g.v, []⟩ : Env).upd (some 0) (.slice x0b x0n x0c)).upd (some 4) (.int .i64 x4)).upd (some 5) (.int .u8 x5)).upd (some 6) (.int .u8 x6)).upd (some 8) (.int .i64 x8)) (by rw [env_ds hds, upd_self hg0, upd_self hg4, upd_self hg5, upd_self hg6, upd_self hg8]) ?_
    have e : (n8 x0b x0n x0c x4 x5 x6 x8 Kn Kr h) = wpx none Tryd.prog 122 n8_c1 (Q7 (fun z0b z0n z0c z4 z5 z8 z9 h => n9 z0b z0n z0c z4 z5 z8 z9 Kn Kr h) Kr) ((((((⟨g.v, []⟩ : Env).upd (some 0) (.slice x0b x0n x0c)).upd (some 4) (.int .i64 x4)).upd (some 5) (.int .u8 x5)).upd (some 6) (.int .u8 x6)).upd (some 8) (.int .i64 x8)) h := by kernel_rfl
    exact e ▸ hS
  · intro e g' h' hq
    cases e with
    | normal =>
      have hq : D6 (fun z0b z0n z0c z4 z5 z8 z9 h => n9 z0b z0n z0c z4 z5 z8 z9 Kn Kr h) g' h' := hq
      obtain ⟨y0b, y0n, y0c, y4, y5, y8, y9, hg', hq⟩ := D6_ok hq
      exact n9_ok y0b y0n y0c y4 y5 y8 y9 Kn Kr g' hg' h' hq
    | _ => exact hq
def Q8 (Kn : T5) (Kr : T0) : XPost
  | .normal, g, h => D5 Kn g h
  | .ret, g, h => D0 Kr g h
  | _, _, _ => False
abbrev n7 (x0b : Option Addr) (x0n : Nat) (x0c : Nat) (x4 : Int) (x5 : Int) (x6 : Int) (Kn : T0) (Kr : T0) (h : H) : Prop :=
  Rng .i64 (bits .and .u8 x6 (7 : Int)) ∧ (n8 x0b x0n x0c x4 x5 x6 (bits .and .u8 x6 (7 : Int)) Kn Kr h)
theorem n7_ok (x0b : Option Addr) (x0n : Nat) (x0c : Nat) (x4 : Int) (x5 : Int) (x6 : Int) (Kn : T0) (Kr : T0) (g : Env) (hg : E4 g x0b x0n x0c x4 x5 x6) (h : H) (hS : n7 x0b x0n x0c x4 x5 x6 Kn Kr h) : wpC none Tryd.prog 122 n6_c2 (Q0 Kn Kr) g h := by
  obtain ⟨hg0, hg4, hg5, hg6, hds⟩ := hg
  refine wpC_seq' (x := n7_c1) (y := n7_c2) (Q' := (Q8 (fun z0b z0n z0c z4 z5 z6 z8 h => n8 z0b z0n z0c z4 z5 z6 z8 Kn Kr h) Kr)) (by kernel_rfl) ?_ ?_
  · refine wpC_of_wpx (by kernel_rfl) (by kernel_rfl) (g' := ((((⟨g.v, []⟩ : Env).upd (some 0) (.slice x0b x0n x0c)).upd (some 4) (.int .i64 x4)).upd (some 5) (.int .u8 x5)).upd (some 6) (.int .u8 x6)) (by rw [env_ds hds, upd_self hg0, upd_self hg4, upd_self hg5, upd_self hg6]) ?_
    have e : (n7 x0b x0n x0c x4 x5 x6 Kn Kr h) = wpx none Tryd.prog 122 n7_c1 (Q8 (fun z0b z0n z0c z4 z5 z6 z8 h => n8 z0b z0n z0c z4 z5 z6 z8 Kn Kr h) Kr) (((((⟨g.v, []⟩ : Env).upd (some 0) (.slice x0b x0n x0c)).upd (some 4) (.int .i64 x4)).upd (some 5) (.int .u8 x5)).upd (some 6) (.int .u8 x6)) h := by kernel_rfl
    exact e ▸ hS
  · intro e g' h' hq
    cases e with
    | normal =>
      have hq : D5 (fun z0b z0n z0c z4 z5 z6 z8 h => n8 z0b z0n z0c z4 z5 z6 z8 Kn Kr h) g' h' := hq
      obtain ⟨y0b, y0n, y0c, y4, y5, y6, y8, hg', hq⟩ := D5_ok hq
      exact n8_ok y0b y0n y0c y4 y5 y6 y8 Kn Kr g' hg' h' hq
    | _ => exact hq
def Q9 (Kn : T4) (Kr : T0) : XPost
  | .normal, g, h => D4 Kn g h
  | .ret, g, h => D0 Kr g h
  | _, _, _ => False
noncomputable def n19_c1 : Code := cFst n6_c1
noncomputable def n19_c2 : Code := cSnd n6_c1
abbrev T13 := (Option Addr) → Nat → Nat → Int → Int → Int → Bool → H → Prop
def E13 (g : Env) (x0b : Option Addr) (x0n : Nat) (x0c : Nat) (x4 : Int) (x5 : Int) (x6 : Int) (x24 : Bool) : Prop := g.v 0 = (.slice x0b x0n x0c) ∧ g.v 4 = (.int .i64 x4) ∧ g.v 5 = (.int .u8 x5) ∧ g.v 6 = (.int .u8 x6) ∧ g.v 24 = (.bool x24) ∧ g.ds = []
def D13 (K : T13) (g : Env) (h : H) : Prop := nilDs g.ds (vSlice (g.v 0) fun s231b s231n s231c => vInt .i64 (g.v 4) fun i232 => vInt .u8 (g.v 5) fun i233 => vInt .u8 (g.v 6) fun i234 => vBool (g.v 24) fun b235 => K s231b s231n s231c i232 i233 i234 b235 h)
theorem D13_ok {K : T13} {g : Env} {h : H} (hq : D13 K g h) : ∃ (x0b : Option Addr) (x0n : Nat) (x0c : Nat) (x4 : Int) (x5 : Int) (x6 : Int) (x24 : Bool), E13 g x0b x0n x0c x4 x5 x6 x24 ∧ K x0b x0n x0c x4 x5 x6 x24 h := by
  obtain ⟨hd, hq⟩ := nilDs_ok hq
  obtain ⟨y237b, y237n, y237c, e236, q238⟩ := vSlice_ok hq
  obtain ⟨y240, e239, q241⟩ := vInt_ok q238
  obtain ⟨y243, e242, q244⟩ := vInt_ok q241
  obtain ⟨y246, e245, q247⟩ := vInt_ok q244
  obtain ⟨y249, e248, q250⟩ := vBool_ok q247
  exact ⟨y237b, y237n, y237c, y240, y243, y246, y249, ⟨e236, e239, e242, e245, e248, hd⟩, q250⟩
abbrev n20 (x0b : Option Addr) (x0n : Nat) (x0c : Nat) (x4 : Int) (x5 : Int) (x6 : Int) (x24 : Bool) (Kn : T4) (Kr : T0) (h : H) : Prop :=
  cond x24 (Rng .i32 x6 ∧ (SemH Tryd.prog (binS .shl 21 (.tmp 26) (.const (.int .u64 (31 : Int))) (.int .i32 x6) (.int .u64 (31 : Int))) h fun v251 h252 => vInt .i32 v251 fun i253 => SemH Tryd.prog (binS .shr 21 (.tmp 27) (.const (.int .u64 (31 : Int))) (.int .i32 i253) (.int .u64 (31 : Int))) h252 fun v254 h255 => vInt .i32 v254 fun i256 => (0 ≤ (0 : Int) ∧ (0 : Int) < (x0n : Int)) ∧ (vSome x0b fun a257 => ∃ i258, cell h255 (a257.add (Int.toNat (0 : Int) * 1)) = some (.int .u8 i258) ∧ (Rng .i32 i258 ∧ (Kr (bits .or .i32 (bits .andNot .i32 i258 i256) (bits .and .i32 (65533 : Int) i256)) (1 : Int) h255))))) (Kn x0b x0n x0c x4 x5 x6 h)
theorem n20_ok (x0b : Option Addr) (x0n : Nat) (x0c : Nat) (x4 : Int) (x5 : Int) (x6 : Int) (x24 : Bool) (Kn : T4) (Kr : T0) (g : Env) (hg : E13 g x0b x0n x0c x4 x5 x6 x24) (h : H) (hS : n20 x0b x0n x0c x4 x5 x6 x24 Kn Kr h) : wpC none Tryd.prog 122 n19_c2 (Q9 Kn Kr) g h := by
  obtain ⟨hg0, hg4, hg5, hg6, hg24, hds⟩ := hg
  refine wpC_of_wpx (by kernel_rfl) (by kernel_rfl) (g' := (((((⟨g.v, []⟩ : Env).upd (some 0) (.slice x0b x0n x0c)).upd (some 4) (.int .i64 x4)).upd (some 5) (.int .u8 x5)).upd (some 6) (.int .u8 x6)).upd (some 24) (.bool x24)) (by rw [env_ds hds, upd_self hg0, upd_self hg4, upd_self hg5, upd_self hg6, upd_self hg24]) ?_
  have e : (n20 x0b x0n x0c x4 x5 x6 x24 Kn Kr h) = wpx none Tryd.prog 122 n19_c2 (Q9 Kn Kr) ((((((⟨g.v, []⟩ : Env).upd (some 0) (.slice x0b x0n x0c)).upd (some 4) (.int .i64 x4)).upd (some 5) (.int .u8 x5)).upd (some 6) (.int .u8 x6)).upd (some 24) (.bool x24)) h := by kernel_rfl
  exact e ▸ hS
def Q10 (Kn : T13) (Kr : T0) : XPost
  | .normal, g, h => D13 Kn g h
  | .ret, g, h => D0 Kr g h
  | _, _, _ => False
abbrev n19 (x0b : Option Addr) (x0n : Nat) (x0c : Nat) (x4 : Int) (x5 : Int) (x6 : Int) (Kn : T4) (Kr : T0) (h : H) : Prop :=
  Spl (x6 ≥ (240 : Int)) (n20 x0b x0n x0c x4 x5 x6 true Kn Kr h) (n20 x0b x0n x0c x4 x5 x6 false Kn Kr h)
theorem n19_ok (x0b : Option Addr) (x0n : Nat) (x0c : Nat) (x4 : Int) (x5 : Int) (x6 : Int) (Kn : T4) (Kr : T0) (g : Env) (hg : E4 g x0b x0n x0c x4 x5 x6) (h : H) (hS : n19 x0b x0n x0c x4 x5 x6 Kn Kr h) : wpC none Tryd.prog 122 n6_c1 (Q9 Kn Kr) g h := by
  obtain ⟨hg0, hg4, hg5, hg6, hds⟩ := hg
  refine wpC_seq' (x := n19_c1) (y := n19_c2) (Q' := (Q10 (fun z0b z0n z0c z4 z5 z6 z24 h => n20 z0b z0n z0c z4 z5 z6 z24 Kn Kr h) Kr)) (by kernel_rfl) ?_ ?_
  · refine wpC_of_wpx (by kernel_rfl) (by kernel_rfl) (g' := ((((⟨g.v, []⟩ : Env).upd (some 0) (.slice x0b x0n x0c)).upd (some 4) (.int .i64 x4)).upd (some 5) (.int .u8 x5)).upd (some 6) (.int .u8 x6)) (by rw [env_ds hds, upd_self hg0, upd_self hg4, upd_self hg5, upd_self hg6]) ?_
    have e : (n19 x0b x0n x0c x4 x5 x6 Kn Kr h) = wpx none Tryd.prog 122 n19_c1 (Q10 (fun z0b z0n z0c z4 z5 z6 z24 h => n20 z0b z0n z0c z4 z5 z6 z24 Kn Kr h) Kr) (((((⟨g.v, []⟩ : Env).upd (some 0) (.slice x0b x0n x0c)).upd (some 4) (.int .i64 x4)).upd (some 5) (.int .u8 x5)).upd (some 6) (.int .u8 x6)) h := by kernel_rfl
    exact e ▸ hS
  · intro e g' h' hq
    cases e with
    | normal =>
      have hq : D13 (fun z0b z0n z0c z4 z5 z6 z24 h => n20 z0b z0n z0c z4 z5 z6 z24 Kn Kr h) g' h' := hq
      obtain ⟨y0b, y0n, y0c, y4, y5, y6, y24, hg', hq⟩ := D13_ok hq
      exact n20_ok y0b y0n y0c y4 y5 y6 y24 Kn Kr g' hg' h' hq
    | _ => exact hq
abbrev n6 (x0b : Option Addr) (x0n : Nat) (x0c : Nat) (x4 : Int) (x5 : Int) (x6 : Int) (Kn : T0) (Kr : T0) (h : H) : Prop := n19 x0b x0n x0c x4 x5 x6 (fun z0b z0n z0c z4 z5 z6 h => n7 z0b z0n z0c z4 z5 z6 Kn Kr h) Kr h
theorem n6_ok (x0b : Option Addr) (x0n : Nat) (x0c : Nat) (x4 : Int) (x5 : Int) (x6 : Int) (Kn : T0) (Kr : T0) (g : Env) (hg : E4 g x0b x0n x0c x4 x5 x6) (h : H) (hS : n6 x0b x0n x0c x4 x5 x6 Kn Kr h) : wpC none Tryd.prog 122 n5_c2 (Q0 Kn Kr) g h := by
  refine wpC_seq' (x := n6_c1) (y := n6_c2) (by kernel_rfl) (n19_ok x0b x0n x0c x4 x5 x6 (fun z0b z0n z0c z4 z5 z6 h => n7 z0b z0n z0c z4 z5 z6 Kn Kr h) Kr g hg h hS) ?_
  intro e g' h' hq
  cases e with
  | normal =>
    have hq : D4 (fun z0b z0n z0c z4 z5 z6 h => n7 z0b z0n z0c z4 z5 z6 Kn Kr h) g' h' := hq
    obtain ⟨y0b, y0n, y0c, y4, y5, y6, hg', hq⟩ := D4_ok hq
    exact n7_ok y0b y0n y0c y4 y5 y6 Kn Kr g' hg' h' hq
  | _ => exact hq
abbrev n5 (x0b : Option Addr) (x0n : Nat) (x0c : Nat) (x4 : Int) (x5 : Int) (Kn : T0) (Kr : T0) (h : H) : Prop :=
  (0 ≤ x5 ∧ x5 < ((256 : Nat) : Int)) ∧ (∃ i259, cell h ((Ad 0).add (Int.toNat x5 * 1)) = some (.int .u8 i259) ∧ (n6 x0b x0n x0c x4 x5 i259 Kn Kr h))
theorem n5_ok (x0b : Option Addr) (x0n : Nat) (x0c : Nat) (x4 : Int) (x5 : Int) (Kn : T0) (Kr : T0) (g : Env) (hg : E3 g x0b x0n x0c x4 x5) (h : H) (hS : n5 x0b x0n x0c x4 x5 Kn Kr h) : wpC none Tryd.prog 122 n4_c2 (Q0 Kn Kr) g h := by
  obtain ⟨hg0, hg4, hg5, hds⟩ := hg
  refine wpC_seq' (x := n5_c1) (y := n5_c2) (Q' := (Q9 (fun z0b z0n z0c z4 z5 z6 h => n6 z0b z0n z0c z4 z5 z6 Kn Kr h) Kr)) (by kernel_rfl) ?_ ?_
  · refine wpC_of_wpx (by kernel_rfl) (by kernel_rfl) (g' := (((⟨g.v, []⟩ : Env).upd (some 0) (.slice x0b x0n x0c)).upd (some 4) (.int .i64 x4)).upd (some 5) (.int .u8 x5)) (by rw [env_ds hds, upd_self hg0, upd_self hg4, upd_self hg5]) ?_
    have e : (n5 x0b x0n x0c x4 x5 Kn Kr h) = wpx none Tryd.prog 122 n5_c1 (Q9 (fun z0b z0n z0c z4 z5 z6 h => n6 z0b z0n z0c z4 z5 z6 Kn Kr h) Kr) ((((⟨g.v, []⟩ : Env).upd (some 0) (.slice x0b x0n x0c)).upd (some 4) (.int .i64 x4)).upd (some 5) (.int .u8 x5)) h := by kernel_rfl
    exact e ▸ hS
  · intro e g' h' hq
    cases e with
    | normal =>
      have hq : D4 (fun z0b z0n z0c z4 z5 z6 h => n6 z0b z0n z0c z4 z5 z6 Kn Kr h) g' h' := hq
      obtain ⟨y0b, y0n, y0c, y4, y5, y6, hg', hq⟩ := D4_ok hq
      exact n6_ok y0b y0n y0c y4 y5 y6 Kn Kr g' hg' h' hq
    | _ => exact hq
def Q11 (Kn : T3) (Kr : T0) : XPost
  | .normal, g, h => D3 Kn g h
  | .ret, g, h => D0 Kr g h
  | _, _, _ => False
abbrev n4 (x0b : Option Addr) (x0n : Nat) (x0c : Nat) (x4 : Int) (Kn : T0) (Kr : T0) (h : H) : Prop :=
  (0 ≤ (0 : Int) ∧ (0 : Int) < (x0n : Int)) ∧ (vSome x0b fun a260 => ∃ i261, cell h (a260.add (Int.toNat (0 : Int) * 1)) = some (.int .u8 i261) ∧ (n5 x0b x0n x0c x4 i261 Kn Kr h))
theorem n4_ok (x0b : Option Addr) (x0n : Nat) (x0c : Nat) (x4 : Int) (Kn : T0) (Kr : T0) (g : Env) (hg : E2 g x0b x0n x0c x4) (h : H) (hS : n4 x0b x0n x0c x4 Kn Kr h) : wpC none Tryd.prog 122 n3_c2 (Q0 Kn Kr) g h := by
  obtain ⟨hg0, hg4, hds⟩ := hg
  refine wpC_seq' (x := n4_c1) (y := n4_c2) (Q' := (Q11 (fun z0b z0n z0c z4 z5 h => n5 z0b z0n z0c z4 z5 Kn Kr h) Kr)) (by kernel_rfl) ?_ ?_
  · refine wpC_of_wpx (by kernel_rfl) (by kernel_rfl) (g' := ((⟨g.v, []⟩ : Env).upd (some 0) (.slice x0b x0n x0c)).upd (some 4) (.int .i64 x4)) (by rw [env_ds hds, upd_self hg0, upd_self hg4]) ?_
    have e : (n4 x0b x0n x0c x4 Kn Kr h) = wpx none Tryd.prog 122 n4_c1 (Q11 (fun z0b z0n z0c z4 z5 h => n5 z0b z0n z0c z4 z5 Kn Kr h) Kr) (((⟨g.v, []⟩ : Env).upd (some 0) (.slice x0b x0n x0c)).upd (some 4) (.int .i64 x4)) h := by kernel_rfl
    exact e ▸ hS
  · intro e g' h' hq
    cases e with
    | normal =>
      have hq : D3 (fun z0b z0n z0c z4 z5 h => n5 z0b z0n z0c z4 z5 Kn Kr h) g' h' := hq
      obtain ⟨y0b, y0n, y0c, y4, y5, hg', hq⟩ := D3_ok hq
      exact n5_ok y0b y0n y0c y4 y5 Kn Kr g' hg' h' hq
    | _ => exact hq
def Q12 (Kn : T2) (Kr : T0) : XPost
  | .normal, g, h => D2 Kn g h
  | .ret, g, h => D0 Kr g h
  | _, _, _ => False
abbrev n3 (x0b : Option Addr) (x0n : Nat) (x0c : Nat) (x4 : Int) (Kn : T0) (Kr : T0) (h : H) : Prop :=
  Spl (x4 < (1 : Int)) (Kr (65533 : Int) (0 : Int) h) (n4 x0b x0n x0c x4 Kn Kr h)
theorem n3_ok (x0b : Option Addr) (x0n : Nat) (x0c : Nat) (x4 : Int) (Kn : T0) (Kr : T0) (g : Env) (hg : E2 g x0b x0n x0c x4) (h : H) (hS : n3 x0b x0n x0c x4 Kn Kr h) : wpC none Tryd.prog 122 n2_c2 (Q0 Kn Kr) g h := by
  obtain ⟨hg0, hg4, hds⟩ := hg
  refine wpC_seq' (x := n3_c1) (y := n3_c2) (Q' := (Q12 (fun z0b z0n z0c z4 h => n4 z0b z0n z0c z4 Kn Kr h) Kr)) (by kernel_rfl) ?_ ?_
  · refine wpC_of_wpx (by kernel_rfl) (by kernel_rfl) (g' := ((⟨g.v, []⟩ : Env).upd (some 0) (.slice x0b x0n x0c)).upd (some 4) (.int .i64 x4)) (by rw [env_ds hds, upd_self hg0, upd_self hg4]) ?_
    have e : (n3 x0b x0n x0c x4 Kn Kr h) = wpx none Tryd.prog 122 n3_c1 (Q12 (fun z0b z0n z0c z4 h => n4 z0b z0n z0c z4 Kn Kr h) Kr) (((⟨g.v, []⟩ : Env).upd (some 0) (.slice x0b x0n x0c)).upd (some 4) (.int .i64 x4)) h := by kernel_rfl
    exact e ▸ hS
  · intro e g' h' hq
    cases e with
    | normal =>
      have hq : D2 (fun z0b z0n z0c z4 h => n4 z0b z0n z0c z4 Kn Kr h) g' h' := hq
      obtain ⟨y0b, y0n, y0c, y4, hg', hq⟩ := D2_ok hq
      exact n4_ok y0b y0n y0c y4 Kn Kr g' hg' h' hq
    | _ => exact hq
abbrev n2 (x0b : Option Addr) (x0n : Nat) (x0c : Nat) (Kn : T0) (Kr : T0) (h : H) : Prop :=
  n3 x0b x0n x0c (x0n : Int) Kn Kr h
theorem n2_ok (x0b : Option Addr) (x0n : Nat) (x0c : Nat) (Kn : T0) (Kr : T0) (g : Env) (hg : E1 g x0b x0n x0c) (h : H) (hS : n2 x0b x0n x0c Kn Kr h) : wpC none Tryd.prog 122 n1_c2 (Q0 Kn Kr) g h := by
  obtain ⟨hg0, hds⟩ := hg
  refine wpC_seq' (x := n2_c1) (y := n2_c2) (Q' := (Q12 (fun z0b z0n z0c z4 h => n3 z0b z0n z0c z4 Kn Kr h) Kr)) (by kernel_rfl) ?_ ?_
  · refine wpC_of_wpx (by kernel_rfl) (by kernel_rfl) (g' := (⟨g.v, []⟩ : Env).upd (some 0) (.slice x0b x0n x0c)) (by rw [env_ds hds, upd_self hg0]) ?_
    have e : (n2 x0b x0n x0c Kn Kr h) = wpx none Tryd.prog 122 n2_c1 (Q12 (fun z0b z0n z0c z4 h => n3 z0b z0n z0c z4 Kn Kr h) Kr) ((⟨g.v, []⟩ : Env).upd (some 0) (.slice x0b x0n x0c)) h := by kernel_rfl
    exact e ▸ hS
  · intro e g' h' hq
    cases e with
    | normal =>
      have hq : D2 (fun z0b z0n z0c z4 h => n3 z0b z0n z0c z4 Kn Kr h) g' h' := hq
      obtain ⟨y0b, y0n, y0c, y4, hg', hq⟩ := D2_ok hq
      exact n3_ok y0b y0n y0c y4 Kn Kr g' hg' h' hq
    | _ => exact hq
def Q13 (Kn : T1) (Kr : T0) : XPost
  | .normal, g, h => D1 Kn g h
  | .ret, g, h => D0 Kr g h
  | _, _, _ => False
abbrev n1 (x0b : Option Addr) (x0n : Nat) (x0c : Nat) (Kn : T0) (Kr : T0) (h : H) : Prop :=
  n2 x0b x0n x0c Kn Kr h
theorem n1_ok (x0b : Option Addr) (x0n : Nat) (x0c : Nat) (Kn : T0) (Kr : T0) (g : Env) (hg : E1 g x0b x0n x0c) (h : H) (hS : n1 x0b x0n x0c Kn Kr h) : wpC none Tryd.prog 122 code (Q0 Kn Kr) g h := by
  obtain ⟨hg0, hds⟩ := hg
  refine wpC_seq' (x := n1_c1) (y := n1_c2) (Q' := (Q13 (fun z0b z0n z0c h => n2 z0b z0n z0c Kn Kr h) Kr)) (by kernel_rfl) ?_ ?_
  · refine wpC_of_wpx (by kernel_rfl) (by kernel_rfl) (g' := (⟨g.v, []⟩ : Env).upd (some 0) (.slice x0b x0n x0c)) (by rw [env_ds hds, upd_self hg0]) ?_
    have e : (n1 x0b x0n x0c Kn Kr h) = wpx none Tryd.prog 122 n1_c1 (Q13 (fun z0b z0n z0c h => n2 z0b z0n z0c Kn Kr h) Kr) ((⟨g.v, []⟩ : Env).upd (some 0) (.slice x0b x0n x0c)) h := by kernel_rfl
    exact e ▸ hS
  · intro e g' h' hq
    cases e with
    | normal =>
      have hq : D1 (fun z0b z0n z0c h => n2 z0b z0n z0c Kn Kr h) g' h' := hq
      obtain ⟨y0b, y0n, y0c, hg', hq⟩ := D1_ok hq
      exact n2_ok y0b y0n y0c Kn Kr g' hg' h' hq
    | _ => exact hq
/-- WHAT unicode/utf8.decodeRuneSlow ASKS -/
abbrev asks (x0b : Option Addr) (x0n : Nat) (x0c : Nat) (K : Value → H → Prop) (h : H) : Prop := n1 x0b x0n x0c (fun y2 y3 h => K (.tuple ⟨[(.int .i32 y2), (.int .i64 y3)]⟩) h) (fun y2 y3 h => K (.tuple ⟨[(.int .i32 y2), (.int .i64 y3)]⟩) h) h
theorem ok (x0b : Option Addr) (x0n : Nat) (x0c : Nat) (K : Value → H → Prop) (h : H) (hS : asks x0b x0n x0c K h) : HCalls Tryd.prog 38 ⟨[(.slice x0b x0n x0c)]⟩ h K := by
  refine calls_of_wpC (c := code) Tryd.func38 (by kernel_rfl) (Nat.le_of_ble_eq_true (by kernel_rfl)) ?_
  refine (n1_ok x0b x0n x0c (fun y2 y3 h => K (.tuple ⟨[(.int .i32 y2), (.int .i64 y3)]⟩) h) (fun y2 y3 h => K (.tuple ⟨[(.int .i32 y2), (.int .i64 y3)]⟩) h) (env0 [(.slice x0b x0n x0c)]) ⟨rfl, rfl⟩ h hS).mono ?_
  intro e g' h' hq
  cases e with
  | normal =>
    have hq : D0 (fun y2 y3 h => K (.tuple ⟨[(.int .i32 y2), (.int .i64 y3)]⟩) h) g' h' := hq
    obtain ⟨y2, y3, ⟨hg2, hg3, hd⟩, hq⟩ := D0_ok hq
    show leaveX g'.ds h' _
    rw [hd]
    show K (.tuple ⟨[(g'.v 2), (g'.v 3)]⟩) h'
    rw [hg2, hg3]
    exact hq
  | ret =>
    have hq : D0 (fun y2 y3 h => K (.tuple ⟨[(.int .i32 y2), (.int .i64 y3)]⟩) h) g' h' := hq
    obtain ⟨y2, y3, ⟨hg2, hg3, hd⟩, hq⟩ := D0_ok hq
    show leaveX g'.ds h' _
    rw [hd]
    show K (.tuple ⟨[(g'.v 2), (g'.v 3)]⟩) h'
    rw [hg2, hg3]
    exact hq
  | _ => exact hq
end Sx.unicode_utf8_decodeRuneSlow
end Go.Proofs
