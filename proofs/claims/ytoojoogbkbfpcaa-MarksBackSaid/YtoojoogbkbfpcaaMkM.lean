/- marks: the chapter's example. No condition. -/
import Derived.Test.YtoojoogbkbfpcaaMkL
namespace Go.Proofs
open Go Go.Sh
set_option linter.unusedVariables false
set_option maxRecDepth 100000

theorem agMark {i : Int} {s : Bs} {b : Option Addr} {n c : Nat} {K : Int → Bs → Option Addr → Nat → Nat → Prop} (h : K i s b n c) :
    vAgg (.agg ⟨[.int .i64 i, S s, .slice b n c]⟩) fun l => uncons l fun e l => vInt .i64 e fun i => uncons l fun e l => vStr e fun s => uncons l fun e l => vSlice e fun b n c => unnil l (K i s b n c) := h
theorem vSliceMk {b : Option Addr} {n c : Nat} {k : Option Addr → Nat → Nat → Prop} (h : k b n c) : vSlice (.slice b n c) k := h
theorem varRows {α : Type} {E : El α} {A : Nat → Prop} {h : H} {a : Addr} {t : Nat} {cs : List Value} {l : List α} (v : Var h a t cs) (he : Enc E A h l cs) (ha : A a.block) (hl : l.length ≤ maxLen) : Row E A h (some a) l.length l.length l :=
  Row.of he (fun j x hx => ⟨a, rfl, v.cell j hx⟩) rfl (Nat.le_refl _) hl fun x e => by cases e; exact ha

def m1 : List MarkP := [bP 1, bP 2, bP 3]
def m2 : List MarkP := [bP 1, bP 2, (-1, [], []), bP 3]
theorem push1 : pushP m1 (bP 4) = [bP 2, bP 3, bP 4] := by decide
theorem push2 : pushP m2 (bP 4) = [bP 1, bP 2, (-1, [], []), bP 3, bP 4] := by decide

theorem known_calls {h : H} {K : Value → H → Prop} (hk : ∀ h', KB h h' → K (.bool true) h') : HCalls Try.prog 12 ⟨[]⟩ h K := by
  refine Sx.l12_known.ok _ _ ?_
  have q : ∀ i : Int, -10 ≤ i → i ≤ 10 → Rng .i64 i := fun i h1 h2 => rng64 (by omega) (by omega)
  refine b_calls (q 1 (by decide) (by decide)) fun h1 k1 => agMark (b_calls (q 2 (by decide) (by decide)) fun h2 k2 => agMark (b_calls (q 3 (by decide) (by decide)) fun h3 k3 => agMark (newx_var fun a4 h4 v4 k4 e4 _ => b_calls (q 4 (by decide) (by decide)) fun h5 k5 => agMark ?_)))
  have e1 : ∀ (A : Nat → Prop) (h : H), Enc elMark A h m1 [.int .i64 1, S [98], .slice none 0 0, .int .i64 2, S [98], .slice none 0 0, .int .i64 3, S [98], .slice none 0 0] := fun A h =>
    ⟨[.int .i64 1, S [98], .slice none 0 0], _, rfl, bR (q 1 (by decide) (by decide)), [.int .i64 2, S [98], .slice none 0 0], _, rfl, bR (q 2 (by decide) (by decide)), [.int .i64 3, S [98], .slice none 0 0], [], rfl, bR (q 3 (by decide) (by decide)), rfl⟩
  have hbase : KB h h5 := ((((k1.trans k2).trans k3).trans k4).trans k5)
  refine push_calls (A := fun _ => True) (l := m1) (m := bP 4) (B := fun _ => True) (varRows (v4.kb k5) (e1 _ _) trivial (by decide)) (fun e => by cases e) (bR (q 4 (by decide) (by decide))) (by decide) fun b6 n6 c6 h6 o6 k6 => ?_
  rw [push1] at o6
  have hn6 : n6 = 3 := o6.own.len.symm
  subst hn6
  refine vSliceMk (b_calls (q 1 (by decide) (by decide)) fun h1 k1 => agMark (b_calls (q 2 (by decide) (by decide)) fun h2 k2 => agMark (b_calls (q 3 (by decide) (by decide)) fun h3 k3 => agMark (newx_var fun a7 h7 v7 k7 e7 _ => b_calls (q 4 (by decide) (by decide)) fun h8 k8 => agMark ?_))))
  have e2 : ∀ (A : Nat → Prop) (h : H), Enc elMark A h m2 [.int .i64 1, S [98], .slice none 0 0, .int .i64 2, S [98], .slice none 0 0, .int .i64 (-1), S [], .slice none 0 0, .int .i64 3, S [98], .slice none 0 0] := fun A h =>
    ⟨[.int .i64 1, S [98], .slice none 0 0], _, rfl, bR (q 1 (by decide) (by decide)), [.int .i64 2, S [98], .slice none 0 0], _, rfl, bR (q 2 (by decide) (by decide)), [.int .i64 (-1), S [], .slice none 0 0], _, rfl, markR (m := (-1, [], [])) (Row.nil _ _) (fun _ => rfl) (q (-1) (by decide) (by decide)) (Nat.zero_le _), [.int .i64 3, S [98], .slice none 0 0], [], rfl, bR (q 3 (by decide) (by decide)), rfl⟩
  have k68 : KB h6 h8 := ((((k1.trans k2).trans k3).trans k7).trans k8)
  refine push_calls (A := fun _ => True) (l := m2) (m := bP 4) (B := fun _ => True) (varRows (v7.kb k8) (e2 _ _) trivial (by decide)) (fun e => by cases e) (bR (q 4 (by decide) (by decide))) (by decide) fun b9 n9 c9 h9 o9 k9 => ?_
  rw [push2] at o9
  have hn9 : n9 = 5 := o9.own.len.symm
  subst hn9
  refine vSliceMk (b_calls (q 1 (by decide) (by decide)) fun h1 k1 => agMark (b_calls (q 2 (by decide) (by decide)) fun h2 k2 => agMark (b_calls (q 3 (by decide) (by decide)) fun h3 k3 => agMark (newx_var fun a10 h10 v10 k10 e10 _ => newx_var fun a11 h11 v11 k11 e11 _ => ?_))))
  have k911 : KB h9 h11 := ((((k1.trans k2).trans k3).trans k10).trans k11)
  have ro : Row elOpen (fun _ => True) h11 (some a11) 1 1 [(1, 0, [], 0)] := v11.row1 (E := elOpen) (x := (1, 0, [], 0)) ⟨[.int .i64 1], _, rfl, ⟨rfl, q 1 (by decide) (by decide)⟩, [.int .u8 0], _, rfl, ⟨rfl, by decide, by decide⟩, [S []], _, rfl, ⟨rfl, Nat.zero_le _⟩, rfl, by decide, by decide⟩ trivial
  refine lost_calls (A := Bel h11.size) (l := m1) (fun _ h => h) (varRows (v10.kb k11) (e1 _ _) (Nat.lt_of_lt_of_le v10.lt k11.1) (by decide)) ro fun h12 k12 => ?_
  have k69 := k68.trans k9
  have k912 := k911.trans k12
  have o6' := (o6.kb k69).kb k912
  have o9' := o9.kb k912
  have r6 := o6'.row
  have r9 := o9'.row
  refine spl (fun _ => r6.idxN (i := 0) (by decide) rfl fun a hA => ldI hA.fst fun _ => spl (fun _ => r6.idxN (i := 2) (by decide) rfl fun a hA => ldI hA.fst fun _ => spl (fun _ => spl (fun _ => spl (fun _ => ?_) fun e => absurd (by decide) e) fun e => absurd (by decide) e) fun e => absurd (by decide) e) fun e => absurd (by decide) e) fun e => absurd (by decide) e
  refine last_calls (A := Bel h12.size) (fun _ h => h) r9 fun h13 k13 => spl (fun _ => ?_) fun e => absurd (by decide) e
  refine clear_calls (A := Bel h13.size) (fun _ h => h) (o9'.kb k13).row o9'.nil (by decide) fun b14 n14 c14 h14 o14 k14 => ?_
  have hn14 : n14 = 2 := o14.own.len.symm
  subst hn14
  refine spl (fun _ => ?_) fun e => absurd (by decide) e
  refine find_calls ((o9'.kb k13).kb k14).row fun h15 k15 => spl (fun _ => ?_) fun e => absurd (by decide) e
  exact hk h15 (((((hbase.trans k6).trans k69).trans k912).trans (k13.trans k14)).trans k15)
end Go.Proofs
