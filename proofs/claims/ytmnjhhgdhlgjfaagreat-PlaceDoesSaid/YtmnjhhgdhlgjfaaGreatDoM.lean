/- dom: what trees' nodes hold stays so: their kinds' parts, and how long their texts are. Plain. -/
import Derived.Test.YtmnjhhgdhlgjfaaGreatDoJ
namespace Go.Proofs
open Go Go.Sh
set_option linter.unusedVariables false
set_option maxRecDepth 100000
/-- a node holds what its kind has -/
def BareN (z : NodeM) : Prop := (z.kind = 1 ∧ z.text = []) ∨ (z.kind ≠ 1 ∧ z.space = 0 ∧ z.name = [] ∧ z.attrs = [])
structure BareT (ns : List NodeM) : Prop where
  all : ∀ (i : Nat) z, ns[i]? = some z → BareN z
  root : ∀ z, ns[0]? = some z → z.kind = 0
/-- nodes hold what they held; only where they stand may differ -/
def LikeT (ns ns' : List NodeM) : Prop := ∀ (j : Nat) z', ns'[j]? = some z' → ∃ z, ns[j]? = some z ∧ z'.kind = z.kind ∧ z'.space = z.space ∧ z'.name = z.name ∧ z'.attrs = z.attrs ∧ z'.text = z.text
/-- no text is longer -/
def TextB (ns : List NodeM) (m : Nat) : Prop := ∀ (j : Nat) z, ns[j]? = some z → z.text.length ≤ m
section
variable {ns ns' ns2 : List NodeM} {m c : Nat}
theorem LikeT.refl (ns : List NodeM) : LikeT ns ns := fun j z h => ⟨z, h, rfl, rfl, rfl, rfl, rfl⟩
theorem LikeT.trans (a : LikeT ns ns') (b : LikeT ns' ns2) : LikeT ns ns2 := fun j z h => by
  obtain ⟨y, hy, e1, e2, e3, e4, e5⟩ := b j z h
  obtain ⟨x, hx, f1, f2, f3, f4, f5⟩ := a j y hy
  exact ⟨x, hx, e1.trans f1, e2.trans f2, e3.trans f3, e4.trans f4, e5.trans f5⟩
theorem LikeT.set {j : Nat} {z z' : NodeM} (hz : ns[j]? = some z) (h : z'.kind = z.kind ∧ z'.space = z.space ∧ z'.name = z.name ∧ z'.attrs = z.attrs ∧ z'.text = z.text) : LikeT ns (ns.set j z') := fun k w hw => by
  by_cases e : j = k
  · subst e
    rw [List.getElem?_set_self (getI hz)] at hw
    cases hw
    exact ⟨z, hz, h⟩
  · rw [List.getElem?_set_ne e] at hw
    exact ⟨w, hw, rfl, rfl, rfl, rfl, rfl⟩
theorem BareT.like (B : BareT ns) (L : LikeT ns ns') : BareT ns' := by
  refine ⟨fun j z' h => ?_, fun z' h => ?_⟩
  · obtain ⟨z, hz, e1, e2, e3, e4, e5⟩ := L j z' h
    have := B.all j z hz
    unfold BareN at this ⊢
    rw [e1, e2, e3, e4, e5]
    exact this
  · obtain ⟨z, hz, e1, _⟩ := L 0 z' h
    rw [e1]; exact B.root z hz
theorem TextB.like (B : TextB ns m) (L : LikeT ns ns') : TextB ns' m := fun j z' h => by
  obtain ⟨z, hz, _, _, _, _, e5⟩ := L j z' h
  rw [e5]; exact B j z hz
theorem TextB.mono (B : TextB ns m) (h : m ≤ c) : TextB ns c := fun j z hz => Nat.le_trans (B j z hz) h
theorem cut_like (G : GoodT ns) (id : Int) : LikeT ns (cutM ns id).1 := fun j z' h => by
  have hl := getI h
  rw [cutM_len ns G] at hl
  have hz : ns[j]? = some ns[j] := List.getElem?_eq_getElem hl
  obtain ⟨z1, hz1, e1, e2, e3, e4, e5, _⟩ := cutM_get G (id := id) hz
  rw [h] at hz1; cases hz1
  exact ⟨_, hz, e1, e2, e3, e4, e5⟩
theorem put_like (G : GoodT ns) (p b i : Int) : LikeT ns (putM ns p b i).1 := by
  unfold putM
  by_cases hc : holdB ns p = true ∧ (0 ≤ i ∧ i < ns.length) ∧ i ≠ 0 ∧ b ≠ i ∧ 0 ≤ plcP (((ns[p.toNat]?).map (·.kids)).getD []) b ∧ withinP ns p i = false
  · rw [if_pos hc]
    refine (cut_like G i).trans ?_
    show LikeT _ (putAt _ _ _ _)
    unfold putAt
    split
    · exact LikeT.refl _
    · rename_i y hy
      split
      · exact LikeT.refl _
      · rename_i x hx
        refine LikeT.trans ?_ (LikeT.set hx ?_)
        · exact LikeT.set hy ⟨rfl, rfl, rfl, rfl, rfl⟩
        · exact ⟨rfl, rfl, rfl, rfl, rfl⟩
  · rw [if_neg hc]; exact LikeT.refl _
theorem move_like (f d : Int) : LikeT ns (moveM ns f d).1 := by
  unfold moveM
  by_cases hc : (0 ≤ f ∧ f < ns.length) ∧ holdB ns d = true ∧ (((ns[f.toNat]?).map (·.kids)).getD []) ≠ [] ∧ withinP ns d f = false
  · rw [if_pos hc]
    intro j z' h
    obtain ⟨z, hz, rfl⟩ := moveAt_inv h
    exact ⟨z, hz, rfl, rfl, rfl, rfl, rfl⟩
  · rw [if_neg hc]; exact LikeT.refl _
theorem BareT.root1 : BareT [rootM] := ⟨fun j z h => by
  cases j with
  | zero => simp at h; subst h; exact .inr ⟨by decide, rfl, rfl, rfl⟩
  | succ j => simp at h, fun z h => by simp at h; subst h; rfl⟩
theorem TextB.root1 : TextB [rootM] 0 := fun j z h => by
  cases j with
  | zero => simp at h; subst h; exact Nat.le_refl _
  | succ j => simp at h
theorem get_app {x : NodeM} {j : Nat} {z : NodeM} (h : (ns ++ [x])[j]? = some z) : ns[j]? = some z ∨ (j = ns.length ∧ z = x) := by
  by_cases hj : j < ns.length
  · rw [List.getElem?_append_left hj] at h; exact .inl h
  · have hl := getI h
    rw [List.length_append, List.length_singleton] at hl
    have e : j = ns.length := by omega
    rw [e, List.getElem?_append_right (Nat.le_refl _), Nat.sub_self] at h
    simp at h
    exact .inr ⟨e, h.symm⟩
theorem BareT.addM (B : BareT ns) (h0 : 0 < ns.length) (kd sp : Int) (nm : Bs) (at' : List AttrP) (tx : Bs) : BareT (Go.Proofs.addM ns (bareM kd sp nm at' tx)).1 := by
  have add : ∀ x, BareN x → BareT (ns ++ [x]) := fun x hx => ⟨fun j z h => by
    rcases get_app h with h | ⟨_, rfl⟩
    · exact B.all j z h
    · exact hx, fun z h => by
    rcases get_app h with h | ⟨e, _⟩
    · exact B.root z h
    · omega⟩
  unfold bareM
  by_cases h1 : kd = 1
  · rw [if_pos h1]; exact add _ (.inl ⟨h1, rfl⟩)
  · rw [if_neg h1]
    by_cases h2 : kd = 2 ∨ kd = 3
    · rw [if_pos h2]; exact add _ (.inr ⟨h1, rfl, rfl, rfl⟩)
    · rw [if_neg h2]; exact B
theorem TextB.addM (B : TextB ns m) {kd sp : Int} {nm : Bs} {at' : List AttrP} {tx : Bs} (ht : tx.length ≤ m) : TextB (Go.Proofs.addM ns (bareM kd sp nm at' tx)).1 m := by
  have add : ∀ x : NodeM, x.text.length ≤ m → TextB (ns ++ [x]) m := fun x hx j z h => by
    rcases get_app h with h | ⟨_, rfl⟩
    · exact B j z h
    · exact hx
  unfold bareM
  by_cases h1 : kd = 1
  · rw [if_pos h1]; exact add _ (Nat.zero_le _)
  · rw [if_neg h1]
    by_cases h2 : kd = 2 ∨ kd = 3
    · rw [if_pos h2]; exact add _ ht
    · rw [if_neg h2]; exact B
theorem copyM_of (id : Int) : (∃ z, ns[id.toNat]? = some z ∧ copyM ns id = Go.Proofs.addM ns (bareM z.kind z.space z.name z.attrs z.text)) ∨ copyM ns id = (ns, -1) := by
  unfold copyM
  by_cases h : 0 ≤ id ∧ id < ns.length
  · rw [if_pos h]
    have hz : ns[id.toNat]? = some (ns[id.toNat]'(by omega)) := List.getElem?_eq_getElem (by omega)
    left
    exact ⟨_, hz, by rw [hz]; rfl⟩
  · rw [if_neg h]; exact .inr rfl
theorem BareT.copyM (B : BareT ns) (h0 : 0 < ns.length) (id : Int) : BareT (Go.Proofs.copyM ns id).1 := by
  rcases copyM_of (ns := ns) id with ⟨z, _, e⟩ | e
  · rw [e]; exact B.addM h0 _ _ _ _ _
  · rw [e]; exact B
theorem TextB.copyM (B : TextB ns m) (id : Int) : TextB (Go.Proofs.copyM ns id).1 m := by
  rcases copyM_of (ns := ns) id with ⟨z, hz, e⟩ | e
  · rw [e]; exact B.addM (B _ z hz)
  · rw [e]; exact B
theorem write_of (p b : Int) (tx : Bs) : (writeM ns p b tx).1 = ns ∨ (∃ (j : Nat) (z : NodeM), ns[j]? = some z ∧ z.kind = 2 ∧ (writeM ns p b tx).1 = ns.set j { z with text := z.text ++ tx }) ∨ ∃ i, (writeM ns p b tx).1 = (putM (Go.Proofs.addM ns (bareM 2 0 [] [] tx)).1 p b i).1 := by
  unfold writeM
  split
  · exact .inl rfl
  · split
    · exact .inl rfl
    · split
      · rename_i j z hm
        right; left
        obtain ⟨k, hk, e⟩ := Option.bind_eq_some_iff.1 hm
        split at e
        · obtain ⟨w, hw, e2⟩ := Option.bind_eq_some_iff.1 e
          split at e2
          · rename_i hk2
            cases e2
            exact ⟨_, _, hw, hk2, rfl⟩
          · cases e2
        · cases e
      · exact .inr (.inr ⟨_, rfl⟩)
theorem BareT.writeM (B : BareT ns) (G : GoodT ns) (h0 : 0 < ns.length) (p b : Int) (tx : Bs) : BareT (Go.Proofs.writeM ns p b tx).1 := by
  rcases write_of (ns := ns) p b tx with e | ⟨j, z, hz, hk, e⟩ | ⟨i, e⟩
  · rw [e]; exact B
  · rw [e]
    refine ⟨fun k w hw => ?_, fun w hw => ?_⟩
    · by_cases ej : j = k
      · subst ej
        rw [List.getElem?_set_self (getI hz)] at hw
        cases hw
        rcases B.all j z hz with ⟨h1, _⟩ | h2
        · omega
        · exact .inr h2
      · rw [List.getElem?_set_ne ej] at hw
        exact B.all k w hw
    · by_cases ej : j = 0
      · subst ej
        have := B.root z hz
        omega
      · rw [List.getElem?_set_ne ej] at hw
        exact B.root w hw
  · rw [e]
    exact (B.addM h0 _ _ _ _ _).like (put_like (G.addM _ _ _ _ _) _ _ _)
theorem TextB.writeM (B : TextB ns m) (G : GoodT ns) (p b : Int) {tx : Bs} (ht : tx.length ≤ c) : TextB (Go.Proofs.writeM ns p b tx).1 (m + c) := by
  rcases write_of (ns := ns) p b tx with e | ⟨j, z, hz, hk, e⟩ | ⟨i, e⟩
  · rw [e]; exact B.mono (Nat.le_add_right _ _)
  · rw [e]
    intro k w hw
    by_cases ej : j = k
    · subst ej
      rw [List.getElem?_set_self (getI hz)] at hw
      cases hw
      have := B j z hz
      show (z.text ++ tx).length ≤ _
      rw [List.length_append]; omega
    · rw [List.getElem?_set_ne ej] at hw
      have := B k w hw
      omega
  · rw [e]
    exact ((B.mono (c := m + c) (by omega)).addM (by omega)).like (put_like (G.addM _ _ _ _ _) _ _ _)
theorem write_len (G : GoodT ns) (p b : Int) (tx : Bs) : (writeM ns p b tx).1.length ≤ ns.length + 1 := by
  rcases write_of (ns := ns) p b tx with e | ⟨j, z, hz, hk, e⟩ | ⟨i, e⟩
  · rw [e]; omega
  · rw [e, List.length_set]; omega
  · rw [e, put_len (G.addM _ _ _ _ _)]; exact add_len
theorem copy_len (id : Int) : (copyM ns id).1.length ≤ ns.length + 1 := by
  rcases copyM_of (ns := ns) id with ⟨z, hz, e⟩ | e
  · rw [e]; exact add_len
  · rw [e]; exact Nat.le_succ _
theorem move_len (f d : Int) : (moveM ns f d).1.length = ns.length := by
  unfold moveM
  split
  · exact moveAt_len
  · rfl
theorem add_val {o : Option NodeM} : (addM ns o).2 ≤ ns.length ∧ -1 ≤ (addM ns o).2 := by
  cases o with
  | none => exact ⟨by show (-1 : Int) ≤ _; omega, Int.le_refl _⟩
  | some x => exact ⟨Int.le_refl _, by show (-1 : Int) ≤ (ns.length : Int); omega⟩
theorem copy_val (id : Int) : (copyM ns id).2 ≤ ns.length ∧ -1 ≤ (copyM ns id).2 := by
  rcases copyM_of (ns := ns) id with ⟨z, hz, e⟩ | e
  · rw [e]; exact add_val
  · rw [e]; exact ⟨by show (-1 : Int) ≤ _; omega, Int.le_refl _⟩
end
end Go.Proofs
