/- place: the chapter's example, walked; what is read of nodes. No condition but that the library's variable holds a number. -/
import Derived.Test.YtmnjhhgdhlgjfaaGreatPcF
namespace Go.Proofs
open Go Go.Sh
set_option linter.unusedVariables false
set_option maxRecDepth 100000
section
variable {d : Nat} {A : Nat → Prop} {h : H} {a : Addr} {x : NodeV}
theorem nodeParts (hA : At (elNode (d + 1)) A h a x) : ∃ kb kn kc, cell h (a.add 0) = some (.int .u8 x.kind) ∧ cell h (a.add 4) = some (S x.text) ∧ cell h (a.add 5) = some (.slice kb kn kc) ∧ Row (elNode d) A h kb kn kc x.kids ∧ x.text.length ≤ maxLen := by
  obtain ⟨_, cs, hR, hc⟩ := hA
  obtain ⟨ab, an, ac, kb, kn, kc, rfl, ra, hz, rk, hz2, r1, r2, r3, r4⟩ := nodeR_inv hR
  exact ⟨kb, kn, kc, hc 0 _ rfl, hc 4 _ rfl, hc 5 _ rfl, rk, r4⟩
end
section
variable {h : H} {K : Value → H → Prop} {col : Col} {w : Addr} {m : WM}
theorem ExtP.kb0 {Z : Nat → Prop} {h h' : H} {col' : Col} (e : ExtP Z h (fun _ => none) h' col') : KB h h' := e.sk.less fun k hk => ⟨hk, fun s p _ e2 => by cases e2⟩
theorem foster_k (p : PW h col w m) (b : Bool) {Q : H → Prop} (hk : ∀ h', PW h' col w { m with fo := b } → ExtP PS h col h' col → Q h') : stL (w.add 3) [.bool b] 0 h Q := by
  obtain ⟨t, ads, T, W⟩ := p.ex
  obtain ⟨ob, oc, mb, mn, mc, v, o, om⟩ := W.ex
  refine stL_var (m := 3) (i := 0) v (by show 3 + 0 + 1 ≤ 5; omega) fun h3 v3 k3 s3 => ?_
  have E : ExtP (fun k => k = 2) h col h3 col := ExtP.kx k3 W.col rfl
  have f3 : Fresh h3 col := fun k hk => p.fresh k (by omega)
  have hne : ∀ g q, col g = some (2, q) → q ≠ 0 → g ≠ w.block := fun g q e hq e2 => by rw [e2, W.col] at e; cases e; exact hq rfl
  have ok := o.keep (h' := h3) (col' := col) k3.w (fun _ _ => rfl) fun k hk hc => by
    rcases hc with hc | hc
    · intro e; rw [e, W.col] at hc; cases hc
    · exact hne k 1 hc (by decide)
  have omk := om.keep (h' := h3) (col' := col) k3.w (fun _ _ => rfl) fun k hk hc => by
    rcases hc with hc | hc
    · intro e; rw [e, W.col] at hc; cases hc
    · exact hne k 2 hc (by decide)
  exact hk h3 ⟨t, ads, T.otherP (S := fun k => k = 2) (by decide) E f3, ⟨⟨ob, oc, mb, mn, mc, v3, ok, omk⟩, W.col, W.rh⟩⟩ (E.mono fun s hs => .inr hs)
theorem row_nilF {A : Nat → Prop} {h : H} : Row elAttr A h none 0 0 [] := ⟨rfl, Nat.le_refl _, Nat.zero_le _, fun i x hx => by simp at hx⟩
theorem good_q (ns : List NodeM) (p b i : Int) (G : GoodT ns) (nm : Bs) : GoodT (putM (addM ns (bareM 1 0 nm [] [])).1 p b i).1 := (G.addM _ _ _ _ _).putM _ _ _
theorem goodInsert {m : WM} (G : GoodT m.ns) (sp : Int) (nm : Bs) (at' : List AttrP) : GoodT (insertM m sp nm at').ns := (G.addM _ _ _ _ _).putM _ _ _
theorem goodWrite {m : WM} (G : GoodT m.ns) (tx : Bs) : GoodT (writeW m tx).ns := G.writeM _ _ _
theorem attrsW_nil : AttrsW [] := fun a h => by cases h
theorem known_calls (ml : ML h) (hk : ∀ h', KB h h' → K (.bool true) h') : HCalls Tryz.prog 5 ⟨[]⟩ h K := by
  have L : Lib0 h (fun _ => none) := ⟨ml, rfl⟩
  refine Sx.l13_known.ok _ _ (placeNew_calls (col := fun _ => none) (fun _ _ => rfl) fun w h1 c1 p1 E1 => vPtrMk (ptrEq_k (by kernel_rfl) (vBool_mk (condF (vSomeMk ?_)))))
  have G1 : GoodT wm0.ns := good_root
  obtain ⟨t, ads, T, W⟩ := p1.ex
  obtain ⟨ob, oc, mb, mn, mc, v, o, om⟩ := W.ex
  refine ⟨_, v.cell 0 rfl, ptrEq_k (by kernel_rfl) (vBool_mk (condF ?_))⟩
  have L1 := L.ext E1
  refine insert_calls L1 p1 G1 (by decide) (by decide) (by decide) row_nilF (fun _ => rfl) (by decide) attrsW_nil ⟨by decide, by decide⟩ ⟨by decide, by decide⟩ (by decide) fun h2 c2 p2 E2 => vIntMk ?_
  have G2 := goodInsert G1 0 [116, 97, 98, 108, 101] []
  have e1 : insertM wm0 0 [116, 97, 98, 108, 101] [] = q1 := kq1
  rw [e1] at p2 G2
  refine insert_calls (L1.ext E2) p2 G2 (by decide) (by decide) (by decide) row_nilF (fun _ => rfl) (by decide) attrsW_nil ⟨by decide, by decide⟩ ⟨by decide, by decide⟩ (by decide) fun h3 c3 p3 E3 => vIntMk ?_
  have G3 := goodInsert G2 0 [116, 114] []
  have e2 : insertM q1 0 [116, 114] [] = q2 := kq2
  rw [e2] at p3 G3
  refine vSomeMk (foster_k p3 true fun h4 p4 E4 => ?_)
  have small : ∀ {ns : List NodeM}, (ns.all fun x => decide (x.text.length ≤ 5)) = true → ∀ {tx : Bs}, tx.length ≤ 5 → ∀ (i : Nat) x, ns[i]? = some x → x.text.length + tx.length ≤ 9223372036854775807 := fun hs tx ht i x hx => by
    have := of_decide_eq_true (List.all_eq_true.1 hs x (List.mem_of_getElem? hx))
    omega
  refine write_callsW p4 G3 (by decide) (by decide) (by decide) (small (by decide +kernel) (by decide)) (by decide) fun h5 c5 p5 E5 => ?_
  have G5 := goodWrite (m := { q2 with fo := true }) G3 [120]
  rw [kq3] at p5 G5
  refine vSomeMk (foster_k p5 false fun h6 p6 E6 => ?_)
  have L6 := ((((L1.ext E2).ext E3).ext E4).ext E5).ext E6
  refine insert_calls L6 p6 G5 (by decide) (by decide) (by decide) row_nilF (fun _ => rfl) (by decide) attrsW_nil ⟨by decide, by decide⟩ ⟨by decide, by decide⟩ (by decide) fun h7 c7 p7 E7 => vIntMk ?_
  have G7 := goodInsert (m := { q3 with fo := false }) G5 0 [98] []
  rw [kq4] at p7 G7
  refine write_callsW p7 G7 (by decide) (by decide) (by decide) (small (by decide +kernel) (by decide)) (by decide) fun h8 c8 p8 E8 => ?_
  have G8 := goodWrite G7 [121]
  rw [kq5] at p8 G8
  have E := (((((((E1.trans E2).trans E3).trans E4).trans E5).trans E6).trans E7).trans E8)
  obtain ⟨t8, ads8, T8, W8⟩ := p8.ex
  obtain ⟨ob8, oc8, mb8, mn8, mc8, v8, o8, om8⟩ := W8.ex
  have hd : Deep 5 q5.ns 0 := by
    have e : ∀ id k, k ∈ kidsI q5.ns id → id = 0 ∧ (k = 3 ∨ k = 1) ∨ id = 1 ∧ k = 2 ∨ id = 2 ∧ k = 4 ∨ id = 4 ∧ k = 5 := by
      intro id k hk
      unfold kidsI at hk
      by_cases h0 : 0 ≤ id
      · rw [if_pos h0] at hk
        obtain ⟨j, rfl⟩ := Int.eq_ofNat_of_zero_le h0
        rw [Int.toNat_natCast] at hk
        match j, hk with
        | 0, hk => have hk : k ∈ ([3, 1] : List Int) := hk; simp at hk; left; exact ⟨rfl, hk⟩
        | 1, hk => have hk : k ∈ ([2] : List Int) := hk; simp at hk; right; left; exact ⟨rfl, hk⟩
        | 2, hk => have hk : k ∈ ([4] : List Int) := hk; simp at hk; right; right; left; exact ⟨rfl, hk⟩
        | 3, hk => have hk : k ∈ ([] : List Int) := hk; cases hk
        | 4, hk => have hk : k ∈ ([5] : List Int) := hk; simp at hk; right; right; right; exact ⟨rfl, hk⟩
        | 5, hk => have hk : k ∈ ([] : List Int) := hk; cases hk
        | j + 6, hk => have hk : k ∈ ([] : List Int) := hk; cases hk
      · rw [if_neg h0] at hk; cases hk
    intro k1 h1 k2 h2 k3 h3 k4 h4 k5 h5
    have a1 := e _ _ h1
    have a2 := e _ _ h2
    have a3 := e _ _ h3
    have a4 := e _ _ h4
    have a5 := e _ _ h5
    exfalso
    omega
  refine vSomeMk ⟨_, v8.cell 0 rfl, whole_calls G8 5 0 T8 hd fun h9 b9 n9 c9 k9 o9 => vSliceMk ?_⟩
  rw [kq_whole] at o9
  have r9 := o9.row
  have hl9 := r9.len
  have hn9 : n9 = 2 := by simpa using hl9.symm
  have v9 := v8.kb k9
  refine splT (by omega) (r9.idxN (i := 0) (by decide) rfl fun q0 A0 => ?_)
  obtain ⟨kb0, kn0, kc0, _, t0, _⟩ := nodeParts A0
  refine ⟨_, t0, splT rfl (r9.idxN (i := 1) (by decide) rfl fun q1' A1 => ?_)⟩
  obtain ⟨kb1, kn1, kc1, _, _, s1, rk1, _⟩ := nodeParts A1
  have hk1 : kn1 = 1 := by have := rk1.len; simpa [NodeV.kids] using this.symm
  refine ⟨_, _, _, s1, splT (by omega) (r9.idxN (i := 1) (by decide) rfl fun q2' A2 => ?_)⟩
  obtain ⟨kb2, kn2, kc2, _, _, s2, rk2, _⟩ := nodeParts A2
  refine ⟨_, _, _, s2, rk2.idxN (i := 0) (by decide) rfl fun q3' A3 => ?_⟩
  obtain ⟨kb3, kn3, kc3, _, _, s3, rk3, _⟩ := nodeParts A3
  have hk3 : kn3 = 1 := by have := rk3.len; simpa [NodeV.kids] using this.symm
  refine ⟨_, _, _, s3, splT (by omega) (vSomeMk ⟨_, v9.cell 4 rfl, splT rfl ?_⟩)⟩
  refine current_calls (W8.kb k9) (by decide) (by decide) fun h10 k10 => agOpen (x := curM q5.op) ?_
  exact splT rfl (hk h10 ((E.kb0.trans k9).trans k10))
end
end Go.Proofs
