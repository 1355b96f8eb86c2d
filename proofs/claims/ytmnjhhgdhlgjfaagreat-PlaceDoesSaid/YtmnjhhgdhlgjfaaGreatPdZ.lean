/- place: PlaceDoes, the law. No condition but that the library's variable holds a number. -/
import Derived.Test.YtmnjhhgdhlgjfaaGreatPdY
namespace Go.Proofs
open Go Go.Sh
set_option linter.unusedVariables false
set_option maxRecDepth 100000
theorem rng3D {x : Int} (h : Rng .u8 x) : Rng .u8 (Int.tmod x 3) := by
  have h1 := h.1
  have h2 := h.2
  have h3 : (0 : Int) ≤ x := h1
  rw [Int.tmod_eq_emod_of_nonneg h3]
  exact ⟨by show (0 : Int) ≤ _; omega, by show _ ≤ (255 : Int); omega⟩
section
variable {A : Nat → Prop} {h : H} {K : Value → H → Prop} {col : Col} {w r : Addr} {m : WM} {u v x : Nat} {b : Option Addr} {n c : Nat} {i : Nat}
/-- one call, and what is looked at behind it -/
theorem doesOne {l : List OpQ} (D : PD h col w r m) (H : DI m u v x) (L : Lib0 h col) (R : Row elOpQ (Free col h) h b n c l) (hi : i < l.length) (hsm : tokW l[i].2.2.1 ≤ 400) (hu : u ≤ 50000) (hv : v ≤ 500) (hx : x ≤ 500000) (Kn Ke1 : T5D) (Ke0 : Sx.l13_PlaceDoes.T4) (Kr : Sx.l13_PlaceDoes.T0)
    (after : ∀ h' col' m', PD h' col' w r m' → DI m' (u + 1 + v) (v + 1) (x + 4000) → ExtP AS h col h' col' → Kn b n c (some w) (some r) (i : Int) h') :
    Sx.l13_PlaceDoes.n14 b n c (some w) (some r) (i : Int) Kn Ke1 Ke0 Kr h := by
  obtain ⟨b1, b2, b3, b4⟩ := tokW_small hsm
  refine R.idxN hi rfl fun q hA => ?_
  obtain ⟨ab, an, ac, C⟩ := opTok hA
  have a2 : ∀ j, ((q.add (i * 9)).add 2).add j = (q.add (i * 9)).add (2 + j) := fun j => add_add _ _ _
  have c0 := C.c0
  have c1 := C.c1
  have c2 := C.c2
  have c3 := C.c3
  have c4 := C.c4
  have e0 := a2 0
  have e1 := a2 1
  have e2 := a2 2
  have e3 := a2 3
  have e4 := a2 4
  refine ⟨_, (opKind hA).1, _, (opSpace hA).1, _, e0 ▸ c0, _, e1 ▸ c1, _, _, _, e2 ▸ c2, _, e3 ▸ c3, _, e4 ▸ c4, _, (opN hA).1, _, opYes hA, newx_var fun a h1 v1 k1 ea s1 => stL_var0 v1 (by show 9 ≤ 9; omega) fun h2 v2 k2 s2 => ?_⟩
  have k12 : KB h h2 := KB.step k1 k2 (by omega)
  have v2' : Var h2 a 33 (opCells l[i] ab an ac) := v2
  have ca : col a.block = none := D.P.fresh _ (by omega)
  have row2 : Row elAttr (Free col h2) h2 ab an ac l[i].2.2.1.2.2.1 := (ExtP.kb (S := fun _ => False) k12).row C.row
  have CQ : CallQ h2 col w r m u v x l[i] a 33 ab an ac :=
    ⟨D.kb k12, H, L.kb k12, v2', ca, row2, C.nil, (opKind hA).2, (opSpace hA).2, C.rk, by omega, by omega, by omega, fun y hy => by have := (b4 y hy).2; omega, by omega, by omega, by omega⟩
  -- behind the call: alike?
  have see : ∀ h' col' m', PD h' col' w r m' → DI m' (u + 1 + v) (v + 1) (x + 4000) → ExtP AS h2 col h' col' → Sx.l13_PlaceDoes.n17 b n c (some w) (some r) (i : Int) Kn Ke1 Ke0 Kr h' := fun h' col' m' D' H' E' =>
    alike_calls D' H' (by omega) (by omega) fun h3 k3 => vBool_mk (condT (after h3 col' m' (D'.kb k3) H' (((ExtP.kb k12).trans E').trans (.kb k3))))
  refine ⟨_, v2'.cell 1 rfl, by decide, _, v2'.cell 0 rfl, by decide, ?_⟩
  have hs3 := rng3D (opSpace hA).2
  have ins : Sx.l13_PlaceDoes.n22 b n c (some w) (some r) (i : Int) a (Int.tmod l[i].2.1 3) (fun z0b z0n z0c z3 z4 z5 h => Sx.l13_PlaceDoes.n17 z0b z0n z0c z3 z4 z5 Kn Ke1 Ke0 Kr h) (fun z0b z0n z0c z3 z4 z5 h => Sx.l13_PlaceDoes.n17 z0b z0n z0c z3 z4 z5 Kn Ke1 Ke0 Kr h) Ke1 Ke0 Kr h2 :=
    doesIns CQ (by omega) hs3 _ _ _ _ _ fun h' col' m' D' H' E' => see h' col' m' D' (H'.mono (by omega) (Nat.le_refl _) (by omega)) E'
  exact spl (fun _ => condT ins) fun _ => spl (fun _ => condT ins) fun _ => spl (fun _ => condT ins) fun _ => spl (fun _ => condT ins) fun _ => condF (doesRest CQ (opN hA).2 _ _ _ _ _ _ see)
theorem lawDoes_calls {l : List OpQ} (ml : ML h) (R : Row elOpQ A h b n c l) (hk : ∀ h', KB h h' → K (.bool true) h') :
    HCalls Tryz.prog 3 ⟨[.slice b n c]⟩ h K := by
  refine Sx.l13_PlaceDoes.ok _ _ _ _ _ (heavy_calls R fun h1 v k1 hv => vBool_mk (condB (fun ev => ?_) fun ev => ?_))
  · exact known_calls (ml.kb k1) fun h2 k2 => vBool_mk (condT (hk h2 (k1.trans k2)))
  have hL := hv ev
  refine known_calls (ml.kb k1) fun h2 k2 => vBool_mk (condT ?_)
  have k12 := k1.trans k2
  have r2 : Row elOpQ (Free (fun _ => none) h2) h2 b n c l := (R.kb k12).bel.keep (Keep.refl (fun _ => True) _ |>.less fun _ _ => trivial) fun k hk _ => ⟨rfl, hk⟩
  have L2 : Lib0 h2 (fun _ => none) := ⟨ml.kb k12, rfl⟩
  refine placeNew_calls (col := fun _ => none) (fun _ _ => rfl) fun w h3 c3 p3 E3 => vPtrMk ?_
  refine refNew_calls p3.fresh fun r h4 c4 p4 E4 => vPtrMk ?_
  have D4 : PD h4 c4 w r wm0 := ⟨p3.otherR E4 p4.fresh, p4⟩
  have E24 : ExtP AS h2 (fun _ => none) h4 c4 := (E3.mono fun s hs => .inl hs).trans (E4.mono fun s hs => .inr hs)
  have hl := R.len
  have hln := hL.1
  refine ⟨n + 1, ?_⟩
  have key : ∀ N i (m : WM) h5 c5, i + N = n → PD h5 c5 w r m → DI m (1 + i * 101) i (i * 4000) → ExtP AS h2 (fun _ => none) h5 c5 →
      Sx.l13_PlaceDoes.n9_L (fun h => Sx.l13_PlaceDoes.n6 (fun y2 h => K (.bool y2) h) (fun y2 h => K (.bool y2) h) h) (fun h => Sx.l13_PlaceDoes.n6 (fun y2 h => K (.bool y2) h) (fun y2 h => K (.bool y2) h) h) (fun y2 h => K (.bool y2) h) (N + 1) b n c (some w) (some r) (i : Int) h5 := by
    intro N
    induction N with
    | zero =>
      intro i m h5 c5 hi D5 H5 E5
      exact splF (by omega) (hk h5 (k12.trans E5.kb0))
    | succ N ih =>
      intro i m h5 c5 hi D5 H5 E5
      have hil : i < l.length := by omega
      refine splT (by omega) ?_
      refine doesOne D5 H5 (L2.ext E5) (E5.row r2) hil (hL.2 l[i] (List.getElem_mem hil)) (by omega) (by omega) (by omega) _ _ _ _ fun h6 c6 m6 D6 H6 E6 => ⟨rngW (by omega) (by omega), ?_⟩
      exact ih (i + 1) m6 h6 c6 (by omega) D6 (H6.mono (by omega) (Nat.le_refl _) (by omega)) (E5.trans E6)
  exact key n 0 wm0 h4 c4 (by omega) D4 DI.zero E24
end
end Go.Proofs
