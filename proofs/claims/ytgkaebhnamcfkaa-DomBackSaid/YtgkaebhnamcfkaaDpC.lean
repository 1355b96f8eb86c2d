/- dom: DomBack, the end. No condition. -/
import Derived.Test.YtgkaebhnamcfkaaDpA
import Derived.Test.YtgkaebhnamcfkaaDpB
import Derived.Test.YtgkaebhnamcfkaaDoR
namespace Go.Proofs
open Go Go.Sh
set_option linter.unusedVariables false
set_option maxRecDepth 100000
theorem tot_attrs {d : Nat} {x : NodeV} {l : List NodeV} (h : x ∈ l) : x.attrs.length ≤ totN (d + 1) l := by
  have h1 : nodeW (totN d) x ≤ totN (d + 1) l := sumN_mem h
  rw [nodeW_eq] at h1
  have := attrs_len x.attrs
  omega
section
variable {h h0 h' : H} {K : Value → H → Prop} {col col' : Col} {s i p : Nat} {t a : Addr} {ads : List Addr} {ns ns' : List NodeM}
theorem row_ext {α : Type} {E : El α} {b : Option Addr} {n c : Nat} {l : List α} (r : Row E (fun k => col k = none) h b n c l) (e : Ext s h col h' col') : Row E (fun k => col' k = none) h' b n c l :=
  r.keep (SK.w (e.sk.less fun k hk => ⟨hk.2, fun p he => by rw [hk.1] at he; cases he⟩)) fun k hk hs => (e.cl k hs).trans hk
theorem row_new {α : Type} {E : El α} {b : Option Addr} {n c e : Nat} {l : List α} (T : TreeP h col s t ads ns) (o : OwnR E h' h.size e b n c l) : Row E (fun k => col k = none) h' b n c l :=
  o.row.keep (Keep.refl _ _) fun k hk _ => T.fresh k hk.1
theorem ext0 (e : Ext 0 h0 (fun _ => none) h col) : KB h0 h := e.sk.less fun k hk => ⟨hk, fun p e => by cases e⟩
theorem put_eq (T : TreeP h col s t ads ns) (G : GoodT ns) {parent before id : Int} {ok : Bool} (e : putM ns parent before id = (ns', ok)) (hk : ∀ h' col', TreeP h' col' s t ads ns' → Ext s h col h' col' → K (.bool ok) h') :
    HCalls Try.prog 11 ⟨[.pointer (some t), .int .i64 parent, .int .i64 before, .int .i64 id]⟩ h K := put_calls T G (by rw [e]; exact hk)
theorem cut_eq (T : TreeP h col s t ads ns) (G : GoodT ns) {id : Int} {ok : Bool} (e : cutM ns id = (ns', ok)) (hk : ∀ h' col', TreeP h' col' s t ads ns' → Ext s h col h' col' → K (.bool ok) h') :
    HCalls Try.prog 22 ⟨[.pointer (some t), .int .i64 id]⟩ h K := cut_calls T G (by rw [e]; exact hk)
theorem copy_eq (T : TreeP h col s t ads ns) {id v : Int} (hfew : ns.length < 1000000) (e : copyM ns id = (ns', v)) (hk : ∀ h' col' ads', TreeP h' col' s t ads' ns' → Ext s h col h' col' → K (.int .i64 v) h') :
    HCalls Try.prog 19 ⟨[.pointer (some t), .int .i64 id]⟩ h K := copy_calls T hfew (by rw [e]; exact hk)
theorem make_eq (T : TreeP h col s t ads ns) {v kd sp : Int} {nm tx : Bs} {ab kb : Option Addr} {an ac kn kc : Nat} {attrs : List AttrP} {A : Nat → Prop} (r : Row elAttr A h ab an ac attrs) (hz : ab = none → ac = 0) (han : an ≤ 1000000) (hkd : Rng .u8 kd) (hsp : Rng .u8 sp) (hxn : nm.length ≤ maxLen) (hxt : tx.length ≤ maxLen) (hfew : ns.length < 1000000)
    (e : addM ns (bareM kd sp nm attrs tx) = (ns', v)) (hk : ∀ h' col' ads', TreeP h' col' s t ads' ns' → Ext s h col h' col' → K (.int .i64 v) h') :
    HCalls Try.prog 10 ⟨[.pointer (some t), .agg ⟨[.int .u8 kd, .int .u8 sp, S nm, .slice ab an ac, S tx, .slice kb kn kc]⟩]⟩ h K := make_calls T r hz han hkd hsp hxn hxt hfew (by rw [e]; exact hk)
theorem back_end {x : NodeV} {a3 : Addr} {ab kb : Option Addr} {an ac kn kc t3 : Nat} {B : Nat → Prop} (T : TreeP h col 0 t ads ns) (G : GoodT ns) (E : Ext 0 h0 (fun _ => none) h col) (hlen : ns.length ≤ 200)
    (v3 : Var h0 a3 t3 (nvCells x ab an ac kb kn kc)) (ra : Row elAttr B h0 ab an ac x.attrs) (hz : ab = none → ac = 0) (han : an ≤ 1000000) (r1 : Rng .u8 x.kind) (r2 : Rng .u8 x.space) (r3 : x.name.length ≤ maxLen) (r4 : x.text.length ≤ maxLen)
    (hk : ∀ h', KB h0 h' → K (.bool true) h') : Sx.l10_DomBack.n5 a3 (some t) (fun y2 h => K (.bool y2) h) (fun y2 h => K (.bool y2) h) h := by
  obtain ⟨r, hr0, hr⟩ := G.root
  cases ns with
  | nil => cases hr0
  | cons r' tl =>
  have hr0 : some r' = some r := hr0
  cases hr0
  have hlen : tl.length + 1 ≤ 200 := hlen
  have hfew : (r :: tl).length < 1000000 := by show tl.length + 1 < _; omega
  have hkk : ∀ k ∈ r.kids, k < ((tl.length + 1 : Nat) : Int) := fun k hk => by
    obtain ⟨j, e, hj⟩ := top_kids G hr (i := 0) rfl hk
    omega
  cases hb : bareM x.kind x.space x.name x.attrs x.text with
  | none =>
    obtain ⟨D, hD⟩ := G.deep
    refine whole_calls G D 0 T (hD D (Nat.le_refl _) 0) fun h1 b1 n1 c1 k1 o1 => vSliceMk ?_
    have E1 := E.trans (Ext.kb k1)
    have kk := ext0 E1
    have v4 := v3.kb kk
    refine ⟨_, v4.cell 0 rfl, _, v4.cell 1 rfl, _, v4.cell 2 rfl, _, _, _, v4.cell 3 rfl, _, v4.cell 4 rfl, _, _, _, v4.cell 5 rfl, make_eq (T.kb k1) (ra.kb kk) hz han r1 r2 r3 r4 hfew (v := -1) (ns' := r :: tl) (by rw [hb]; rfl) fun h2 c2 a2 T2 E2 => vIntMk (splT (by decide) ?_)⟩
    have kk2 := ext0 (E1.trans E2)
    have v5 := v3.kb kk2
    have hb2 := bare_none hb
    exact ⟨_, v5.cell 0 rfl, spl (fun _ => hk h2 kk2) fun hn => ⟨_, v5.cell 0 rfl, splT (by omega) (hk h2 kk2)⟩⟩
  | some y =>
    obtain ⟨b1, b2, b3⟩ := bare_bare hb
    have e1 : addM (r :: tl) (bareM x.kind x.space x.name x.attrs x.text) = ((r :: tl) ++ [y], ((tl.length + 1 : Nat) : Int)) := by rw [hb]; rfl
    have e2 : copyM ((r :: tl) ++ [y]) ((tl.length + 1 : Nat) : Int) = (twoT r tl y r.kids (-1) (-1), ((tl.length + 2 : Nat) : Int)) := by
      have hg : ((r :: tl) ++ [y])[tl.length + 1]? = some y := by
        rw [List.getElem?_append_right (by simp)]
        simp
      have hl : ((r :: tl) ++ [y]).length = tl.length + 2 := by simp
      unfold copyM
      rw [if_pos ⟨by omega, by rw [hl]; omega⟩, Int.toNat_natCast, hg]
      show addM _ (bareM y.kind y.space y.name y.attrs y.text) = _
      rw [b1]
      show (((r :: tl) ++ [y]) ++ [y], (((r :: tl) ++ [y]).length : Int)) = _
      rw [hl]
      unfold twoT
      rw [node_same b2, List.append_assoc]
      rfl
    have G1 : GoodT ((r :: tl) ++ [y]) := by have := G.addM x.kind x.space x.name x.attrs x.text; rw [e1] at this; exact this
    have G2 : GoodT (twoT r tl y r.kids (-1) (-1)) := by have := G1.copyM ((tl.length + 1 : Nat) : Int); rw [e2] at this; exact this
    have p1 := two_put1 (x := y) (ks := r.kids) hr b2 hkk (-1)
    have G3 : GoodT (twoT r tl y (r.kids ++ [((tl.length + 1 : Nat) : Int)]) 0 (-1)) := by have := G2.putM 0 (-1) ((tl.length + 1 : Nat) : Int); rw [p1] at this; exact this
    have p2 := two_put2 (x := y) (ks := r.kids) hr b2 hkk 0
    have G4 : GoodT (twoT r tl y (r.kids ++ [((tl.length + 2 : Nat) : Int), ((tl.length + 1 : Nat) : Int)]) 0 0) := by have := G3.putM 0 ((tl.length + 1 : Nat) : Int) ((tl.length + 2 : Nat) : Int); rw [p2] at this; exact this
    have q1 := two_cut1 (r := r) (x := y) (ks := r.kids) hkk 0
    have G5 : GoodT (twoT r tl y (r.kids ++ [((tl.length + 2 : Nat) : Int)]) (-1) 0) := by have := G4.cutM ((tl.length + 1 : Nat) : Int); rw [q1] at this; exact this
    have q2 := two_cut2 (r := r) (x := y) (ks := r.kids) hkk (-1)
    obtain ⟨D1, hD1⟩ := G.deep
    obtain ⟨D2, hD2⟩ := G2.deep
    obtain ⟨D3, hD3⟩ := G3.deep
    obtain ⟨D4, hD4⟩ := G4.deep
    obtain ⟨D, hd1, hd2, hd3, hd4⟩ : ∃ D, D1 ≤ D + 1 ∧ D2 ≤ D + 1 ∧ D3 ≤ D + 1 ∧ D4 ≤ D + 1 := ⟨D1 + D2 + D3 + D4, by omega, by omega, by omega, by omega⟩
    have tv : ∀ k : Int, k = ((tl.length + 1 : Nat) : Int) ∨ k = ((tl.length + 2 : Nat) : Int) → topV D r tl y k = .mk y.kind y.space y.name y.attrs y.text [] := fun k hk => by
      unfold topV
      rw [if_neg (by omega)]
    have w1 := whole_one G hr y D
    have w2 := whole_two G hr b3 (ks := r.kids) (p := -1) (q := -1) (fun k hk => Or.inl hk) D
    have w3 := whole_two G hr b3 (ks := r.kids ++ [((tl.length + 1 : Nat) : Int)]) (p := 0) (q := -1) (fun k hk => (List.mem_append.1 hk).imp id fun h => Or.inl (by simpa using h)) D
    have w4 := whole_two G hr b3 (ks := r.kids ++ [((tl.length + 2 : Nat) : Int), ((tl.length + 1 : Nat) : Int)]) (p := 0) (q := 0) (fun k hk => (List.mem_append.1 hk).imp id fun h => by
      simp only [List.mem_cons, List.not_mem_nil, or_false] at h
      exact h.symm) D
    rw [List.map_append, List.map_cons, tv _ (Or.inl rfl), List.map_nil] at w3
    rw [List.map_append, List.map_cons, List.map_cons, tv _ (Or.inl rfl), tv _ (Or.inr rfl), List.map_nil] at w4
    generalize hW : r.kids.map (topV D r tl y) = W at w1 w2 w3 w4
    generalize hL : NodeV.mk y.kind y.space y.name y.attrs y.text [] = L at w3 w4
    refine whole_calls G (D + 1) 0 T (hD1 _ hd1 0) fun h1 x1 n1 c1 k1 o1 => vSliceMk ?_
    rw [w1] at o1
    have T1 := T.kb k1
    have E1 := E.trans (Ext.kb k1)
    have R1 := row_new T o1
    have kk := ext0 E1
    have v4 := v3.kb kk
    refine ⟨_, v4.cell 0 rfl, _, v4.cell 1 rfl, _, v4.cell 2 rfl, _, _, _, v4.cell 3 rfl, _, v4.cell 4 rfl, _, _, _, v4.cell 5 rfl, make_eq T1 (ra.kb kk) hz han r1 r2 r3 r4 hfew e1 fun h2 cl2 a2 T2 E2 => vIntMk (splF (by omega) ?_)⟩
    have hfew2 : ((r :: tl) ++ [y]).length < 1000000 := by rw [List.length_append]; show tl.length + 1 + 1 < _; omega
    refine copy_eq T2 hfew2 e2 fun h3 cl3 a4 T3 E3 => vIntMk ?_
    have R1 := row_ext (row_ext R1 E2) E3
    refine whole_calls G2 (D + 1) 0 T3 (hD2 _ hd2 0) fun h4 x4 n4 c4 k4 o4 => vSliceMk ?_
    rw [w2] at o4
    have R1 := R1.kb k4
    have R4 := row_new T3 o4
    refine put_eq (T3.kb k4) G2 p1 fun h5 cl5 T5 E5 => vBool_mk (condT ?_)
    have R1 := row_ext R1 E5
    have R4 := row_ext R4 E5
    refine whole_calls G3 (D + 1) 0 T5 (hD3 _ hd3 0) fun h6 x6 n6 c6 k6 o6 => vSliceMk ?_
    rw [w3] at o6
    have R1 := R1.kb k6
    have R4 := R4.kb k6
    have R6 := row_new T5 o6
    refine put_eq (T5.kb k6) G3 p2 fun h7 cl7 T7 E7 => vBool_mk (condT ?_)
    have R1 := row_ext R1 E7
    have R4 := row_ext R4 E7
    have R6 := row_ext R6 E7
    refine whole_calls G4 (D + 1) 0 T7 (hD4 _ hd4 0) fun h8 x8 n8 c8 k8 o8 => vSliceMk ?_
    rw [w4] at o8
    have R1 := R1.kb k8
    have R4 := R4.kb k8
    have R6 := R6.kb k8
    have R8 := row_new T7 o8
    refine cut_eq (T7.kb k8) G4 q1 fun h9 cl9 T9 E9 => vBool_mk (condT ?_)
    refine cut_eq T9 G5 q2 fun h10 cl10 T10 E10 => vBool_mk (condT ?_)
    have R1 := row_ext (row_ext R1 E9) E10
    have R4 := row_ext (row_ext R4 E9) E10
    have R6 := row_ext (row_ext R6 E9) E10
    have R8 := row_ext (row_ext R8 E9) E10
    have kE := ext0 ((((((((((E1.trans E2).trans E3).trans (Ext.kb k4)).trans E5).trans (Ext.kb k6)).trans E7).trans (Ext.kb k8)).trans E9).trans E10))
    have l1 := R1.len
    have l6 := R6.len
    have l8 := R8.len
    have m1 : n1 ≤ maxLen := Nat.le_trans R1.cap R1.max
    have m6 : n6 ≤ maxLen := Nat.le_trans R6.cap R6.max
    have m8 : n8 ≤ maxLen := Nat.le_trans R8.cap R8.max
    have cp6 := R6.cap
    have cp8 := R8.cap
    rw [List.length_append] at l6 l8
    have l6 : W.length + 1 = n6 := l6
    have l8 : W.length + 2 = n8 := l8
    simp only [maxLen] at m1 m6 m8
    have Ra := R8.sub (lo := n1) (hi := n1 + 1) (by omega) (by omega) (z := 6) rfl
    have Rb := R8.sub (lo := n1 + 1) (hi := n8) (by omega) (Nat.le_refl _) (z := 6) rfl
    have Rc := R6.sub (lo := 0) (hi := n1) (by omega) (by omega) (z := 6) rfl
    have ea : ((W ++ [L, L]).take (n1 + 1)).drop n1 = [L] := by
      rw [← l1, show W ++ [L, L] = (W ++ [L]) ++ [L] by rw [List.append_assoc]; rfl, List.take_left' (by simp), List.drop_left' rfl]
    have eb : ((W ++ [L, L]).take n8).drop (n1 + 1) = [L] := by
      rw [List.take_of_length_le (by simp; omega), show W ++ [L, L] = (W ++ [L]) ++ [L] by rw [List.append_assoc]; rfl, List.drop_left' (by simp; omega)]
    have ec : ((W ++ [L]).take n1).drop 0 = W := by rw [List.drop_zero, List.take_left' l1]
    rw [ea] at Ra
    rw [eb] at Rb
    rw [ec] at Rc
    refine condT (condT (condT (condT ⟨rngI (by omega) (by omega), splT (by omega) ⟨rngI (by omega) (by omega), splT (by omega) ⟨rngI (by omega) (by omega), ⟨by omega, by omega, by omega⟩, rngI (by omega) (by omega), ⟨by omega, by omega, by omega⟩, same_calls (D + 1) Ra Rb fun h11 k11 => vBool_mk ?_⟩⟩⟩)))
    rw [sameD_refl]
    refine condT (sameNodes_calls (D + 1) (R1.kb k11) (R4.kb k11) fun h12 k12 => vBool_mk ?_)
    rw [sameN_true rfl]
    refine condT ⟨⟨by omega, by omega, by omega⟩, sameNodes_calls (D + 1) (Rc.kb (k11.trans k12)) (R1.kb (k11.trans k12)) fun h13 k13 => vBool_mk ?_⟩
    rw [sameN_true rfl]
    have k13' := (k11.trans k12).trans k13
    refine condT (whole_calls G2 (D + 1) 0 (T10.kb k13') (hD2 _ hd2 0) fun h14 x14 n14 c14 k14 o14 => vSliceMk ?_)
    rw [w2] at o14
    refine sameNodes_calls (D + 1) o14.row (R1.kb (k13'.trans k14)) fun h15 k15 => vBool_mk ?_
    rw [sameN_true rfl]
    exact condT (hk h15 (((kE.trans k13').trans k14).trans k15))
end
end Go.Proofs
