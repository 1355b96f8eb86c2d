/- place: PlaceText. No condition but that the library's variable holds a number. -/
import Derived.Test.YtmnjhhgdhlgjfaaPcJ
namespace Go.Proofs
open Go Go.Sh
set_option linter.unusedVariables false
set_option maxRecDepth 100000
/-! ### ways down -/
theorem path_keep {ns ns' : List NodeM} {p : Nat} {tx : Bs} (E : AtEnd ns ns' p tx) (G : GoodT ns) : ∀ (l : List Int) (q : Nat), q < ns.length → PathL ns ((q : Int) :: l) → ((q : Int) :: l).getLast? = some (p : Int) → PathL ns' ((q : Int) :: l)
  | [], _, _, _, _ => trivial
  | r :: t, q, hq, hP, hl => by
    obtain ⟨h1, h2⟩ := hP
    have hmem : r ∈ kidsI ns (q : Int) := List.mem_of_getLast? h1
    obtain ⟨j, y, rfl, hy, hpy⟩ := kid_par G hmem
    obtain ⟨_, i2⟩ := E.path G t j (getI hy) h2 (by simpa using hl)
    have hqp : q ≠ p := fun e => by
      subst e
      obtain ⟨rk, hr⟩ := G.rank
      obtain ⟨f, hf⟩ := i2
      have := inC_rank G hr f hf
      have := hr j q y hy hpy
      omega
    exact ⟨by rw [E.kids q hq hqp]; exact h1, path_keep E G t j (getI hy) h2 (by simpa using hl)⟩
theorem path_snoc {ns : List NodeM} {p n : Int} : ∀ {l : List Int}, PathL ns l → l.getLast? = some p → (kidsI ns p).getLast? = some n → PathL ns (l ++ [n])
  | [], _, _, _ => trivial
  | [q], _, hl, hk => by
    have : q = p := by simpa using hl
    subst this
    exact ⟨hk, trivial⟩
  | q :: r :: t, hP, hl, hk => ⟨hP.1, path_snoc (l := r :: t) hP.2 (by simpa using hl) hk⟩
theorem path_take {ns : List NodeM} : ∀ {l : List Int} (k : Nat), PathL ns l → PathL ns (l.take k)
  | [], k, _ => by rw [List.take_nil]; trivial
  | [q], 0, _ => trivial
  | [q], k + 1, _ => by rw [List.take_succ_cons, List.take_nil]; trivial
  | q :: r :: t, 0, _ => trivial
  | q :: r :: t, 1, _ => trivial
  | q :: r :: t, k + 2, hP => ⟨hP.1, path_take (l := r :: t) (k + 1) hP.2⟩
structure TI (m : WM) (want : Bs) : Prop where
  H : KidsH m.ns
  fo : m.fo = false
  hold : ∀ x ∈ m.op, holdB m.ns x.1 = true
  path : PathL m.ns (m.op.map (·.1))
  tx : ∃ D, ∀ d, D ≤ d → txI d m.ns 0 = want
theorem TI.zero : TI wm0 [] := ⟨fun i x hx hne => by
    have hx : [rootM][i]? = some x := hx
    cases i with
    | zero => exact .inl rfl
    | succ i => simp at hx,
  rfl, fun x hx => by have : x = (0, 0, wHtml, 0) := by simpa [wm0] using hx
                      subst this; rfl, trivial, 0, fun d _ => txI_none (by rfl) d⟩
section
variable {m : WM} {i : Nat} {want : Bs}
theorem TI.cur (H : HI m i) (T : TI m want) : ∃ (p : Nat) (y : NodeM) (l : List Int), whereC m = ((p : Int), -1) ∧ (curM m.op).1 = (p : Int) ∧ m.ns[p]? = some y ∧ (p = 0 ∨ y.kind = 1) ∧ m.op.map (·.1) = ((0 : Nat) : Int) :: l ∧ (((0 : Nat) : Int) :: l).getLast? = some (p : Int) ∧ l.length + 1 = m.op.length := by
  have hne := H.ne
  have hc : curM m.op = m.op[m.op.length - 1]'(by omega) := getD_get (by omega)
  obtain ⟨p, y, e, hy, hh⟩ := holdB_nat (T.hold (curM m.op) (by rw [hc]; exact List.getElem_mem _))
  have hm : ∃ l, m.op.map (·.1) = ((0 : Nat) : Int) :: l ∧ l.length + 1 = m.op.length := by
    have h0 := H.head
    cases hop : m.op with
    | nil => rw [hop] at hne; exact absurd hne (Nat.lt_irrefl _)
    | cons x t =>
      rw [hop] at h0
      have hx : x = (0, 0, wHtml, 0) := by simpa using h0
      exact ⟨t.map (·.1), by rw [List.map_cons, hx]; rfl, by rw [List.length_map]; rfl⟩
  obtain ⟨l, hl, hll⟩ := hm
  refine ⟨p, y, l, ?_, e, hy, hh, hl, ?_, hll⟩
  · unfold whereC whereM
    rw [T.fo, Bool.false_and, ← e]; rfl
  · rw [← hl, List.getLast?_map, List.getLast?_eq_getElem?, List.getElem?_eq_getElem (by omega), ← hc]
    show some (curM m.op).1 = _
    rw [e]
theorem TI.write (H : HI m i) (T : TI m want) (tx : Bs) : TI (writeW m tx) (want ++ tx) := by
  obtain ⟨p, y, l, hw, hc, hy, hh, hl, hlast, hll⟩ := TI.cur H T
  obtain ⟨E, H', hh'⟩ := atEnd_write H.G T.H (tx := tx) hy hh
  have hns : (writeW m tx).ns = (writeM m.ns (p : Int) (-1) tx).1 := by unfold writeW; rw [hw]
  have hP := T.path
  rw [hl] at hP
  have h0 : 0 < m.ns.length := by obtain ⟨r, hr, _⟩ := H.G.root; exact getI hr
  have hpath := E.path H.G l 0 h0 hP hlast
  refine ⟨by rw [hns]; exact H', T.fo, fun x hx => by rw [hns]; exact hh' _ (T.hold x hx), ?_, ?_⟩
  · show PathL (writeW m tx).ns (m.op.map (·.1))
    rw [hns, hl]
    exact path_keep E H.G l 0 h0 hP hlast
  · obtain ⟨D, hD⟩ := T.tx
    refine ⟨D + (l.length + 1), fun d hd => ?_⟩
    rw [hns]
    have := hpath.1 d (by omega)
    rw [← hD d (by omega)]
    exact this
theorem insert_ns {m : WM} {p : Nat} {y : NodeM} (G : GoodT m.ns) (hw : whereC m = ((p : Int), -1)) (hy : m.ns[p]? = some y) (hh : p = 0 ∨ y.kind = 1) (sp : Int) (nm : Bs) (at' : List AttrP) :
    (insertM m sp nm at').ns = appK m.ns p y ⟨1, sp, nm, at', [], -1, []⟩ := by
  show (putM (m.ns ++ [⟨1, sp, nm, at', [], -1, []⟩]) (whereC m).1 (whereC m).2 m.ns.length).1 = _
  rw [hw]
  show (putM (m.ns ++ [⟨1, sp, nm, at', [], -1, []⟩]) (p : Int) (-1) m.ns.length).1 = _
  rw [put_new G rfl rfl hy hh]
theorem TI.insert (H : HI m i) (T : TI m want) (sp : Int) (nm : Bs) (at' : List AttrP) : TI (insertM m sp nm at') want := by
  obtain ⟨p, y, l, hw, hc, hy, hh, hl, hlast, hll⟩ := TI.cur H T
  have hns := insert_ns H.G hw hy hh sp nm at'
  have E : AtEnd m.ns (appK m.ns p y ⟨1, sp, nm, at', [], -1, []⟩) p [] := atEnd_app H.G (x := ⟨1, sp, nm, at', [], -1, []⟩) rfl rfl hy
  have hP := T.path
  rw [hl] at hP
  have h0 : 0 < m.ns.length := by obtain ⟨r, hr, _⟩ := H.G.root; exact getI hr
  have hpath := E.path H.G l 0 h0 hP hlast
  refine ⟨by rw [hns]; exact T.H.app rfl hy hh, T.fo, fun x hx => ?_, ?_, ?_⟩
  · rw [hns]
    have hx : x ∈ m.op ++ [_] := hx
    rcases List.mem_append.1 hx with hx | hx
    · exact hold_app hy (T.hold x hx)
    · rw [List.mem_singleton.1 hx]
      have := appK_get (x := ⟨1, sp, nm, at', [], -1, []⟩) (y := y) (getI hy) m.ns.length
      rw [if_pos rfl] at this
      exact holdB_mk this (.inr rfl)
  · show PathL (insertM m sp nm at').ns ((m.op ++ [((m.ns.length : Int), sp, nm, pointM sp nm at')]).map (·.1))
    rw [hns, List.map_append, hl]
    refine path_snoc (path_keep E H.G l 0 h0 hP hlast) hlast ?_
    rw [appK_kids hy rfl, if_neg (by have := getI hy; omega), if_pos rfl, List.getLast?_concat]
  · obtain ⟨D, hD⟩ := T.tx
    refine ⟨D + (l.length + 1), fun d hd => ?_⟩
    rw [hns]
    have := hpath.1 d (by omega)
    rw [← hD d (by omega)]
    rw [List.append_nil] at this
    exact this
theorem TI.close (T : TI m want) (n : Int) : TI (closeW m n) want := by
  refine ⟨T.H, T.fo, fun x hx => T.hold x (close_mem hx), ?_, T.tx⟩
  show PathL m.ns ((closeO m.op n).map (·.1))
  unfold closeO
  split
  · rw [List.map_take]; exact path_take _ T.path
  · exact T.path
end
/-! ### text -/
section
variable {A : Nat → Prop} {h : H} {K : Value → H → Prop} {b : Option Addr} {n c : Nat}
theorem textV_drop {d : Nat} {l : List NodeV} {i : Nat} (hi : i < l.length) : textV (d + 1) (l.take (i + 1)) = textV (d + 1) (l.take i) ++ ((if l[i].kind = 2 then l[i].text else []) ++ textV d l[i].kids) := by
  show (l.take (i + 1)).flatMap _ = (l.take i).flatMap _ ++ _
  rw [List.take_add_one, List.getElem?_eq_getElem hi, List.flatMap_append]
  simp
theorem textV_len {d : Nat} {l : List NodeV} {i : Nat} : (textV (d + 1) (l.take i)).length ≤ (textV (d + 1) l).length := by
  have : textV (d + 1) l = textV (d + 1) (l.take i) ++ textV (d + 1) (l.drop i) := by
    show l.flatMap _ = (l.take i).flatMap _ ++ (l.drop i).flatMap _
    rw [← List.flatMap_append, List.take_append_drop]
  rw [this, List.length_append]; omega
theorem text_calls : ∀ (d : Nat) {A : Nat → Prop} {h : H} {K : Value → H → Prop} {b : Option Addr} {n c : Nat} {l : List NodeV} (R : Row (elNode d) A h b n c l) (hb : (textV d l).length ≤ 1000000000) (hk : K (S (textV d l)) h),
    HCalls Try.prog 11 ⟨[.slice b n c]⟩ h K
  | 0, A, h, K, b, n, c, l, R, hb, hk => by
    have : l = [] := by
      cases l with
      | nil => rfl
      | cons x l => obtain ⟨a, _, _, cs, hR, _⟩ := R.at' 0 x rfl; exact hR.elim
    subst this
    have hl := R.len
    refine Sx.l13_text.ok _ _ _ _ _ ⟨1, ?_⟩
    unfold Sx.l13_text.n7_L
    exact splF (by simp at hl; omega) hk
  | d + 1, A, h, K, b, n, c, l, R, hb, hk => by
    have hl := R.len
    have hmx : n ≤ maxLen := Nat.le_trans R.cap R.max
    simp only [maxLen] at hmx
    refine Sx.l13_text.ok _ _ _ _ _ ⟨n + 1, ?_⟩
    have key : ∀ N i, i + N = n →
        Sx.l13_text.n7_L (fun z3 h => Sx.l13_text.n4 z3 (fun y2 h => K (S y2) h) (fun y2 h => K (S y2) h) h) (fun z3 h => Sx.l13_text.n4 z3 (fun y2 h => K (S y2) h) (fun y2 h => K (S y2) h) h) (fun y2 h => K (S y2) h) (N + 1) b n c (textV (d + 1) (l.take i)) (i : Int) h := by
      intro N
      induction N with
      | zero =>
        intro i hi
        unfold Sx.l13_text.n7_L
        refine splF (by omega) ?_
        rw [List.take_of_length_le (by omega)]
        exact hk
      | succ N ih =>
        intro i hi
        have hil : i < l.length := by omega
        unfold Sx.l13_text.n7_L
        have hst := textV_drop (d := d) hil
        have hle := textV_len (d := d) (l := l) (i := i + 1)
        have hle2 : (textV (d + 1) (l.take i)).length + (if l[i].kind = 2 then l[i].text else []).length + (textV d l[i].kids).length ≤ 1000000000 := by
          rw [hst] at hle
          rw [List.length_append, List.length_append] at hle
          omega
        have kids : ∀ x3 : Bs, x3 = textV (d + 1) (l.take i) ++ (if l[i].kind = 2 then l[i].text else []) → Sx.l13_text.n13 b n c x3 (i : Int) (fun z0b z0n z0c z3 z4 h => Sx.l13_text.n10 z0b z0n z0c z3 z4 (fun z0b z0n z0c z3 z4 h => Sx.l13_text.n7_L (fun z3 h => Sx.l13_text.n4 z3 (fun y2 h => K (S y2) h) (fun y2 h => K (S y2) h) h) (fun z3 h => Sx.l13_text.n4 z3 (fun y2 h => K (S y2) h) (fun y2 h => K (S y2) h) h) (fun y2 h => K (S y2) h) (N + 1) z0b z0n z0c z3 z4 h) (fun z3 h => Sx.l13_text.n4 z3 (fun y2 h => K (S y2) h) (fun y2 h => K (S y2) h) h) (fun y2 h => K (S y2) h) h)
            (fun z0b z0n z0c z3 z4 h => Sx.l13_text.n10 z0b z0n z0c z3 z4 (fun z0b z0n z0c z3 z4 h => Sx.l13_text.n7_L (fun z3 h => Sx.l13_text.n4 z3 (fun y2 h => K (S y2) h) (fun y2 h => K (S y2) h) h) (fun z3 h => Sx.l13_text.n4 z3 (fun y2 h => K (S y2) h) (fun y2 h => K (S y2) h) h) (fun y2 h => K (S y2) h) (N + 1) z0b z0n z0c z3 z4 h) (fun z3 h => Sx.l13_text.n4 z3 (fun y2 h => K (S y2) h) (fun y2 h => K (S y2) h) h) (fun y2 h => K (S y2) h) h)
            (fun z3 h => Sx.l13_text.n4 z3 (fun y2 h => K (S y2) h) (fun y2 h => K (S y2) h) h) (fun y2 h => K (S y2) h) h := by
          intro x3 hx3
          refine R.idxN hil rfl fun q hA => ?_
          obtain ⟨kb, kn, kc, c0, c4, c5, rk, rt⟩ := nodeParts hA
          refine ⟨_, _, _, c5, text_calls d rk (by omega) (vStrMk ⟨?_, rngW (by omega) (by omega), ?_⟩)⟩
          · rw [hx3, List.length_append]; omega
          · have := ih (i + 1) (by omega)
            rw [hst, ← List.append_assoc, ← hx3] at this
            exact this
        refine splT (by omega) (R.idxN hil rfl fun q hA => ?_)
        obtain ⟨kb, kn, kc, c0, c4, c5, rk, rt⟩ := nodeParts hA
        refine ⟨_, c0, spl (fun e2 => ?_) fun e2 => ?_⟩
        · refine R.idxN hil rfl fun q hA => ?_
          obtain ⟨kb, kn, kc, c0, c4, c5, rk, rt⟩ := nodeParts hA
          rw [if_pos e2] at hle2
          refine ⟨_, c4, by omega, kids _ (by rw [if_pos e2])⟩
        · exact kids _ (by rw [if_neg e2, List.append_nil])
    exact key n 0 (by omega)
theorem GoodT.kids_nn {ns : List NodeM} (G : GoodT ns) (i : Nat) (x : NodeM) (hx : ns[i]? = some x) (k : Int) (hk : k ∈ x.kids) : 0 ≤ k := by
  obtain ⟨j, y, e, _⟩ := (G.kid i x k hx).1 hk
  omega
theorem lawText_calls {l : List OpQ} (ml : ML h) (r : Row elOpQ A h b n c l) (hk : ∀ h', KB h h' → K (.bool true) h') :
    HCalls Try.prog 3 ⟨[.slice b n c]⟩ h K := by
  refine Sx.l13_PlaceText.ok _ _ _ _ _ (heavy_calls r fun h1 v k1 hv => vBool_mk (condB (fun ev => ?_) fun ev => ?_))
  · exact known_calls (ml.kb k1) fun h2 k2 => vBool_mk (condT (hk h2 (k1.trans k2)))
  have hL := hv ev
  refine known_calls (ml.kb k1) fun h2 k2 => vBool_mk (condT ?_)
  have k12 := k1.trans k2
  have r2 : Row elOpQ (Free (fun _ => none) h2) h2 b n c l := (r.kb k12).bel.keep (Keep.refl (fun _ => True) _ |>.less fun _ _ => trivial) fun k hk _ => free0 hk
  have L2 : Lib0 h2 (fun _ => none) := ⟨ml.kb k12, rfl⟩
  refine placeNew_calls (col := fun _ => none) (fun _ _ => rfl) fun w h3 c3 p3 E3 => vPtrMk ?_
  have hl := r.len
  have hln := hL.1
  refine ⟨n + 1, ?_⟩
  have key : ∀ N i (m : WM) (want : Bs) h4 c4, i + N = n → PW h4 c4 w m → HI m (2 * i + i) → TI m want → want.length ≤ i * 4000 → ExtP PS h2 (fun _ => none) h4 c4 →
      Sx.l13_PlaceText.n9_L (fun z3 z4 h => Sx.l13_PlaceText.n6 z3 z4 (fun y2 h => K (.bool y2) h) (fun y2 h => K (.bool y2) h) h) (fun z3 z4 h => Sx.l13_PlaceText.n6 z3 z4 (fun y2 h => K (.bool y2) h) (fun y2 h => K (.bool y2) h) h) (fun y2 h => K (.bool y2) h) (N + 1) b n c (some w) want (i : Int) h4 := by
    intro N
    induction N with
    | zero =>
      intro i m want h4 c4 hi p4 H4 T4 hw E4
      refine splF (by omega) ?_
      obtain ⟨t4, ads4, Tr, W4⟩ := p4.ex
      obtain ⟨ob4, oc4, mb4, mn4, mc4, v4, o4, om4⟩ := W4.ex
      obtain ⟨D1, hD1⟩ := H4.G.deep
      obtain ⟨D2, hD2⟩ := T4.tx
      refine vSomeMk ⟨_, v4.cell 0 rfl, whole_calls H4.G (D1 + D2) 0 Tr (hD1 _ (by omega) 0) fun h5 b5 n5 c5 k5 o5 => vSliceMk ?_⟩
      have e : textV (D1 + D2) (wholeL (D1 + D2) m.ns 0) = want := by
        rw [textV_whole _ _ _ (fun k hk => ?_) H4.G.kids_nn]
        · exact hD2 _ (by omega)
        · obtain ⟨j, y, e, _⟩ := kid_par (q := 0) H4.G hk
          omega
      refine text_calls (D1 + D2) o5.row (by rw [e]; omega) (vStrMk ?_)
      rw [e]
      exact splT rfl (hk h5 ((k12.trans E4.kb0).trans k5))
    | succ N ih =>
      intro i m want h4 c4 hi p4 H4 T4 hw E4
      have hil : i < l.length := by omega
      have hsm := hL.2 l[i] (List.getElem_mem hil)
      obtain ⟨b1, b2, b3, b4⟩ := tokW_small hsm
      have rest : ∀ h5 c5 (m5 : WM), PW h5 c5 w m5 → HI m5 (3 * i + 1) → TI m5 want → ExtP PS h2 (fun _ => none) h5 c5 → ∀ (Kn Ke1 : Sx.l13_PlaceText.T5) (Ke0 : Sx.l13_PlaceText.T4) (Kr : Sx.l13_PlaceText.T0),
          (∀ h6 c6 (m6 : WM), PW h6 c6 w m6 → HI m6 (3 * i + 3) → TI m6 (want ++ l[i].2.2.1.2.2.2.2) → ExtP PS h2 (fun _ => none) h6 c6 → Kn b n c (some w) (want ++ l[i].2.2.1.2.2.2.2) (i : Int) h6) → Sx.l13_PlaceText.n15 b n c (some w) want (i : Int) Kn Ke1 Ke0 Kr h5 := by
        intro h5 c5 m5 p5 H5 T5 E5 Kn Ke1 Ke0 Kr after
        have hlo := H5.lo
        have hns := H5.ln
        have r5 := E5.row r2
        refine r5.idxN hil rfl fun q hA => ?_
        obtain ⟨ab, an, ac, C⟩ := opTok hA
        refine ⟨_, C.c4, write_callsW p5 H5.G H5.ne (by omega) (by omega) (fun j x hx => ?_) C.rt fun h6 c6 p6 E6 => ?_⟩
        · have := H5.tx j x hx
          omega
        · have H6 := H5.write (tx := l[i].2.2.1.2.2.2.2) (by omega)
          have T6 := TI.write H5 T5 l[i].2.2.1.2.2.2.2
          have E26 := E5.trans E6
          have r6 := E26.row r2
          refine r6.idxN hil rfl fun q2 hA2 => ?_
          obtain ⟨ab2, an2, ac2, C2⟩ := opTok hA2
          refine ⟨_, C2.c4, by omega, r6.idxN hil rfl fun q3 hA3 => ⟨_, opYes hA3, condB (fun eb => ?_) fun eb => ?_⟩⟩
          · obtain ⟨t6, ads6, Tr6, W6⟩ := p6.ex
            obtain ⟨ob6, oc6, mb6, mn6, mc6, v6, o6, om6⟩ := W6.ex
            have hlo6 := H6.lo
            refine vSomeMk ⟨_, _, _, v6.cell 1 rfl, rngW (by omega) (by omega), close_callsW p6 fun h7 c7 p7 E7 => ?_⟩
            exact after h7 c7 _ p7 (H6.close _) (T6.close _) (E26.trans E7)
          · have H7 : HI (writeW m5 l[i].2.2.1.2.2.2.2) (3 * i + 3) := ⟨H6.G, H6.head, H6.ids, H6.hi, by have := H6.lo; omega, by have := H6.ln; omega, H6.tx.mono (by omega)⟩
            exact after h6 c6 _ p6 H7 T6 E26
      have r4 := E4.row r2
      have L4 := L2.ext E4
      have hlo := H4.lo
      have hns := H4.ln
      have fin : ∀ h6 c6 (m6 : WM), PW h6 c6 w m6 → HI m6 (3 * i + 3) → TI m6 (want ++ l[i].2.2.1.2.2.2.2) → ExtP PS h2 (fun _ => none) h6 c6 →
          Rng .i64 ((i : Int) + 1) ∧ Sx.l13_PlaceText.n9_L (fun z3 z4 h => Sx.l13_PlaceText.n6 z3 z4 (fun y2 h => K (.bool y2) h) (fun y2 h => K (.bool y2) h) h) (fun z3 z4 h => Sx.l13_PlaceText.n6 z3 z4 (fun y2 h => K (.bool y2) h) (fun y2 h => K (.bool y2) h) h) (fun y2 h => K (.bool y2) h) (N + 1) b n c (some w) (want ++ l[i].2.2.1.2.2.2.2) ((i : Int) + 1) h6 := fun h6 c6 m6 p6 H6 T6 E6 =>
        ⟨rngW (by omega) (by omega), ih (i + 1) m6 _ h6 c6 (by omega) p6 (by rw [show 2 * (i + 1) + (i + 1) = 3 * i + 3 by omega]; exact H6) T6 (by rw [List.length_append]; omega) E6⟩
      refine splT (by omega) (r4.idxN hil rfl fun q hA => ⟨_, (opKind hA).1, by decide, spl (fun e0 => ?_) fun e0 => ?_⟩)
      · refine insert_calls L4 p4 H4.G H4.ne (by omega) (by omega) row_nilF (fun _ => rfl) (by decide) attrsW_nil ⟨by decide, by decide⟩ ⟨by decide, by decide⟩ (by decide) fun h5 c5 p5 E5 => vIntMk ?_
        refine rest h5 c5 _ p5 ?_ (TI.insert H4 T4 0 [120] []) (E4.trans E5) _ _ _ _ fin
        rw [show 3 * i + 1 = 2 * i + i + 1 by omega]
        exact H4.insert _ _ _
      · exact rest h4 c4 m p4 ⟨H4.G, H4.head, H4.ids, H4.hi, by omega, by omega, H4.tx.mono (by omega)⟩ T4 E4 _ _ _ _ fin
  exact key n 0 wm0 [] h3 c3 (by omega) p3 HI.zero TI.zero (by simp) E3
end
end Go.Proofs
