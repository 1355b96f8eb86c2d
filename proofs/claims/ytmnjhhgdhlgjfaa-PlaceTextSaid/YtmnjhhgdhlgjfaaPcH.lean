/- place: PlaceHolds. No condition but that the library's variable holds a number. -/
import Derived.Test.YtmnjhhgdhlgjfaaPcG
namespace Go.Proofs
open Go Go.Sh
set_option linter.unusedVariables false
set_option maxRecDepth 100000
/-! ### what holds of a World -/
structure HI (m : WM) (i : Nat) : Prop where
  G : GoodT m.ns
  head : m.op[0]? = some (0, 0, wHtml, 0)
  ids : ∀ x ∈ m.op, 0 ≤ x.1
  hi : (m.op.length : Int) ≤ m.hi
  lo : m.op.length ≤ i + 1
  ln : m.ns.length ≤ i + 1
  tx : TextB m.ns (i * 4000)
theorem HI.ne {m : WM} {i : Nat} (H : HI m i) : 0 < m.op.length := (List.getElem?_eq_some_iff.1 H.head).1
theorem HI.zero : HI wm0 0 := ⟨good_root, rfl, fun x hx => by have : x = (0, 0, wHtml, 0) := by simpa [wm0] using hx
                                                              subst this; decide, by decide, by decide, by decide, TextB.root1⟩
theorem insert_len {m : WM} (G : GoodT m.ns) (sp : Int) (nm : Bs) (at' : List AttrP) : (insertM m sp nm at').ns.length = m.ns.length + 1 := by
  show (putM _ _ _ _).1.length = _
  rw [put_len (G.addM _ _ _ _ _)]
  show (m.ns ++ [_]).length = _
  simp
theorem HI.insert {m : WM} {i : Nat} (H : HI m i) (sp : Int) (nm : Bs) (at' : List AttrP) : HI (insertM m sp nm at') (i + 1) := by
  have hne := H.ne
  refine ⟨goodInsert H.G sp nm at', ?_, fun x hx => ?_, ?_, ?_, ?_, ?_⟩
  · show (m.op ++ [_])[0]? = _
    rw [List.getElem?_append_left hne]; exact H.head
  · have hx : x ∈ m.op ++ [_] := hx
    rcases List.mem_append.1 hx with h | h
    · exact H.ids x h
    · rw [List.mem_singleton.1 h]; exact Int.natCast_nonneg _
  · show ((m.op ++ [_]).length : Int) ≤ if _ then _ else _
    rw [List.length_append]
    split
    · exact Int.le_refl _
    · rename_i h; exact Int.not_lt.1 h
  · show (m.op ++ [_]).length ≤ _
    rw [List.length_append]; have := H.lo; show _ + 1 ≤ _; omega
  · rw [insert_len H.G]; have := H.ln; omega
  · have h1 : TextB (addM m.ns (bareM 1 sp nm at' [])).1 (i * 4000) := H.tx.addM (by simp)
    exact (h1.like (put_like (H.G.addM _ _ _ _ _) _ _ _)).mono (by omega)
theorem insert_hi {m : WM} (sp : Int) (nm : Bs) (at' : List AttrP) : m.hi ≤ (insertM m sp nm at').hi := by
  show _ ≤ if _ then _ else _
  split
  · rename_i h; exact Int.le_of_lt h
  · exact Int.le_refl _
theorem HI.write {m : WM} {i : Nat} (H : HI m i) {tx : Bs} (ht : tx.length ≤ 4000) : HI (writeW m tx) (i + 1) := by
  refine ⟨goodWrite H.G tx, H.head, H.ids, H.hi, by have := H.lo; show m.op.length ≤ _; omega, ?_, ?_⟩
  · have := write_len H.G (whereC m).1 (whereC m).2 tx
    have h2 := H.ln
    show (writeM _ _ _ _).1.length ≤ _
    omega
  · have := H.tx.writeM H.G (whereC m).1 (whereC m).2 (c := 4000) ht
    exact this.mono (by omega)
theorem close_mem {op : List OpenP} {n : Int} {x : OpenP} (h : x ∈ closeO op n) : x ∈ op := by
  unfold closeO at h
  split at h
  · exact List.mem_of_mem_take h
  · exact h
theorem close_len (op : List OpenP) (n : Int) : (closeO op n).length ≤ op.length := by
  unfold closeO
  split
  · rw [List.length_take]; omega
  · exact Nat.le_refl _
theorem close_head {op : List OpenP} (n : Int) : (closeO op n)[0]? = op[0]? := by
  unfold closeO
  split
  · rw [List.getElem?_take]; rw [if_pos (by omega)]
  · rfl
theorem HI.close {m : WM} {i : Nat} (H : HI m i) (n : Int) : HI (closeW m n) (i + 1) := by
  have hl := close_len m.op n
  have h1 := H.lo
  have h2 := H.hi
  have h3 := H.ln
  exact ⟨H.G, (close_head n).trans H.head, fun x hx => H.ids x (close_mem hx), by show ((closeO m.op n).length : Int) ≤ m.hi; omega, by show (closeO m.op n).length ≤ _; omega, by show m.ns.length ≤ _; omega, H.tx.mono (by omega)⟩
theorem HI.foster {m : WM} {i : Nat} (H : HI m i) (b : Bool) : HI { m with fo := b } i := ⟨H.G, H.head, H.ids, H.hi, H.lo, H.ln, H.tx⟩
/-- where things go is a place of the tree -/
theorem where_ok {m : WM} {i : Nat} (H : HI m i) : 0 ≤ (whereC m).1 ∧ (0 ≤ (whereC m).2 → parentM m.ns (whereC m).2 = (whereC m).1) := by
  have hget : ∀ k, 0 ≤ (m.op.getD k noOpen).1 := fun k => by
    by_cases hk : k < m.op.length
    · rw [getD_get hk]; exact H.ids _ (List.getElem_mem hk)
    · rw [List.getD_eq_getElem?_getD, List.getElem?_eq_none (by omega)]; exact Int.le_refl _
  unfold whereC whereM
  split
  · split
    · exact ⟨by decide, fun h => absurd h (by decide)⟩
    · split
      · rename_i h; exact ⟨h, fun _ => rfl⟩
      · exact ⟨hget _, fun h => absurd h (by show ¬ (0 : Int) ≤ -1; decide)⟩
  · exact ⟨hget _, fun h => absurd h (by show ¬ (0 : Int) ≤ -1; decide)⟩
section
variable {A : Nat → Prop} {h : H} {K : Value → H → Prop} {col : Col} {w : Addr} {m : WM} {i : Nat}
theorem free0 {h : H} {k : Nat} (hk : k < h.size) : Free (fun _ => none) h k := ⟨rfl, hk⟩
theorem holdsAfter {b : Option Addr} {n c : Nat} {i : Int} {x5 : Int} {j : Nat} (p5 : PW h col w m) (H5 : HI m j) (hj : j ≤ 1000) (hhi : x5 ≤ m.hi) (Kn Ke1 : Sx.l13_PlaceHolds.T4) (Ke0 : Sx.l13_PlaceHolds.T3) (Kr : Sx.l13_PlaceHolds.T0)
    (hk : ∀ h', KB h h' → Kn b n c (some w) i h') : Sx.l13_PlaceHolds.n15 b n c (some w) i x5 Kn Ke1 Ke0 Kr h := by
  obtain ⟨t5, ads5, T5, W5⟩ := p5.ex
  obtain ⟨ob5, oc5, mb5, mn5, mc5, v5, o5, om5⟩ := W5.ex
  have hne5 := H5.ne
  have hlo5 := H5.lo
  have hhi5 := H5.hi
  have h0 : m.op[0]'hne5 = (0, 0, wHtml, 0) := (List.getElem?_eq_some_iff.1 H5.head).2
  refine vSomeMk ⟨_, _, _, v5.cell 1 rfl, splF (by omega) (vSomeMk ⟨_, _, _, v5.cell 1 rfl, o5.row.idxN (i := 0) hne5 rfl fun q hA => ldOpen hA fun ow => ?_⟩)⟩
  rw [h0]
  refine semR_neq (by kernel_rfl) (by rfl) (vBool_mk (condF ?_))
  refine vSomeMk ⟨_, v5.cell 4 rfl, splF (by omega) (vSomeMk ⟨_, v5.cell 4 rfl, vSomeMk ⟨_, _, _, v5.cell 1 rfl, splF (by omega) ?_⟩⟩)⟩
  refine current_calls W5 hne5 (by omega) fun h6 k6 => agOpen (x := curM m.op) ?_
  refine where_calls (x := curM m.op) (T5.kb k6) (W5.kb k6) (by omega) fun h7 k7 => tupIIMk ?_
  have hw := where_ok H5
  refine splF (by have := hw.1; show ¬ (whereC m).1 < 0; omega) (spl (fun hb => ?_) fun hb => hk h7 (k6.trans k7))
  exact vSomeMk ⟨_, (v5.kb (k6.trans k7)).cell 0 rfl, parentM_calls (T5.kb (k6.trans k7)) (vIntMk (splT (hw.2 hb) (hk h7 (k6.trans k7))))⟩
theorem rng3 {x : Int} (h : Rng .u8 x) : Rng .u8 (Int.tmod x 3) := by
  have h1 := h.1
  have h2 := h.2
  have h3 : (0 : Int) ≤ x := h1
  rw [Int.tmod_eq_emod_of_nonneg h3]
  exact ⟨by show (0 : Int) ≤ _; omega, by show _ ≤ (255 : Int); omega⟩
theorem cur_insert (m : WM) (sp : Int) (nm : Bs) (at' : List AttrP) : curM (insertM m sp nm at').op = ((m.ns.length : Int), sp, nm, pointM sp nm at') := by
  unfold curM
  show (m.op ++ [_]).getD ((m.op ++ [_]).length - 1) noOpen = _
  rw [List.length_append, List.getD_eq_getElem?_getD]
  show ((m.op ++ [_])[m.op.length + 1 - 1]?).getD noOpen = _
  rw [Nat.add_sub_cancel, List.getElem?_concat_length]; rfl
theorem holdsIns {b : Option Addr} {n c : Nat} {l : List OpQ} (L4 : Lib0 h col) (p4 : PW h col w m) (H4 : HI m i) (hi : i ≤ 100) (r4 : Row elOpQ (Free col h) h b n c l) (hil : i < l.length) (hsm : tokW l[i].2.2.1 ≤ 400) {x5 : Int}
    (Kn Ke2 : Sx.l13_PlaceHolds.T5) (Ke1 : Sx.l13_PlaceHolds.T4) (Ke0 : Sx.l13_PlaceHolds.T3) (Kr : Sx.l13_PlaceHolds.T0)
    (after : ∀ h5 c5 (m5 : WM), PW h5 c5 w m5 → HI m5 (i + 1) → m.hi ≤ m5.hi → ExtP PS h col h5 c5 → Kn b n c (some w) (i : Int) x5 h5) :
    Sx.l13_PlaceHolds.n20 b n c (some w) (i : Int) x5 Kn Ke2 Ke1 Ke0 Kr h := by
  obtain ⟨b1, b2, b3, b4⟩ := tokW_small hsm
  have hlo := H4.lo
  have hns := H4.ln
  have hne := H4.ne
  refine r4.idxN hil rfl fun q1 hA1 => ⟨_, (opSpace hA1).1, by decide, r4.idxN hil rfl fun q2 hA2 => ?_⟩
  obtain ⟨ab, an, ac, C⟩ := opTok hA2
  have hs3 := rng3 (opSpace hA1).2
  have hcl := C.row.len
  refine ⟨_, C.c0, _, C.c1, _, _, _, C.c2, _, C.c3, _, C.c4, ?_⟩
  refine insert_calls L4 p4 H4.G hne (by omega) (by omega) C.row C.nil (by omega) (fun a ha => by have := (b4 a ha).2; omega) hs3 C.rk (by omega) fun h5 c5 p5 E5 => vIntMk ?_
  have H5 := H4.insert (Int.tmod l[i].2.1 3) l[i].2.2.1.2.1 l[i].2.2.1.2.2.1
  obtain ⟨t5, ads5, T5, W5⟩ := p5.ex
  have hlo5 := H5.lo
  have hcur := cur_insert m (Int.tmod l[i].2.1 3) l[i].2.2.1.2.1 l[i].2.2.1.2.2.1
  refine current_calls W5 H5.ne (by omega) fun h6 k6 => agOpen (x := curM (insertM m (Int.tmod l[i].2.1 3) l[i].2.2.1.2.1 l[i].2.2.1.2.2.1).op) ?_
  rw [hcur]
  refine splT rfl ?_
  have r6 := (E5.trans (.kb k6)).row r4
  refine r6.idxN hil rfl fun q3 hA3 => ?_
  obtain ⟨ab3, an3, ac3, C3⟩ := opTok hA3
  refine ⟨_, C3.c1, ?_⟩
  refine current_calls (W5.kb k6) H5.ne (by omega) fun h7 k7 => agOpen (x := curM (insertM m (Int.tmod l[i].2.1 3) l[i].2.2.1.2.1 l[i].2.2.1.2.2.1).op) ⟨k7.ext, ?_⟩
  rw [hcur]
  have k67 := k6.trans k7
  exact splT rfl (after h7 c5 _ (p5.kb k67) H5 (insert_hi _ _ _) (E5.trans (.kb k67)))
theorem holdsRest {b : Option Addr} {n c : Nat} {l : List OpQ} {x : Int} (p4 : PW h col w m) (H4 : HI m i) (hi : i ≤ 100) (r4 : Row elOpQ (Free col h) h b n c l) (hil : i < l.length) (hsm : tokW l[i].2.2.1 ≤ 400) {x5 : Int}
    (Kn Ke2 : Sx.l13_PlaceHolds.T5) (Ke1 : Sx.l13_PlaceHolds.T4) (Ke0 : Sx.l13_PlaceHolds.T3) (Kr : Sx.l13_PlaceHolds.T0)
    (after : ∀ h5 c5 (m5 : WM), PW h5 c5 w m5 → HI m5 (i + 1) → m.hi ≤ m5.hi → ExtP PS h col h5 c5 → Kn b n c (some w) (i : Int) x5 h5) :
    Sx.l13_PlaceHolds.n21 b n c (some w) (i : Int) x5 x Kn Ke2 Ke1 Ke0 Kr h := by
  obtain ⟨b1, b2, b3, b4⟩ := tokW_small hsm
  have hlo := H4.lo
  have hns := H4.ln
  have hne := H4.ne
  refine spl (fun e2 => ?_) fun e2 => ?_
  · refine r4.idxN hil rfl fun q2 hA2 => ?_
    obtain ⟨ab, an, ac, C⟩ := opTok hA2
    refine ⟨_, C.c4, write_callsW p4 H4.G hne (by omega) (by omega) (fun j x hx => ?_) C.rt fun h5 c5 p5 E5 => ?_⟩
    · have := H4.tx j x hx
      omega
    · exact after h5 c5 _ p5 (H4.write (by omega)) (Int.le_refl _) E5
  · refine r4.idxN hil rfl fun q2 hA2 => ⟨_, (opN hA2).1, close_callsW p4 fun h5 c5 p5 E5 => ?_⟩
    have r5 := E5.row r4
    refine r5.idxN hil rfl fun q3 hA3 => ⟨_, opYes hA3, ?_⟩
    refine condB (fun eb => vSomeMk (foster_k p5 true fun h6 p6 E6 => ?_)) fun eb => vSomeMk (foster_k p5 false fun h6 p6 E6 => ?_)
    · exact after h6 c5 _ p6 ((H4.close _).foster true) (Int.le_refl _) (E5.trans E6)
    · exact after h6 c5 _ p6 ((H4.close _).foster false) (Int.le_refl _) (E5.trans E6)
theorem lawHolds_calls {b : Option Addr} {n c : Nat} {l : List OpQ} (ml : ML h) (r : Row elOpQ A h b n c l) (hk : ∀ h', KB h h' → K (.bool true) h') :
    HCalls Try.prog 4 ⟨[.slice b n c]⟩ h K := by
  refine Sx.l13_PlaceHolds.ok _ _ _ _ _ (heavy_calls r fun h1 v k1 hv => vBool_mk (condB (fun ev => ?_) fun ev => ?_))
  · exact known_calls (ml.kb k1) fun h2 k2 => vBool_mk (condT (hk h2 (k1.trans k2)))
  have hL := hv ev
  refine known_calls (ml.kb k1) fun h2 k2 => vBool_mk (condT ?_)
  have k12 := k1.trans k2
  have r2 : Row elOpQ (Free (fun _ => none) h2) h2 b n c l := (r.kb k12).bel.keep (Keep.refl (fun _ => True) _ |>.less fun _ _ => trivial) fun k hk _ => free0 hk
  have L2 : Lib0 h2 (fun _ => none) := ⟨ml.kb k12, rfl⟩
  refine placeNew_calls (col := fun _ => none) (fun _ _ => rfl) fun w h3 c3 p3 E3 => vPtrMk ?_
  have hl := r.len
  have hln := hL.1
  refine ⟨n + 1, ?_⟩
  have key : ∀ N i (m : WM) h4 c4, i + N = n → PW h4 c4 w m → HI m i → ExtP PS h2 (fun _ => none) h4 c4 →
      Sx.l13_PlaceHolds.n8_L (fun h => Sx.l13_PlaceHolds.n5 (fun y2 h => K (.bool y2) h) (fun y2 h => K (.bool y2) h) h) (fun h => Sx.l13_PlaceHolds.n5 (fun y2 h => K (.bool y2) h) (fun y2 h => K (.bool y2) h) h) (fun y2 h => K (.bool y2) h) (N + 1) b n c (some w) (i : Int) h4 := by
    intro N
    induction N with
    | zero =>
      intro i m h4 c4 hi p4 H4 E4
      exact splF (by omega) (hk h4 (k12.trans E4.kb0))
    | succ N ih =>
      intro i m h4 c4 hi p4 H4 E4
      have hil : i < l.length := by omega
      have r4 := E4.row r2
      have L4 := L2.ext E4
      refine splT (by omega) ?_
      obtain ⟨t4, ads4, T4, W4⟩ := p4.ex
      obtain ⟨ob4, oc4, mb4, mn4, mc4, v4, o4, om4⟩ := W4.ex
      refine vSomeMk ⟨_, v4.cell 4 rfl, r4.idxN hil rfl fun q hA => ⟨_, (opKind hA).1, by decide, ?_⟩⟩
      have hsm := hL.2 l[i] (List.getElem_mem hil)
      refine spl (fun e0 => condT (holdsIns L4 p4 H4 (by omega) r4 hil hsm _ _ _ _ _ ?_)) fun e0 => spl (fun e1 => condT (holdsIns L4 p4 H4 (by omega) r4 hil hsm _ _ _ _ _ ?_)) fun e1 => condF (holdsRest p4 H4 (by omega) r4 hil hsm _ _ _ _ _ ?_)
      all_goals
        intro h5 c5 m5 p5 H5 hhi E5
        exact holdsAfter p5 H5 (by omega) hhi _ _ _ _ fun h6 k6 => ⟨rngW (by omega) (by omega), ih (i + 1) m5 h6 c5 (by omega) (p5.kb k6) H5 ((E4.trans E5).trans (.kb k6))⟩
  exact key n 0 wm0 h3 c3 (by omega) p3 HI.zero E3
end
end Go.Proofs
