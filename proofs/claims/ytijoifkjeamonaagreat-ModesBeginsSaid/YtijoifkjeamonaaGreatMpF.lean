import Derived.Test.YtijoifkjeamonaaGreatMpC
import Derived.Test.YtijoifkjeamonaaGreatDoE
import Derived.Test.YtijoifkjeamonaaGreatTxD
import Derived.Test.YtijoifkjeamonaaGreatTxH
import Derived.Test.YtijoifkjeamonaaGreatPdD
namespace Go.Proofs
open Go Go.Sh
set_option linter.unusedVariables false
set_option maxRecDepth 100000
section
variable {m : WM} {u v x j b q : Nat} {f blk last : Int} {ns : List NodeM}
theorem no_self (G : GoodT ns) (i : Nat) : ¬ InC ns (parI ns i) (i : Int) := fun h => by
  have hn := (inC_nn h).1
  have e := inC_anti G h (inC_up (inC_self hn))
  cases hz : ns[i]? with
  | none => rw [parI_none hz] at hn; exact absurd hn (by decide)
  | some z => rw [parI_some hz] at e; exact G.ne_par hz e rfl
theorem ch_of {op : List OpenP} (h : ∀ i k, i < k -> k < op.length -> InC ns (op.getD k noOpen).1 (op.getD i noOpen).1) : Ch ns op :=
  List.pairwise_iff_getElem.2 fun i k hi hk hik => by
    have := h i k hik hk
    rwa [getD_get hk, getD_get hi] at this
theorem move_parI (G : GoodT ns) {bz : NodeM} {k d : Nat} (hb : ns[k]? = some bz) (hh : holdB ns (d : Int) = true) (hw : ¬ InC ns (d : Int) (k : Int)) (i : Nat) : parI (moveM ns (k : Int) (d : Int)).1 i = if parI ns i = (k : Int) then (d : Int) else parI ns i := by
  have mem : ∀ i : Nat, (i : Int) ∈ bz.kids ↔ parI ns i = (k : Int) := fun i => by
    rw [G.kid k bz _ hb]
    constructor
    · rintro ⟨i', y, e, hy, hp⟩
      have : i' = i := by omega
      subst this
      rw [parI_some hy]; exact hp
    · intro h
      cases hz : ns[i]? with
      | none => rw [parI_none hz] at h; omega
      | some z => exact ⟨i, z, rfl, hz, by rw [parI_some hz] at h; exact h⟩
  have hkl := getI hb
  unfold moveM
  rw [Int.toNat_natCast, Int.toNat_natCast, hb]
  show parI (if _ /\ _ /\ bz.kids ≠ [] /\ _ then (moveAt ns k d bz.kids _, true) else (ns, false)).1 i = _
  by_cases hk : bz.kids = []
  · rw [if_neg (fun h => h.2.2.1 hk), if_neg (fun h => by have := (mem i).2 h; rw [hk] at this; cases this)]
  · rw [if_pos ⟨by omega, hh, hk, by unfold withinP; exact @decide_eq_false _ (Classical.propDecidable _) hw⟩]
    cases hz : ns[i]? with
    | none =>
      rw [parI_none hz, if_neg (by omega)]
      exact parI_none (List.getElem?_eq_none_iff.2 (by rw [moveAt_len]; exact List.getElem?_eq_none_iff.1 hz))
    | some z =>
      rw [parI_some (moveAt_get hz), parI_some hz]
      have hm := mem i
      rw [parI_some hz] at hm
      by_cases h : (i : Int) ∈ bz.kids
      · rw [if_pos h, if_pos (hm.1 h)]
      · rw [if_neg h, if_neg fun e => h (hm.2 e)]
theorem renew_up (C : CI m u v x f j b q) (B : BI m blk (j + 1)) (hfo : m.fo = false) (hch : Ch m.ns (m.op.eraseIdx j)) : Gr m.ns (renewM m f blk b).ns /\ Wt m.ns (renewM m f blk b).ns /\ CH (renewM m f blk b) := by
  have A := C.A
  have hjl : j < m.op.length := Nat.lt_of_lt_of_le C.hj C.hq
  have hfj : m.op[j].1 = f := by have := C.hf; rwa [getD_get hjl] at this
  have hdrop : dropO m.op f = m.op.eraseIdx j := by rw [<- hfj]; exact A.drop_of hjl C.h0
  obtain ⟨z, hz, hk⟩ := A.kind _ (List.getElem_mem hjl) (A.ne0 hjl C.h0)
  have ec := copy_of (A.D.ids _ (List.getElem_mem hjl)).1 hz hk
  have G1 := A.D.G.copyM m.op[j].1
  rw [ec] at G1
  rw [hfj] at ec
  have hpos := A.pos
  have hpar : ∀ i : Nat, parI (m.ns ++ [⟨1, z.space, z.name, z.attrs, [], -1, []⟩]) i = parI m.ns i := add_parI rfl
  have hlen : (m.ns ++ [(⟨1, z.space, z.name, z.attrs, [], -1, []⟩ : NodeM)]).length = m.ns.length + 1 := by simp
  obtain ⟨ib, hib1, hib2, hib3⟩ := B
  have hbid := A.idD hib2
  rw [hib3] at hbid
  obtain ⟨kb, hkb⟩ := Int.eq_ofNat_of_zero_le hbid.1
  have hkb : blk = (kb : Int) := hkb
  have hkl : kb < m.ns.length := by omega
  have hhold : holdB m.ns blk = true := by
    have := A.hold (List.getElem_mem hib2)
    rw [getD_get hib2] at hib3
    rwa [hib3] at this
  have hidh : holdB (m.ns ++ [⟨1, z.space, z.name, z.attrs, [], -1, []⟩]) (m.ns.length : Int) = true := hold_of ⟨by omega, by rw [hlen]; omega⟩ (.inr ⟨_, by rw [Int.toNat_natCast, List.getElem?_append_right (Nat.le_refl _), Nat.sub_self]; rfl, rfl⟩)
  have hid1 : parI (m.ns ++ [⟨1, z.space, z.name, z.attrs, [], -1, []⟩]) m.ns.length = -1 := by rw [hpar]; exact parI_none (List.getElem?_eq_none_iff.2 (Nat.le_refl _))
  have hbz : (m.ns ++ [⟨1, z.space, z.name, z.attrs, [], -1, []⟩])[kb]? = some m.ns[kb] := by rw [List.getElem?_append_left hkl]; exact List.getElem?_eq_getElem hkl
  have hno : ¬ InC (m.ns ++ [⟨1, z.space, z.name, z.attrs, [], -1, []⟩]) (m.ns.length : Int) (kb : Int) := fun h => by
    rcases inC_step.1 h with e | h
    · omega
    · rw [hid1] at h
      exact inC_neg (by decide) h
  have hM := move_parI G1 hbz hidh hno
  have GM := G1.moveM (kb : Int) (m.ns.length : Int)
  have hML : (moveM (m.ns ++ [⟨1, z.space, z.name, z.attrs, [], -1, []⟩]) (kb : Int) (m.ns.length : Int)).1.length = m.ns.length + 1 := by rw [move_len]; exact hlen
  have noid : ∀ i : Nat, parI (m.ns ++ [⟨1, z.space, z.name, z.attrs, [], -1, []⟩]) i ≠ (m.ns.length : Int) := fun i e => by
    have h : InC (m.ns ++ [⟨1, z.space, z.name, z.attrs, [], -1, []⟩]) (i : Int) (m.ns.length : Int) := inC_up (by rw [e]; exact inC_self (by omega))
    have h2 := inC_congr (fun i => (hpar i).symm) h
    have e3 := (inC_range A.D.G h2).resolve_right (by omega)
    have e4 : i = m.ns.length := by omega
    rw [e4, hid1] at e
    omega
  have hbid2 : ¬ InC (moveM (m.ns ++ [⟨1, z.space, z.name, z.attrs, [], -1, []⟩]) (kb : Int) (m.ns.length : Int)).1 (kb : Int) (m.ns.length : Int) := fun h => by
    have key := inC_ind (P := fun a => a = (m.ns.length : Int) ∨ ∃ i : Nat, a = (i : Int) /\ InC (m.ns ++ [⟨1, z.space, z.name, z.attrs, [], -1, []⟩]) (parI (m.ns ++ [⟨1, z.space, z.name, z.attrs, [], -1, []⟩]) i) (kb : Int)) h (.inl rfl) fun i h1 h2 => .inr ⟨i, rfl, ?_⟩
    · rcases key with e | ⟨i, e, h⟩
      · omega
      · have : i = kb := by omega
        subst this
        exact no_self G1 _ h
    · by_cases e : parI (m.ns ++ [⟨1, z.space, z.name, z.attrs, [], -1, []⟩]) i = (kb : Int)
      · rw [e]; exact inC_self (by omega)
      · rw [hM i, if_neg e] at h2
        rcases h2 with e2 | ⟨i2, e2, h3⟩
        · exact absurd e2 (noid i)
        · rw [e2]; exact inC_up h3
  have hholdM : holdB (moveM (m.ns ++ [⟨1, z.space, z.name, z.attrs, [], -1, []⟩]) (kb : Int) (m.ns.length : Int)).1 (kb : Int) = true := by
    rw [hkb] at hhold
    obtain ⟨q1, y, e1, hy, hk1⟩ := holdB_nat (hold_app (z := ⟨1, z.space, z.name, z.attrs, [], -1, []⟩) hhold)
    have : q1 = kb := by omega
    subst this
    obtain ⟨y', hy', ek, _⟩ := Wt.move (ns := m.ns ++ [⟨1, z.space, z.name, z.attrs, [], -1, []⟩]) (q1 : Int) (m.ns.length : Int) _ _ hy
    exact hold_of ⟨by omega, by rw [hML]; omega⟩ (hk1.imp (fun h => by omega) fun h => ⟨y', by rw [Int.toNat_natCast]; exact hy', ek.trans h⟩)
  have r := put_rep GM hholdM (id := (m.ns.length : Int)) ⟨by omega, by rw [hML]; omega⟩ hbid2
  obtain ⟨g, on, un⟩ := Gr.renew (ns := m.ns ++ [⟨1, z.space, z.name, z.attrs, [], -1, []⟩]) (x := (m.ns.length : Int)) (k := (kb : Int)) G1 hid1 (by omega) (by omega) (by omega) fun i => by rw [r i, hM i]
  have g0 : Gr m.ns (m.ns ++ [⟨1, z.space, z.name, z.attrs, [], -1, []⟩]) := Gr.same hpar
  have en : (renewM m f blk b).ns = (putM (moveM (m.ns ++ [⟨1, z.space, z.name, z.attrs, [], -1, []⟩]) (kb : Int) (m.ns.length : Int)).1 (kb : Int) (-1) (m.ns.length : Int)).1 := by
    show (putM (moveM (copyM m.ns f).1 blk (copyM m.ns f).2).1 blk (-1) (copyM m.ns f).2).1 = _
    rw [ec, hkb]
  have eo : (renewM m f blk b).op = insAt (m.op.eraseIdx j) ((atO (m.op.eraseIdx j) blk) + 1).toNat ((m.ns.length : Int), (m.op.getD (atO m.op f).toNat noOpen).2) := by
    show insAt (dropO m.op f) ((atO (dropO m.op f) blk) + 1).toNat ((copyM m.ns f).2, _) = _
    rw [ec, hdrop]
  refine ⟨by rw [en]; exact g0.trans g, by rw [en]; exact (Wt.app _).trans ((Wt.move _ _).trans (Wt.put GM _ _ _)), hfo, ?_⟩
  rw [en, eo]
  have hat : 0 <= atO (m.op.eraseIdx j) blk := by
    have : 0 <= idxQ (m.op.eraseIdx j) (fun x => decide (x.1 = blk)) := by
      rw [idxQ_any, List.any_eq_true]
      rw [getD_get hib2] at hib3
      exact ⟨m.op[ib], List.mem_eraseIdx_iff_getElem.2 ⟨ib, hib2, by omega, rfl⟩, by simpa using hib3⟩
    exact this
  obtain ⟨p, ei, hi1, hi2⟩ : ∃ p, (atO (m.op.eraseIdx j) blk + 1).toNat = p + 1 /\ ∃ h : p < (m.op.eraseIdx j).length, ((m.op.eraseIdx j)[p]).1 = blk := by
    obtain ⟨hi1, hi2, _⟩ := idxQ_yes (l := m.op.eraseIdx j) (p := fun x => decide (x.1 = blk)) hat
    exact ⟨(atO (m.op.eraseIdx j) blk).toNat, by omega, hi1, by simpa using hi2⟩
  rw [ei]
  have hP := List.pairwise_iff_getElem.1 hch
  have hnd : ((m.op.eraseIdx j).map (·.1)).Nodup := (List.Sublist.map _ (List.eraseIdx_sublist _ _)).nodup A.D.nd
  generalize m.op.eraseIdx j = L at hch hi1 hi2 hP hnd
  have up : ∀ a b, InC m.ns a b -> InC (putM (moveM (m.ns ++ [⟨1, z.space, z.name, z.attrs, [], -1, []⟩]) (kb : Int) (m.ns.length : Int)).1 (kb : Int) (-1) (m.ns.length : Int)).1 a b := g0.trans g
  unfold insAt
  refine List.pairwise_append.2 ⟨(hch.sublist (List.take_sublist _ _)).imp fun h => up _ _ h, List.pairwise_cons.2 ⟨fun y hy => ?_, (hch.sublist (List.drop_sublist _ _)).imp fun h => up _ _ h⟩, fun y hy w hw => ?_⟩
  · obtain ⟨i, hi, rfl⟩ := List.mem_iff_getElem.1 hy
    rw [List.length_drop] at hi
    rw [List.getElem_drop]
    have h1 := hP p (p + 1 + i) hi1 (by omega) (by omega)
    refine un _ (by rw [<- hkb, <- hi2]; exact g0 _ _ h1) fun e => ?_
    have := (List.pairwise_iff_getElem.1 hnd) p (p + 1 + i) (by rw [List.length_map]; omega) (by rw [List.length_map]; omega) (by omega)
    rw [List.getElem_map, List.getElem_map] at this
    exact this (by rw [e, hi2, hkb])
  · obtain ⟨i, hi, rfl⟩ := List.mem_iff_getElem.1 hy
    rw [List.length_take] at hi
    rw [List.getElem_take]
    rcases List.mem_cons.1 hw with e | hw
    · subst e
      refine inC_trans (b := blk) (by rw [hkb]; exact on) (up _ _ ?_)
      rw [<- hi2]
      by_cases e : i = p
      · subst e; rw [hi2]; exact inC_self hbid.1
      · exact hP i p (by omega) hi1 (by omega)
    · obtain ⟨i2, hi2', rfl⟩ := List.mem_iff_getElem.1 hw
      rw [List.length_drop] at hi2'
      rw [List.getElem_drop]
      exact up _ _ (hP i (p + 1 + i2) (by omega) (by omega) (by omega))
theorem UP.lay {m1 : WM} {bk : Nat} (C2 : CI m1 u v x f j bk (j + 1)) (K2 : KI (fun a => InC m.ns a 0) m.ns (fun i => m.op.getD i noOpen) m1 (j + 1) last) (B2 : BI m1 blk (j + 1)) :
    UP m (renewM { m1 with ns := (putM m1.ns (whereM m1.ns m1.op m1.fo (m.op.getD (j - 1) noOpen)).1 (whereM m1.ns m1.op m1.fo (m.op.getD (j - 1) noOpen)).2 last).1 } f blk bk) := by
  have A1 := C2.A
  have hj0 := C2.h0
  have hq := K2.hq
  have hq : j + 1 < m1.op.length := hq
  have hpk : m1.op.getD (j - 1) noOpen = m.op.getD (j - 1) noOpen := K2.pk (j - 1) (by omega)
  rw [<- hpk]
  have hwh : whereM m1.ns m1.op m1.fo (m1.op.getD (j - 1) noOpen) = ((m1.op.getD (j - 1) noOpen).1, -1) := by
    unfold whereM
    have : m1.fo = false := K2.fo
    rw [this]; rfl
  rw [hwh]
  have hal := A1.idD (show j - 1 < m1.op.length by omega)
  have hll := A1.idD hq
  have hl : (m1.op.getD (j + 1) noOpen).1 = last := K2.hl
  rw [hl] at hll
  have hl0 : last ≠ 0 := by rw [<- hl, getD_get hq]; exact A1.ne0 hq (by omega)
  have r := put_rep A1.D.G (parent := (m1.op.getD (j - 1) noOpen).1) (id := last) (by rw [getD_get (show j - 1 < m1.op.length by omega)]; exact A1.hold (List.getElem_mem _)) ⟨by omega, hll.2⟩ (K2.sep (j - 1) (by omega))
  obtain ⟨k1, k2, k3, k4⟩ := K2.re A1 r.off (r.on hll.1 hal.1)
  have k1 : ∀ i k, i < k -> k < j + 1 -> InC _ (m1.op.getD k noOpen).1 (m1.op.getD i noOpen).1 := k1
  have k2 : ∀ i k, j + 1 <= i -> i < k -> k < m1.op.length -> InC _ (m1.op.getD k noOpen).1 (m1.op.getD i noOpen).1 := k2
  have k3 : ∀ k, j + 1 <= k -> k < m1.op.length -> InC _ (m1.op.getD k noOpen).1 (m1.op.getD (j - 1) noOpen).1 := k3
  have D : ∀ i k, i < k -> k < m1.op.length -> i ≠ j -> k ≠ j -> InC (putM m1.ns (m1.op.getD (j - 1) noOpen).1 (-1) last).1 (m1.op.getD k noOpen).1 (m1.op.getD i noOpen).1 := fun i k h1 h2 h3 h4 => by
    by_cases a : k < j
    · exact k1 i k h1 (by omega)
    · by_cases e : j < i
      · exact k2 i k (by omega) h1 h2
      · by_cases e2 : i = j - 1
        · subst e2; exact k3 k (by omega) h2
        · exact inC_trans (k3 k (by omega) h2) (k1 i (j - 1) (by omega) (by omega))
  have C3 := C2.put (m1.op.getD (j - 1) noOpen).1 (-1) last
  have B3 : BI { m1 with ns := (putM m1.ns (m1.op.getD (j - 1) noOpen).1 (-1) last).1 } blk (j + 1) := B2
  have hel : (m1.op.eraseIdx j).length = m1.op.length - 1 := by rw [List.length_eraseIdx, if_pos (by omega)]
  obtain ⟨g, w, c2⟩ := renew_up C3 B3 K2.fo (ch_of fun i k h1 h2 => by
    have h2 : k < (m1.op.eraseIdx j).length := h2
    show InC _ ((m1.op.eraseIdx j).getD k noOpen).1 ((m1.op.eraseIdx j).getD i noOpen).1
    by_cases a : k < j
    · rw [getD_erase _ a, getD_erase _ (show i < j by omega)]
      exact D i k h1 (by omega) (by omega) (by omega)
    · rw [getD_erase2 _ (show j <= k by omega)]
      by_cases e : i < j
      · rw [getD_erase _ e]
        exact D i (k + 1) (by omega) (by omega) (by omega) (by omega)
      · rw [getD_erase2 _ (show j <= i by omega)]
        exact D (i + 1) (k + 1) (by omega) (by omega) (by omega) (by omega))
  refine ⟨c2, fun a ha => ?_, K2.w.trans ((Wt.put A1.D.G _ _ _).trans w)⟩
  refine g _ _ ((k4 a ha).elim id fun h => inC_trans h ?_)
  have hr := A1.root
  by_cases e : j - 1 = 0
  · rw [e, hr]; exact inC_self (Int.le_refl 0)
  · have := k1 0 (j - 1) (by omega) (by omega)
    rwa [hr] at this
theorem UP.over (c : CH m) (A : AI m u v x) {k : Nat} (hk : k < m.mks.length) (h0 : 0 <= (m.mks.getD k noMark).1) (hat : 0 <= atO m.op (m.mks.getD k noMark).1) {n : Nat} (hn : (atO m.op (m.mks.getD k noMark).1).toNat < n) (hn2 : n < m.op.length) :
    UP m (overM m (m.mks.getD k noMark).1 k (atO m.op (m.mks.getD k noMark).1).toNat n) := by
  have C := A.begin hk h0 hat hn (Nat.le_of_lt hn2)
  have K := KI.begin c A hn2
  have C2 := climb_inv (m.op.getD n noOpen).1 n 0 (m.op.getD n noOpen).1 C
  have K2 := climb_ki (m.op.getD n noOpen).1 n 0 (m.op.getD n noOpen).1 C K
  have B2 := climb_blk (blk := (m.op.getD n noOpen).1) n 0 (m.op.getD n noOpen).1 C ⟨n, Nat.le_refl _, hn2, rfl⟩
  obtain ⟨R, hR⟩ : ∃ R, climbN (m.op.getD n noOpen).1 (m.mks.getD k noMark).1 n 0 m (m.op.getD n noOpen).1 k = R := ⟨_, rfl⟩
  rw [hR] at C2 K2 B2
  unfold overM
  simp only [hR]
  exact UP.lay C2 K2 B2
theorem UP.round (c : CH m) (A : AI m u v x) {k : Nat} (hk : k < m.mks.length) (h0 : 0 <= (m.mks.getD k noMark).1) : UP m (roundM m k).1 := by
  unfold roundM
  simp only []
  split
  · exact UP.unmark c k
  · rename_i hat
    split
    · exact UP.refl c
    · split
      · have U := UP.close c (((atO m.op (m.mks.getD k noMark).1).toNat : Nat) : Int)
        exact U.trans (UP.unmark U.c k)
      · rename_i hs
        obtain ⟨hi, _, _⟩ := idxQ_yes (l := m.op.drop ((atO m.op (m.mks.getD k noMark).1).toNat + 1)) (p := specO) (by omega)
        rw [List.length_drop] at hi
        exact UP.over c A hk h0 (by omega) (by omega) (by omega)
theorem UP.rounds (s : Bs) : ∀ (r : Nat) {m : WM} {u : Nat}, CH m -> AI m u v x -> UP m (roundsM s r m).1
  | 0, m, u, c, A => UP.refl c
  | r + 1, m, u, c, A => by
    unfold roundsM
    split
    · exact UP.refl c
    · rename_i hl
      obtain ⟨k, e, hk, h0⟩ := lastP_of (by omega : 0 <= lastP m.mks s)
      have hk2 : (lastP m.mks s).toNat = k := by rw [e]; rfl
      rw [hk2]
      have A2 := A.round hk h0
      have U := UP.round c A hk h0
      split
      · exact U.trans (UP.rounds s r U.c A2)
      · exact U
theorem UP.run (c : CH m) (A : AI m u v x) (s : Bs) : UP m (runM m s).1 := by
  unfold runM
  split
  · exact UP.close c _
  · exact UP.rounds s 8 c A
end
end Go.Proofs
namespace Go.Proofs
open Go Go.Sh
set_option linter.unusedVariables false
set_option maxRecDepth 100000
abbrev neM (a b : MarkP) : Prop := 0 <= a.1 -> a.1 ≠ b.1
def MI (l : List MarkP) (N : Nat) : Prop := l.Pairwise neM /\ ∀ y ∈ l, y.1 < (N : Int)
theorem pw_set {l : List MarkP} (hn : l.Pairwise neM) {k : Nat} {y : MarkP} (hy : ∀ z ∈ l, z.1 ≠ y.1) : (l.set k y).Pairwise neM := by
  induction l generalizing k with
  | nil => exact hn
  | cons a l ih =>
    rw [List.pairwise_cons] at hn
    cases k with
    | zero =>
      rw [List.set_cons_zero, List.pairwise_cons]
      exact ⟨fun z hz _ e => hy z (by simp [hz]) e.symm, hn.2⟩
    | succ k =>
      rw [List.set_cons_succ, List.pairwise_cons]
      refine ⟨fun z hz => ?_, ih hn.2 fun z hz => hy z (by simp [hz])⟩
      rcases List.mem_or_eq_of_mem_set hz with h | h
      · exact hn.1 z h
      · subst h; exact fun _ => hy a (by simp)
section
variable {l : List MarkP} {N N' : Nat}
theorem MI.nil (N : Nat) : MI [] N := ⟨.nil, fun y h => nomatch h⟩
theorem MI.mono (M : MI l N) (h : N <= N') : MI l N' := ⟨M.1, fun y hy => by have := M.2 y hy; omega⟩
theorem MI.sub {l' : List MarkP} (M : MI l N) (h : l'.Sublist l) : MI l' N := ⟨M.1.sublist h, fun y hy => M.2 y (h.subset hy)⟩
theorem MI.erase (M : MI l N) (k : Nat) : MI (l.eraseIdx k) N := M.sub (List.eraseIdx_sublist _ _)
theorem MI.fresh (M : MI l N) {z : Bs × List AttrP} : ∀ y ∈ l, y.1 ≠ ((N : Int), z).1 := fun y hy e => by
  have := M.2 y hy
  have e : y.1 = (N : Int) := e
  omega
theorem MI.set (M : MI l N) (k : Nat) (z : Bs × List AttrP) : MI (l.set k ((N : Int), z)) (N + 1) := ⟨pw_set M.1 M.fresh, fun y hy => by
  rcases List.mem_or_eq_of_mem_set hy with h | h
  · have := M.2 y h; omega
  · subst h; show (N : Int) < ((N + 1 : Nat) : Int); omega⟩
theorem MI.insG (M : MI l N) (k : Nat) {y : MarkP} (hy : ∀ z ∈ l, neM z y /\ neM y z) (hN : N <= N') (h2 : y.1 < (N' : Int)) : MI (insAt l k y) N' := by
  have hl : l.take k ++ l.drop k = l := List.take_append_drop _ _
  have hp := M.1
  rw [<- hl, List.pairwise_append] at hp
  refine ⟨?_, fun z hz => ?_⟩
  · unfold insAt
    rw [List.pairwise_append, List.pairwise_cons]
    refine ⟨hp.1, ⟨fun z hz => (hy z (List.mem_of_mem_drop hz)).2, hp.2.1⟩, fun a ha b hb => ?_⟩
    rcases List.mem_cons.1 hb with h | h
    · subst h; exact (hy a (List.mem_of_mem_take ha)).1
    · exact hp.2.2 a ha b h
  · rcases insA_mem hz with h | h
    · have := M.2 z h; omega
    · subst h; exact h2
theorem MI.ins (M : MI l N) (k : Nat) (z : Bs × List AttrP) : MI (insAt l k ((N : Int), z)) (N + 1) :=
  M.insG k (fun y hy => ⟨fun _ => M.fresh y hy, fun _ e => M.fresh y hy e.symm⟩) (Nat.le_succ _) (by show (N : Int) < ((N + 1 : Nat) : Int); omega)
theorem MI.app (M : MI l N) {y : MarkP} (hy : ∀ z ∈ l, neM z y /\ neM y z) (hN : N <= N') (h2 : y.1 < (N' : Int)) : MI (l ++ [y]) N' := by
  have := M.insG l.length hy hN h2
  unfold insAt at this
  rwa [List.take_length, List.drop_length] at this
theorem MI.push (M : MI l N) (z : Bs × List AttrP) : MI (pushP l ((N : Int), z)) (N + 1) := by
  have app : ∀ l', MI l' N -> MI (l' ++ [((N : Int), z)]) (N + 1) := fun l' M' => M'.app (fun y hy => ⟨fun _ => M'.fresh y hy, fun _ e => M'.fresh y hy e.symm⟩) (Nat.le_succ _) (by show (N : Int) < ((N + 1 : Nat) : Int); omega)
  unfold pushP
  split
  · exact app _ M
  · exact app _ (M.erase _)
theorem MI.marker (M : MI l N) (h0 : 0 < N) : MI (pushP l (-1, [], [])) N := by
  have e : pushP l (-1, [], []) = l ++ [(-1, [], [])] := by unfold pushP pushS; rfl
  rw [e]
  refine M.app (fun z hz => ⟨fun h e => ?_, fun h => absurd h (by decide)⟩) (Nat.le_refl _) (by show (-1 : Int) < (N : Int); omega)
  have e : z.1 = -1 := e
  omega
theorem MI.find (M : MI l N) {k : Nat} (hk : k < l.length) (h0 : 0 <= l[k].1) : findP l l[k].1 = (k : Int) := by
  have h1 := (findP_mem h0).2 ⟨l[k], List.getElem_mem hk, rfl⟩
  obtain ⟨_, hi, e⟩ := findP_yes h1
  have hp := List.pairwise_iff_getElem.1 M.1
  have : (findP l l[k].1).toNat = k := by
    rcases Nat.lt_trichotomy (findP l l[k].1).toNat k with h | h | h
    · exact absurd e (hp _ _ hi hk h (by rw [e]; exact h0))
    · exact h
    · exact absurd e.symm (hp _ _ hk hi h h0)
  omega
end
def MW (m : WM) : Prop := MI m.mks m.ns.length
section
variable {m : WM} {u v x j b q : Nat} {f blk : Int}
theorem MW.tree (M : MW m) {m' : WM} (hm : m'.mks = m.mks) (hl : m.ns.length <= m'.ns.length) : MW m' := by
  unfold MW
  rw [hm]
  exact MI.mono M hl
theorem MW.unmark (M : MW m) (k : Nat) : MW (unmark m k) := MI.erase M k
theorem MW.close (M : MW m) (n : Int) : MW (closeW m n) := M
theorem MW.drop (M : MW m) (id : Int) : MW (dropW m id) := M
theorem MW.insert (M : MW m) (G : GoodT m.ns) (sp : Int) (nm : Bs) (at' : List AttrP) : MW (insertM m sp nm at') := M.tree rfl (by rw [insert_lenR G]; omega)
theorem MW.write (M : MW m) (G : GoodT m.ns) (tx : Bs) : MW (writeW m tx) := M.tree rfl (write_lenL G _ _ _)
theorem MW.climb (blk : Int) : ∀ (q n : Nat) {m : WM} {u v x b : Nat} (last : Int), CI m u v x f j b q -> MW m -> MW (climbN blk f q n m last b).1
  | 0, n, m, u, v, x, b, last, C, M => absurd C.hj (by omega)
  | q + 1, n, m, u, v, x, b, last, C, M => by
    have hq : q < m.op.length := by have := C.hq; omega
    unfold climbN
    simp only []
    by_cases hf : (m.op.getD q noOpen).1 = f
    · rw [if_pos hf]; exact M
    · rw [if_neg hf]
      by_cases h1 : 0 <= findP m.mks (m.op.getD q noOpen).1 /\ n < 3
      · rw [if_pos h1]
        have C2 := C.copy hf h1.1 last (b' := if last = blk then (findP m.mks (m.op.getD q noOpen).1).toNat + 1 else b) (by split; exact .inl rfl; exact .inr rfl)
        refine MW.climb blk q (n + 1) _ C2 ?_
        have eg : m.op.getD q noOpen = m.op[q] := getD_get hq
        obtain ⟨A1, ec, hcl, _⟩ := C.A.copy (List.getElem_mem hq) (C.A.ne0 hq (C.pos hf))
        rw [<- eg] at A1 ec hcl
        unfold MW
        show MI (m.mks.set _ ((copyM m.ns (m.op.getD q noOpen).1).2, _)) (putM (copyM m.ns (m.op.getD q noOpen).1).1 _ _ _).1.length
        rw [put_len A1.D.G, hcl, ec]
        exact MI.set M _ _
      · rw [if_neg h1]
        by_cases h2 : 0 <= findP m.mks (m.op.getD q noOpen).1
        · rw [if_pos h2]
          have C1 := C.unmark hf h2
          exact MW.climb blk q (n + 1) last (C1.dropQ hf) (M.unmark _)
        · rw [if_neg h2]
          exact MW.climb blk q (n + 1) last (C.dropQ hf) M
theorem MW.renew (M : MW m) (C : CI m u v x f j b q) : MW (renewM m f blk b) := by
  have hjl : j < m.op.length := Nat.lt_of_lt_of_le C.hj C.hq
  have eg : m.op.getD j noOpen = m.op[j] := getD_get hjl
  have hfj : m.op[j].1 = f := by have := C.hf; rwa [eg] at this
  obtain ⟨A1, ec, hcl, _⟩ := C.A.copy (List.getElem_mem hjl) (C.A.ne0 hjl C.h0)
  rw [hfj] at A1 ec hcl
  have A2 := A1.move blk (copyM m.ns f).2
  unfold MW renewM
  show MI (insAt _ _ ((copyM m.ns f).2, _)) (putM (moveM (copyM m.ns f).1 blk (copyM m.ns f).2).1 blk (-1) (copyM m.ns f).2).1.length
  rw [put_len A2.D.G]
  show MI _ (moveM (copyM m.ns f).1 blk (copyM m.ns f).2).1.length
  rw [move_len, hcl, ec]
  exact MI.ins (MI.erase M _) _ _
theorem MW.over (M : MW m) (A : AI m u v x) {k : Nat} (hk : k < m.mks.length) (h0 : 0 <= (m.mks.getD k noMark).1) (hat : 0 <= atO m.op (m.mks.getD k noMark).1) {n : Nat} (hn : (atO m.op (m.mks.getD k noMark).1).toNat < n) (hn2 : n < m.op.length) :
    MW (overM m (m.mks.getD k noMark).1 k (atO m.op (m.mks.getD k noMark).1).toNat n) := by
  have C := A.begin hk h0 hat hn (Nat.le_of_lt hn2)
  have C2 := climb_inv (m.op.getD n noOpen).1 n 0 (m.op.getD n noOpen).1 C
  have M2 := MW.climb (m.op.getD n noOpen).1 n 0 (m.op.getD n noOpen).1 C M
  obtain ⟨R, hR⟩ : ∃ R, climbN (m.op.getD n noOpen).1 (m.mks.getD k noMark).1 n 0 m (m.op.getD n noOpen).1 k = R := ⟨_, rfl⟩
  rw [hR] at C2 M2
  unfold overM
  simp only [hR]
  exact MW.renew (MW.tree M2 (m' := { R.1 with ns := _ }) rfl (by show _ <= (putM _ _ _ _).1.length; rw [put_len C2.A.D.G]; omega)) (C2.put _ _ _)
theorem MW.round (M : MW m) (A : AI m u v x) {k : Nat} (hk : k < m.mks.length) (h0 : 0 <= (m.mks.getD k noMark).1) : MW (roundM m k).1 := by
  unfold roundM
  simp only []
  split
  · exact M.unmark k
  · rename_i hat
    split
    · exact M
    · split
      · exact (M.close _).unmark k
      · rename_i hs
        obtain ⟨hi, _, _⟩ := idxQ_yes (l := m.op.drop ((atO m.op (m.mks.getD k noMark).1).toNat + 1)) (p := specO) (by omega)
        rw [List.length_drop] at hi
        exact M.over A hk h0 (by omega) (by omega) (by omega)
theorem MW.rounds (s : Bs) : ∀ (r : Nat) {m : WM} {u : Nat}, AI m u v x -> MW m -> MW (roundsM s r m).1
  | 0, m, u, A, M => M
  | r + 1, m, u, A, M => by
    unfold roundsM
    split
    · exact M
    · rename_i hl
      obtain ⟨k, e, hk, h0⟩ := lastP_of (by omega : 0 <= lastP m.mks s)
      have hk2 : (lastP m.mks s).toNat = k := by rw [e]; rfl
      rw [hk2]
      have M2 := M.round A hk h0
      split
      · exact MW.rounds s r (A.round hk h0) M2
      · exact M2
theorem MW.run (M : MW m) (A : AI m u v x) (s : Bs) : MW (runM m s).1 := by
  unfold runM
  split
  · exact M.close _
  · exact MW.rounds s 8 A M
theorem MW.reb {v : Nat} : ∀ (k : Nat) {m : WM} {u x : Nat} (i : Nat), AI m u v x -> MW m -> i + k <= m.mks.length -> MW (rebN k m i)
  | 0, m, u, x, i, A, M, _ => M
  | k + 1, m, u, x, i, A, M, hik => by
    have hi : i < m.mks.length := by omega
    have hg : m.mks.getD i noMark = m.mks[i] := getD_get hi
    have hw := A.D.mw m.mks[i] (List.getElem_mem hi)
    have h1 := A.insert 0 (nm := (m.mks.getD i noMark).2.1) (by rw [hg]; exact hw.1) (m.mks.getD i noMark).2.2
    have h2 : AI { insertM m 0 (m.mks.getD i noMark).2.1 (m.mks.getD i noMark).2.2 with mks := m.mks.set i ((m.ns.length : Int), (m.mks.getD i noMark).2) } (u + 1) v x :=
      ⟨⟨h1.D.G, h1.D.B, h1.D.ne, h1.D.ids, h1.D.nd, h1.D.lo, h1.D.ln, by show (m.mks.set _ _).length <= v; rw [List.length_set]; exact A.D.ml, by rw [hg]; exact A.D.mw.set hi _, h1.D.tx⟩, h1.root, h1.kind, fun z hz => by
        rcases List.mem_or_eq_of_mem_set hz with h | h
        · exact A.mid z h
        · rw [h]
          have := A.pos
          exact fun e => by have e : (m.ns.length : Int) = 0 := e; omega, h1.nml⟩
    have hl : (insertM m 0 (m.mks.getD i noMark).2.1 (m.mks.getD i noMark).2.2).ns.length = m.ns.length + 1 := insert_lenR A.D.G
    exact MW.reb k (i + 1) h2 (by unfold MW; rw [hl]; exact MI.set M _ _) (by show i + 1 + k <= (m.mks.set _ _).length; rw [List.length_set]; omega)
theorem MW.rebuild (M : MW m) (A : AI m u v x) : MW (rebuildW m) := by
  have hr := lostTo_rng m.mks m.op m.mks.length
  have h1 : (lostP m.mks m.op).toNat <= m.mks.length := by have := hr.2; show (lostTo m.mks m.op m.mks.length).toNat <= _; omega
  exact MW.reb (m.mks.length - (lostP m.mks m.op).toNat) (lostP m.mks m.op).toNat A M (by omega)
theorem MW.zero : MW wm0 := MI.nil _
end
end Go.Proofs
namespace Go.Proofs
open Go Go.Sh
set_option linter.unusedVariables false
set_option maxRecDepth 100000
abbrev TokP := Int × Bs × List AttrP × Bool × Bs
abbrev elTok : El TokP := elPair (elInt .u8) (elPair elStr (elPair (elSl elAttr) (elPair elBool elStr)))
abbrev tokCells (x : TokP) (b : Option Addr) (n c : Nat) : List Value := [.int .u8 x.1, S x.2.1, .slice b n c, .bool x.2.2.2.1, S x.2.2.2.2]
structure TokC (A : Nat -> Prop) (h : H) (a : Addr) (x : TokP) (b : Option Addr) (n c : Nat) : Prop where
  c0 : cell h (a.add 0) = some (.int .u8 x.1)
  c1 : cell h (a.add 1) = some (S x.2.1)
  c2 : cell h (a.add 2) = some (.slice b n c)
  c3 : cell h (a.add 3) = some (.bool x.2.2.2.1)
  c4 : cell h (a.add 4) = some (S x.2.2.2.2)
  row : Row elAttr A h b n c x.2.2.1
  nil : b = none -> c = 0
  rk : Rng .u8 x.1
  rn : x.2.1.length <= maxLen
  rt : x.2.2.2.2.length <= maxLen
section
variable {A : Nat -> Prop} {h : H} {a : Addr} {x : TokP}
theorem tokAt (hA : At elTok A h a x) : ∃ b n c, TokC A h a x b n c := by
  have h2 := hA.snd.sndAt (k := 2) rfl
  have h3 := h2.sndAt (k := 3) rfl
  obtain ⟨b, n, c, e, r, hz⟩ := h2.fst.sl
  exact ⟨b, n, c, hA.fst.int.1, hA.snd.fst.str.1, e, h3.fst.bool, (h3.sndAt (k := 4) rfl).str.1, r, hz, hA.fst.int.2, hA.snd.fst.str.2, (h3.sndAt (k := 4) rfl).str.2⟩
theorem tokR {b : Option Addr} {n c : Nat} (r : Row elAttr A h b n c x.2.2.1) (hz : b = none -> c = 0) (rk : Rng .u8 x.1) (rn : x.2.1.length <= maxLen) (rt : x.2.2.2.2.length <= maxLen) : elTok.R A h x (tokCells x b n c) :=
  ⟨[.int .u8 x.1], _, rfl, ⟨rfl, rk⟩, [S x.2.1], _, rfl, ⟨rfl, rn⟩, [.slice b n c], _, rfl, ⟨b, n, c, rfl, r, hz⟩, [.bool x.2.2.2.1], _, rfl, rfl, rfl, rt⟩
end
def attW (a : AttrP) : Nat := 1 + a.1.length / 8 + a.2.length / 8
def attsW (l : List AttrP) : Nat := (l.map attW).sum
def tokW (x : TokP) : Nat := 1 + x.2.2.2.2.length / 8 + x.2.1.length / 8 + attsW x.2.2.1
def toksW (l : List TokP) : Nat := (l.map tokW).sum
theorem attsW_mem {l : List AttrP} {a : AttrP} (h : a ∈ l) : attW a <= attsW l := by
  induction l with
  | nil => cases h
  | cons b l ih =>
    unfold attsW at ih ⊢
    rw [List.map_cons, List.sum_cons]
    rcases List.mem_cons.1 h with rfl | h
    · omega
    · have := ih h; omega
theorem attsW_len (l : List AttrP) : l.length <= attsW l := by
  induction l with
  | nil => exact Nat.le_refl _
  | cons b l ih =>
    unfold attsW at ih ⊢
    rw [List.map_cons, List.sum_cons, List.length_cons]
    have : 1 <= attW b := by unfold attW; omega
    omega
theorem tdiv8 (n : Nat) : Int.tdiv (n : Int) (8 : Int) = ((n / 8 : Nat) : Int) := rfl
theorem tokW_small {x : TokP} {m : Nat} (h : tokW x <= m) : x.2.1.length <= 8 * m /\ x.2.2.2.2.length <= 8 * m /\ x.2.2.1.length <= m /\ ∀ a ∈ x.2.2.1, a.1.length <= 8 * m /\ a.2.length <= 8 * m := by
  unfold tokW at h
  refine ⟨by omega, by omega, by have := attsW_len x.2.2.1; omega, fun a ha => ?_⟩
  have := attsW_mem ha
  unfold attW at this
  omega
section
variable {A : Nat -> Prop} {h : H} {K : Value -> H -> Prop} {b : Option Addr} {n c : Nat} {l : List TokP}
theorem rngW {n : Int} (h1 : -9223372036854775808 <= n) (h2 : n <= 9223372036854775807) : Rng .i64 n := ⟨h1, h2⟩
theorem tokens_calls (R : Row elTok A h b n c l) {lim : Nat} (hlim : lim <= 1000000) (hk : ∀ v : Int, 0 <= v -> v <= 5000000000000000000 -> (0 < n -> 1 <= v) -> (v <= lim -> v = toksW l) -> K (.int .i64 v) h) : HCalls Tryz.prog 28 ⟨[.slice b n c, .int .i64 lim]⟩ h K := by
  have hl := R.len
  have hmx : n <= maxLen := Nat.le_trans R.cap R.max
  simp only [maxLen] at hmx
  refine Sx.r00_Tokens.ok _ _ _ _ _ _ ⟨n + 1, ?_⟩
  have key : ∀ N i (w : Int), i + N = n -> 0 <= w -> w <= 5000000000000000000 -> (0 < i -> 1 <= w) -> (w <= lim -> w = toksW (l.take i)) ->
      Sx.r00_Tokens.n7_L (fun z5 h => Sx.r00_Tokens.n4 z5 (fun y4 h => K (.int .i64 y4) h) (fun y4 h => K (.int .i64 y4) h) h) (fun z5 h => Sx.r00_Tokens.n4 z5 (fun y4 h => K (.int .i64 y4) h) (fun y4 h => K (.int .i64 y4) h) h) (fun y4 h => K (.int .i64 y4) h) (N + 1) b n c (lim : Int) w (i : Int) h := by
    intro N
    induction N with
    | zero =>
      intro i w hi w0 w1 wi hw
      refine splF (by omega) (hk w w0 w1 (fun h0 => wi (by omega)) fun hle => ?_)
      have := hw hle
      rwa [List.take_of_length_le (by omega)] at this
    | succ N ih =>
      intro i w hi w0 w1 wi hw
      have hil : i < l.length := by omega
      refine splT (by omega) (spl (fun hle => ?_) fun hgt => ?_)
      · have hw := hw hle
        refine R.idxN hil rfl fun q hA => ?_
        obtain ⟨ab, an, ac, C⟩ := tokAt hA
        have htl : l[i].2.2.2.2.length <= 9223372036854775807 := by have := C.rt; simp only [maxLen] at this; exact this
        have hnl : l[i].2.1.length <= 9223372036854775807 := by have := C.rn; simp only [maxLen] at this; exact this
        refine ⟨_, C.c4, by decide, rngW (by rw [tdiv8]; omega) (by rw [tdiv8]; omega), rngW (by rw [tdiv8]; omega) (by rw [tdiv8]; omega), ?_⟩
        refine R.idxN hil rfl fun q2 hA2 => ?_
        obtain ⟨ab2, an2, ac2, C2⟩ := tokAt hA2
        refine ⟨_, C2.c1, by decide, rngW (by rw [tdiv8]; omega) (by rw [tdiv8]; omega), rngW (by rw [tdiv8, tdiv8]; omega) (by rw [tdiv8, tdiv8]; omega), rngW (by rw [tdiv8, tdiv8]; omega) (by rw [tdiv8, tdiv8]; omega), ?_⟩
        rw [tdiv8, tdiv8]
        have ew : (w + ((1 : Int) + ((l[i].2.2.2.2.length / 8 : Nat) : Int) + ((l[i].2.1.length / 8 : Nat) : Int))) = ((toksW (l.take i) + (1 + l[i].2.2.2.2.length / 8 + l[i].2.1.length / 8) : Nat) : Int) := by rw [hw]; omega
        rw [ew]
        have hal := C.row.len
        have hamx : an <= maxLen := Nat.le_trans C.row.cap C.row.max
        simp only [maxLen] at hamx
        have inner : ∀ M j (v : Int), j + M = l[i].2.2.1.length -> 1 <= v -> v <= 5000000000000000000 -> (v <= lim -> v = ((toksW (l.take i) + (1 + l[i].2.2.2.2.length / 8 + l[i].2.1.length / 8) + attsW (l[i].2.2.1.take j) : Nat) : Int)) ->
            Sx.r00_Tokens.n15_L (fun z0b z0n z0c z1 z5 z6 h => Sx.r00_Tokens.n10 z0b z0n z0c z1 z5 z6 (fun z0b z0n z0c z1 z5 z6 h => Sx.r00_Tokens.n7_L (fun z5 h => Sx.r00_Tokens.n4 z5 (fun y4 h => K (.int .i64 y4) h) (fun y4 h => K (.int .i64 y4) h) h) (fun z5 h => Sx.r00_Tokens.n4 z5 (fun y4 h => K (.int .i64 y4) h) (fun y4 h => K (.int .i64 y4) h) h) (fun y4 h => K (.int .i64 y4) h) (N + 1) z0b z0n z0c z1 z5 z6 h) (fun z5 h => Sx.r00_Tokens.n4 z5 (fun y4 h => K (.int .i64 y4) h) (fun y4 h => K (.int .i64 y4) h) h) (fun y4 h => K (.int .i64 y4) h) h)
              (fun z0b z0n z0c z1 z5 z6 h => Sx.r00_Tokens.n10 z0b z0n z0c z1 z5 z6 (fun z0b z0n z0c z1 z5 z6 h => Sx.r00_Tokens.n7_L (fun z5 h => Sx.r00_Tokens.n4 z5 (fun y4 h => K (.int .i64 y4) h) (fun y4 h => K (.int .i64 y4) h) h) (fun z5 h => Sx.r00_Tokens.n4 z5 (fun y4 h => K (.int .i64 y4) h) (fun y4 h => K (.int .i64 y4) h) h) (fun y4 h => K (.int .i64 y4) h) (N + 1) z0b z0n z0c z1 z5 z6 h) (fun z5 h => Sx.r00_Tokens.n4 z5 (fun y4 h => K (.int .i64 y4) h) (fun y4 h => K (.int .i64 y4) h) h) (fun y4 h => K (.int .i64 y4) h) h)
              (fun z0b z0n z0c z1 z5 z6 h => Sx.r00_Tokens.n10 z0b z0n z0c z1 z5 z6 (fun z0b z0n z0c z1 z5 z6 h => Sx.r00_Tokens.n7_L (fun z5 h => Sx.r00_Tokens.n4 z5 (fun y4 h => K (.int .i64 y4) h) (fun y4 h => K (.int .i64 y4) h) h) (fun z5 h => Sx.r00_Tokens.n4 z5 (fun y4 h => K (.int .i64 y4) h) (fun y4 h => K (.int .i64 y4) h) h) (fun y4 h => K (.int .i64 y4) h) (N + 1) z0b z0n z0c z1 z5 z6 h) (fun z5 h => Sx.r00_Tokens.n4 z5 (fun y4 h => K (.int .i64 y4) h) (fun y4 h => K (.int .i64 y4) h) h) (fun y4 h => K (.int .i64 y4) h) h)
              (fun z5 h => Sx.r00_Tokens.n4 z5 (fun y4 h => K (.int .i64 y4) h) (fun y4 h => K (.int .i64 y4) h) h) (fun y4 h => K (.int .i64 y4) h) (M + 1) b n c (lim : Int) v (i : Int) (j : Int) h := by
          intro M
          have fin : ∀ v : Int, 1 <= v -> v <= 5000000000000000000 -> (v <= lim -> v = ((toksW (l.take i) + tokW l[i] : Nat) : Int)) ->
              Rng .i64 ((i : Int) + 1) /\ Sx.r00_Tokens.n7_L (fun z5 h => Sx.r00_Tokens.n4 z5 (fun y4 h => K (.int .i64 y4) h) (fun y4 h => K (.int .i64 y4) h) h) (fun z5 h => Sx.r00_Tokens.n4 z5 (fun y4 h => K (.int .i64 y4) h) (fun y4 h => K (.int .i64 y4) h) h) (fun y4 h => K (.int .i64 y4) h) (N + 1) b n c (lim : Int) v ((i : Int) + 1) h := fun v v0 v1 hv =>
            ⟨rngW (by omega) (by omega), ih (i + 1) v (by omega) (by omega) v1 (fun _ => v0) fun hle => by
              rw [hv hle]
              congr 1
              rw [List.take_add_one, List.getElem?_eq_getElem hil]
              unfold toksW
              rw [List.map_append, List.sum_append]
              simp⟩
          induction M with
          | zero =>
            intro j v hj v0 v1 hv
            refine R.idxN hil rfl fun q3 hA3 => ?_
            obtain ⟨ab3, an3, ac3, C3⟩ := tokAt hA3
            have h3l := C3.row.len
            refine ⟨_, _, _, C3.c2, splF (by omega) (fin v v0 v1 fun hle => ?_)⟩
            rw [hv hle, List.take_of_length_le (l := l[i].2.2.1) (i := j) (by omega)]
            unfold tokW
            omega
          | succ M ihM =>
            intro j v hj v0 v1 hv
            have hjl : j < l[i].2.2.1.length := by omega
            refine R.idxN hil rfl fun q3 hA3 => ?_
            obtain ⟨ab3, an3, ac3, C3⟩ := tokAt hA3
            have h3l := C3.row.len
            refine ⟨_, _, _, C3.c2, splT (by omega) (spl (fun hle2 => ?_) fun hgt2 => fin v v0 v1 fun hle => absurd hle hgt2)⟩
            refine R.idxN hil rfl fun q4 hA4 => ?_
            obtain ⟨ab4, an4, ac4, C4⟩ := tokAt hA4
            refine ⟨_, _, _, C4.c2, C4.row.idxN hjl rfl fun q5 hA5 => ⟨_, hA5.fst.str.1, by decide, ?_⟩⟩
            have l1 : l[i].2.2.1[j].1.length <= 9223372036854775807 := by have := hA5.fst.str.2; simp only [maxLen] at this; exact this
            have l2 : l[i].2.2.1[j].2.length <= 9223372036854775807 := by have := hA5.snd.str.2; simp only [maxLen] at this; exact this
            rw [tdiv8]
            refine ⟨rngW (by omega) (by omega), rngW (by omega) (by omega), ?_⟩
            refine R.idxN hil rfl fun q6 hA6 => ?_
            obtain ⟨ab6, an6, ac6, C6⟩ := tokAt hA6
            refine ⟨_, _, _, C6.c2, C6.row.idxN hjl rfl fun q7 hA7 => ⟨_, hA7.snd.str.1, by decide, ?_⟩⟩
            rw [tdiv8]
            refine ⟨rngW (by omega) (by omega), rngW (by omega) (by omega), rngW (by omega) (by omega), rngW (by omega) (by omega), ihM (j + 1) _ (by omega) (by omega) (by omega) fun hle => ?_⟩
            have hv := hv hle2
            rw [hv, List.take_add_one, List.getElem?_eq_getElem hjl]
            have : attsW (l[i].2.2.1.take j ++ (some l[i].2.2.1[j]).toList) = attsW (l[i].2.2.1.take j) + attW l[i].2.2.1[j] := by
              unfold attsW; rw [List.map_append, List.sum_append]; simp
            rw [this]
            unfold attW
            omega
        refine ⟨l[i].2.2.1.length + 1, ?_⟩
        exact inner l[i].2.2.1.length 0 _ (by omega) (by omega) (by omega) fun hle => by
          rw [List.take_zero]; rfl
      · refine hk w w0 w1 (fun h0 => ?_) fun hle => absurd hle hgt
        omega
  exact key n 0 0 (by omega) (by omega) (by omega) (fun h0 => absurd h0 (Nat.lt_irrefl _)) fun _ => by rw [List.take_zero]; rfl
end
end Go.Proofs
namespace Go.Proofs
open Go Go.Sh
set_option linter.unusedVariables false
set_option maxRecDepth 100000
def wP : List Bs := [[112]]
section
variable {A : Nat -> Prop} {h h' : H} {K : Value -> H -> Prop} {col col' : Col} {w : Addr} {m : WM} {nm : Bs} {f bk : Int} {u v x : Nat} {b : Option Addr} {n c : Nat}
end
end Go.Proofs
namespace Go.Proofs
open Go Go.Sh
set_option linter.unusedVariables false
set_option maxRecDepth 100000
def actIn (s : Bs) : List (List Bs) -> Nat -> Nat
  | [], _ => 0
  | l :: ls, k => if s ∈ l then k else actIn s ls (k + 1)
def wS1 : List Bs := [[104, 116, 109, 108], [98, 111, 100, 121], [104, 101, 97, 100], [102, 114, 97, 109, 101], [102, 114, 97, 109, 101, 115, 101, 116], [99, 97, 112, 116, 105, 111, 110], [99, 111, 108], [99, 111, 108, 103, 114, 111, 117, 112], [116, 98, 111, 100, 121], [116, 100], [116, 102, 111, 111, 116], [116, 104], [116, 104, 101, 97, 100], [116, 114]]
def wS2 : List Bs := [[98, 97, 115, 101], [98, 97, 115, 101, 102, 111, 110, 116], [98, 103, 115, 111, 117, 110, 100], [108, 105, 110, 107], [109, 101, 116, 97], [112, 97, 114, 97, 109], [115, 111, 117, 114, 99, 101], [116, 114, 97, 99, 107]]
def wS3 : List Bs := [[116, 105, 116, 108, 101]]
def wS4 : List Bs := [[110, 111, 102, 114, 97, 109, 101, 115], [115, 116, 121, 108, 101], [105, 102, 114, 97, 109, 101], [110, 111, 101, 109, 98, 101, 100]]
def wS5 : List Bs := [[115, 99, 114, 105, 112, 116]]
def wS6 : List Bs := [[97, 100, 100, 114, 101, 115, 115], [97, 114, 116, 105, 99, 108, 101], [97, 115, 105, 100, 101], [98, 108, 111, 99, 107, 113, 117, 111, 116, 101], [99, 101, 110, 116, 101, 114], [100, 101, 116, 97, 105, 108, 115], [100, 105, 97, 108, 111, 103], [100, 105, 114], [100, 105, 118], [100, 108], [102, 105, 101, 108, 100, 115, 101, 116], [102, 105, 103, 99, 97, 112, 116, 105, 111, 110], [102, 105, 103, 117, 114, 101], [102, 111, 111, 116, 101, 114], [104, 101, 97, 100, 101, 114], [104, 103, 114, 111, 117, 112], [109, 97, 105, 110], [109, 101, 110, 117], [110, 97, 118], [111, 108], [112], [115, 101, 97, 114, 99, 104], [115, 101, 99, 116, 105, 111, 110], [115, 117, 109, 109, 97, 114, 121], [117, 108]]
def wS7 : List Bs := [[104, 49], [104, 50], [104, 51], [104, 52], [104, 53], [104, 54]]
def wS8 : List Bs := [[112, 114, 101], [108, 105, 115, 116, 105, 110, 103]]
def wS9 : List Bs := [[102, 111, 114, 109]]
def wS10 : List Bs := [[108, 105]]
def wS11 : List Bs := [[100, 100], [100, 116]]
def wS12 : List Bs := [[112, 108, 97, 105, 110, 116, 101, 120, 116]]
def wS13 : List Bs := [[98, 117, 116, 116, 111, 110]]
def wS14 : List Bs := [[97]]
def wS15 : List Bs := [[110, 111, 98, 114]]
def wS16 : List Bs := [[97, 112, 112, 108, 101, 116], [109, 97, 114, 113, 117, 101, 101], [111, 98, 106, 101, 99, 116]]
def wS17 : List Bs := [[116, 97, 98, 108, 101]]
def wS18 : List Bs := [[97, 114, 101, 97], [98, 114], [101, 109, 98, 101, 100], [105, 109, 103], [107, 101, 121, 103, 101, 110], [119, 98, 114], [105, 110, 112, 117, 116]]
def wS19 : List Bs := [[105, 109, 97, 103, 101]]
def wS20 : List Bs := [[104, 114]]
def wS21 : List Bs := [[116, 101, 120, 116, 97, 114, 101, 97]]
def wS22 : List Bs := [[120, 109, 112]]
def wS23 : List Bs := [[111, 112, 116, 103, 114, 111, 117, 112], [111, 112, 116, 105, 111, 110]]
def wS24 : List Bs := [[114, 98], [114, 116, 99], [114, 112], [114, 116]]
def wS25 : List Bs := [[109, 97, 116, 104], [115, 118, 103]]
def tabS : List (List Bs) := [wS1, wS2, wS3, wS4, wS5, wS6, wS7, wS8, wS9, wS10, wS11, wS12, wS13, wS14, wS15, wS16, wS17, wS18, wS19, wS20, wS21, wS22, wS23, wS24, wS25]
def wE1 : List Bs := [[98, 111, 100, 121], [104, 116, 109, 108]]
def wE2 : List Bs := [[97, 100, 100, 114, 101, 115, 115], [97, 114, 116, 105, 99, 108, 101], [97, 115, 105, 100, 101], [98, 108, 111, 99, 107, 113, 117, 111, 116, 101], [98, 117, 116, 116, 111, 110], [99, 101, 110, 116, 101, 114], [100, 101, 116, 97, 105, 108, 115], [100, 105, 97, 108, 111, 103], [100, 105, 114], [100, 105, 118], [100, 108], [102, 105, 101, 108, 100, 115, 101, 116], [102, 105, 103, 99, 97, 112, 116, 105, 111, 110], [102, 105, 103, 117, 114, 101], [102, 111, 111, 116, 101, 114], [104, 101, 97, 100, 101, 114], [104, 103, 114, 111, 117, 112], [108, 105, 115, 116, 105, 110, 103], [109, 97, 105, 110], [109, 101, 110, 117], [110, 97, 118], [111, 108], [112, 114, 101], [115, 101, 97, 114, 99, 104], [115, 101, 99, 116, 105, 111, 110], [115, 117, 109, 109, 97, 114, 121], [117, 108]]
def wE3 : List Bs := [[102, 111, 114, 109]]
def wE4 : List Bs := [[112]]
def wE5 : List Bs := [[108, 105], [100, 100], [100, 116]]
def wE6 : List Bs := [[104, 49], [104, 50], [104, 51], [104, 52], [104, 53], [104, 54]]
def wE7 : List Bs := [[97, 112, 112, 108, 101, 116], [109, 97, 114, 113, 117, 101, 101], [111, 98, 106, 101, 99, 116]]
def wE8 : List Bs := [[98, 114]]
def tabE : List (List Bs) := [wE1, wE2, wE3, wE4, wE5, wE6, wE7, wE8]
def actS (s : Bs) : Nat := actIn s tabS 1
theorem actS_all : (List.range 25).all (fun k => (tabS.getD k []).all fun s => actS s == k + 1) = true := by decide +kernel
theorem actS_yes {s : Bs} (k : Nat) (hk : k < 25) (h : s ∈ tabS.getD k []) : actS s = k + 1 := by
  have h1 := List.all_eq_true.1 actS_all k (List.mem_range.2 hk)
  exact eq_of_beq (List.all_eq_true.1 h1 s h)
theorem actS_no {s : Bs} (h1 : s ∉ wS1) (h2 : s ∉ wS2) (h3 : s ∉ wS3) (h4 : s ∉ wS4) (h5 : s ∉ wS5) (h6 : s ∉ wS6) (h7 : s ∉ wS7) (h8 : s ∉ wS8) (h9 : s ∉ wS9) (h10 : s ∉ wS10) (h11 : s ∉ wS11) (h12 : s ∉ wS12) (h13 : s ∉ wS13) (h14 : s ∉ wS14) (h15 : s ∉ wS15) (h16 : s ∉ wS16) (h17 : s ∉ wS17) (h18 : s ∉ wS18) (h19 : s ∉ wS19) (h20 : s ∉ wS20) (h21 : s ∉ wS21) (h22 : s ∉ wS22) (h23 : s ∉ wS23) (h24 : s ∉ wS24) (h25 : s ∉ wS25) : actS s = 0 := by
  unfold actS tabS actIn; rw [if_neg h1, actIn, if_neg h2, actIn, if_neg h3, actIn, if_neg h4, actIn, if_neg h5, actIn, if_neg h6, actIn, if_neg h7, actIn, if_neg h8, actIn, if_neg h9, actIn, if_neg h10, actIn, if_neg h11, actIn, if_neg h12, actIn, if_neg h13, actIn, if_neg h14, actIn, if_neg h15, actIn, if_neg h16, actIn, if_neg h17, actIn, if_neg h18, actIn, if_neg h19, actIn, if_neg h20, actIn, if_neg h21, actIn, if_neg h22, actIn, if_neg h23, actIn, if_neg h24, actIn, if_neg h25, actIn]
def actE (s : Bs) : Nat := actIn s tabE 1
theorem actE_all : (List.range 8).all (fun k => (tabE.getD k []).all fun s => actE s == k + 1) = true := by decide +kernel
theorem actE_yes {s : Bs} (k : Nat) (hk : k < 8) (h : s ∈ tabE.getD k []) : actE s = k + 1 := by
  have h1 := List.all_eq_true.1 actE_all k (List.mem_range.2 hk)
  exact eq_of_beq (List.all_eq_true.1 h1 s h)
theorem actE_no {s : Bs} (h1 : s ∉ wE1) (h2 : s ∉ wE2) (h3 : s ∉ wE3) (h4 : s ∉ wE4) (h5 : s ∉ wE5) (h6 : s ∉ wE6) (h7 : s ∉ wE7) (h8 : s ∉ wE8) : actE s = 0 := by
  unfold actE tabE actIn; rw [if_neg h1, actIn, if_neg h2, actIn, if_neg h3, actIn, if_neg h4, actIn, if_neg h5, actIn, if_neg h6, actIn, if_neg h7, actIn, if_neg h8, actIn]
structure MM where
  w : WM
  mode : Int
  back : Int
  fm : Int
  skip : Bool
  read : Int
  nm : Bs
noncomputable def insW (m : WM) (t : TokP) : WM := insertM m 0 t.2.1 t.2.2.1
def popW (m : WM) : WM := closeW m ((m.op.length : Int) - 1)
def implW (m : WM) (ex : Bs) : WM := closeW m (impliedP m.op ex)
def upW (m : WM) (ns : List Bs) : WM := closeW m (untilP m.op ns)
def outW (m : WM) (ex : Bs) (ns : List Bs) : WM := upW (implW m ex) ns
def pW (m : WM) : WM := if inP m.op 2 wP = true then outW m [112] wP else m
noncomputable def emptyW (m : WM) (t : TokP) : WM := popW (insW m t)
noncomputable def blockW (m : WM) (t : TokP) : WM := insW (pW m) t
noncomputable def plainW' (m : WM) (t : TokP) : WM := insW (rebuildW m) t
noncomputable def leaveW (m : WM) (s : Bs) : WM := if (runM m s).2 = true then (runM m s).1 else closeA (runM m s).1 s
noncomputable def formatW (m : WM) (t : TokP) : WM := { insW (rebuildW m) t with mks := pushP (rebuildW m).mks (((rebuildW m).ns.length : Int), t.2.1, t.2.2.1) }
def itemN (m : WM) (ns : List Bs) : Bs := (m.op.getD (itemP m.op ns).toNat noOpen).2.2.1
def itemW (m : WM) (ns : List Bs) : WM := if 0 <= itemP m.op ns then outW m (itemN m ns) [itemN m ns] else m
def isW (m : WM) (ns : List Bs) : Bool := decide ((curM m.op).2.1 = 0) && inNames ns (curM m.op).2.2.1
def unfindW (m : WM) (id : Int) : WM := if 0 <= findP m.mks id then unmark m (findP m.mks id).toNat else m
def linkN (m : WM) (s : Bs) : Int := (m.mks.getD (lastP m.mks s).toNat noMark).1
noncomputable def unlinkW (m : WM) (s : Bs) : WM := if 0 <= lastP m.mks s then dropW (unfindW (leaveW m s) (linkN m s)) (linkN m s) else m
noncomputable def nobrW (m : WM) (s : Bs) : WM := if inP m.op 0 [s] = true then leaveW m s else m
def markerW (m : WM) : WM := { m with mks := pushP m.mks (-1, [], []) }
def clearP (l : List MarkP) : List MarkP := l.take (behind l - 1)
def freeM (m : WM) (id : Int) : Bool := decide (0 <= atO m.op id) && scopedP (m.op.drop ((atO m.op id).toNat + 1))
def headW (m : WM) : WM := if isW (pW m) wS7 = true then popW (pW m) else pW m
def optW (m : WM) : WM := if isW m [[111, 112, 116, 105, 111, 110]] = true then popW m else m
def inOut (m : WM) (sc : Int) (ex : Bs) (ns : List Bs) : WM := if inP m.op sc ns = true then outW m ex ns else m
def exR (s : Bs) : Bs := if s = [114, 112] ∨ s = [114, 116] then [114, 116, 99] else []
def wRuby : List Bs := [[114, 117, 98, 121]]
def rubyW (m : WM) (s : Bs) : WM := if inP m.op 0 wRuby = true then implW m (exR s) else m
def spaceA (s : Bs) : Int := if s = [115, 118, 103] then 1 else 2
noncomputable def alienW (m : WM) (t : TokP) : WM :=
  let m1 := insertM (rebuildW m) (spaceA t.2.1) t.2.1 t.2.2.1
  if t.2.2.2.1 = true then popW m1 else m1
abbrev tokImg (t : TokP) : TokP := (t.1, [105, 109, 103], t.2.2)
abbrev tokNm (k : Int) (s : Bs) : TokP := (k, s, [], false, [])
def MM.readsM (mm : MM) (w : WM) (t : TokP) (rd : Int) : MM := { mm with w := w, back := mm.mode, mode := 1, read := rd, nm := t.2.1 }
noncomputable def plainS (mm : MM) (t : TokP) : MM := { mm with w := if formattingP t.2.1 = true then formatW mm.w t else plainW' mm.w t }
noncomputable def formM (mm : MM) (t : TokP) : MM := if mm.fm < 0 then { mm with w := blockW mm.w t, fm := (mm.w.ns.length : Int) } else mm
noncomputable def startN (mm : MM) (t : TokP) : Nat -> MM
  | 1 => mm
  | 2 => { mm with w := emptyW mm.w t }
  | 3 => mm.readsM (insW mm.w t) t 1
  | 4 => mm.readsM (insW mm.w t) t 2
  | 5 => mm.readsM (insW mm.w t) t 3
  | 6 => { mm with w := blockW mm.w t }
  | 7 => { mm with w := insW (headW mm.w) t }
  | 8 => { mm with w := blockW mm.w t, skip := true }
  | 9 => formM mm t
  | 10 => { mm with w := blockW (itemW mm.w wS10) t }
  | 11 => { mm with w := blockW (itemW mm.w wS11) t }
  | 12 => { mm with w := blockW mm.w t, read := 4 }
  | 13 => { mm with w := plainW' (inOut mm.w 0 [] wButton) t }
  | 14 => { mm with w := formatW (unlinkW mm.w t.2.1) t }
  | 15 => { mm with w := formatW (nobrW (rebuildW mm.w) t.2.1) t }
  | 16 => { mm with w := markerW (plainW' mm.w t) }
  | 17 => { mm with w := blockW mm.w t, mode := 2 }
  | 18 => { mm with w := emptyW (rebuildW mm.w) t }
  | 19 => { mm with w := emptyW (rebuildW mm.w) (tokImg t) }
  | 20 => { mm with w := emptyW (pW mm.w) t }
  | 21 => { mm.readsM (insW mm.w t) t 1 with skip := true }
  | 22 => mm.readsM (insW (rebuildW (pW mm.w)) t) t 2
  | 23 => { mm with w := plainW' (optW mm.w) t }
  | 24 => { mm with w := insW (rubyW mm.w t.2.1) t }
  | 25 => { mm with w := alienW mm.w t }
  | _ => plainS mm t
noncomputable def startM (mm : MM) (t : TokP) : MM := startN mm t (actS t.2.1)
def endFormW (m : WM) (fm : Int) : WM := if 0 <= fm /\ freeM m fm = true then dropW (implW m []) fm else m
noncomputable def endPW (m : WM) : WM := pW (if inP m.op 2 wP = true then m else insertM m 0 [112] [])
def endObjW (m : WM) (s : Bs) : WM := if inP m.op 0 [s] = true then { outW m [] [s] with mks := clearP m.mks } else m
noncomputable def endN (m : WM) (s : Bs) (fm : Int) : Nat -> WM
  | 1 => m
  | 2 => inOut m 0 [] [s]
  | 3 => endFormW m fm
  | 4 => endPW m
  | 5 => inOut m (if s = [108, 105] then 1 else 0) s [s]
  | 6 => inOut m 0 [] wS7
  | 7 => endObjW m s
  | 8 => emptyW (rebuildW m) (tokNm 0 [98, 114])
  | _ => if formattingP s = true then leaveW m s else closeA m s
noncomputable def endM (mm : MM) (s : Bs) : MM := { mm with w := endN mm.w s mm.fm (actE s), fm := if actE s = 3 then -1 else mm.fm }
noncomputable def bodyM (mm : MM) (t : TokP) : MM :=
  if t.1 = 1 then { mm with w := writeW (rebuildW mm.w) t.2.2.2.2 }
  else if t.1 = 4 then { mm with w := noteW mm.w t.2.2.2.2 }
  else if t.1 = 2 then startM mm t
  else if t.1 = 3 then endM mm t.2.1
  else mm
noncomputable def textM (mm : MM) (t : TokP) : MM :=
  if t.1 = 1 then { mm with w := writeW mm.w t.2.2.2.2 }
  else { mm with w := popW mm.w, mode := mm.back, read := 0, nm := [] }
def nlB (mm : MM) (t : TokP) : Bool := mm.skip && (decide (t.1 = 1) && decide (t.2.2.2.2.head? = some 10))
def nlT (mm : MM) (t : TokP) : TokP := if nlB mm t = true then (t.1, t.2.1, t.2.2.1, t.2.2.2.1, t.2.2.2.2.drop 1) else t
def nlL (mm : MM) (t : TokP) : Bool := if nlB mm t = true then !decide (t.2.2.2.2.drop 1 = []) else true
def nlM (mm : MM) : MM := { mm with skip := false }
noncomputable def stepM (mm : MM) (t : TokP) : MM :=
  if nlL mm t = true then (if mm.mode = 1 then textM (nlM mm) (nlT mm t) else bodyM (nlM mm) (nlT mm t)) else nlM mm
def mm0 : MM := ⟨wm0, 0, 0, -1, false, 0, []⟩
noncomputable def playM (l : List TokP) : MM := l.foldl stepM mm0
structure MS (m : WM) (u v x : Nat) : Prop where
  A : AI m u v x
  M : MW m
theorem AI.noteA {m : WM} {u v x : Nat} (A : AI m u v x) {tx : Bs} (ht : tx.length <= 4000) : AI (noteW m tx) (u + 1) v (x + 4000) :=
  ⟨A.D.note ht, A.root, fun y hy h0 => by
    obtain ⟨z, hz, e⟩ := A.kind y hy h0
    obtain ⟨z', hz', e'⟩ := ((KeepK.addM _ _).trans (.like (put_like (A.D.G.addM 3 0 [] [] tx) _ _ _) (put_len (A.D.G.addM 3 0 [] [] tx) _ _ _)) : KeepK m.ns (noteW m tx).ns) _ z hz
    exact ⟨z', hz', e'.trans e⟩, A.mid, A.nml⟩
def TokS (t : TokP) : Prop := t.2.1.length <= 4000 /\ t.2.2.1.length <= 500 /\ (∀ a ∈ t.2.2.1, a.1.length <= 4000 /\ a.2.length <= 4000) /\ t.2.2.2.2.length <= 4000
section
variable {m : WM} {u v x u' v' x' : Nat} {t : TokP}
theorem MS.mono (s : MS m u v x) (h1 : u <= u') (h2 : v <= v') (h3 : x <= x') : MS m u' v' x' := ⟨s.A.mono h1 h2 h3, s.M⟩
theorem MS.close (s : MS m u v x) (n : Int) : MS (closeW m n) u v x := ⟨s.A.close n, s.M.close n⟩
theorem MS.pop (s : MS m u v x) : MS (popW m) u v x := s.close _
theorem MS.impl (s : MS m u v x) (ex : Bs) : MS (implW m ex) u v x := s.close _
theorem MS.out (s : MS m u v x) (ex : Bs) (ns : List Bs) : MS (outW m ex ns) u v x := (s.close _).close _
theorem MS.p (s : MS m u v x) : MS (pW m) u v x := by
  unfold pW; split
  · exact s.out _ _
  · exact s
theorem MS.inOut (s : MS m u v x) (sc : Int) (ex : Bs) (ns : List Bs) : MS (inOut m sc ex ns) u v x := by
  unfold Go.Proofs.inOut; split
  · exact s.out _ _
  · exact s
theorem MS.insert (s : MS m u v x) (sp : Int) {nm : Bs} (hn : nm.length <= 4000) (at' : List AttrP) : MS (insertM m sp nm at') (u + 1) v x := ⟨s.A.insert sp hn at', s.M.insert s.A.D.G sp nm at'⟩
theorem MS.ins (s : MS m u v x) (ht : TokS t) : MS (insW m t) (u + 1) v x := s.insert 0 ht.1 _
theorem MS.reb (s : MS m u v x) : MS (rebuildW m) (u + v) v x := ⟨s.A.rebuild, s.M.rebuild s.A⟩
theorem MS.run (s : MS m u v x) (nm : Bs) : MS (runM m nm).1 (u + 32) v x := ⟨s.A.run nm, s.M.run s.A nm⟩
theorem MS.leave (s : MS m u v x) (nm : Bs) : MS (leaveW m nm) (u + 32) v x := by
  unfold leaveW; split
  · exact s.run nm
  · exact (s.run nm).close _
theorem MS.unmark (s : MS m u v x) (k : Nat) : MS (unmark m k) u v x := ⟨s.A.unmark k, s.M.unmark k⟩
theorem MS.unfind (s : MS m u v x) (id : Int) : MS (unfindW m id) u v x := by
  unfold unfindW; split
  · exact s.unmark _
  · exact s
theorem MS.drop (s : MS m u v x) (id : Int) : MS (dropW m id) u v x := ⟨s.A.drop id, s.M.drop id⟩
theorem MS.write (s : MS m u v x) {tx : Bs} (ht : tx.length <= 4000) : MS (writeW m tx) (u + 1) v (x + 4000) := ⟨s.A.write ht, s.M.write s.A.D.G tx⟩
theorem MS.note (s : MS m u v x) {tx : Bs} (ht : tx.length <= 4000) : MS (noteW m tx) (u + 1) v (x + 4000) := ⟨s.A.noteA ht, s.M.tree rfl (by
  show _ <= (putM _ _ _ _).1.length
  rw [put_len (s.A.D.G.addM _ _ _ _ _)]
  show _ <= (m.ns ++ [_]).length
  simp)⟩
theorem MS.block (s : MS m u v x) (ht : TokS t) : MS (blockW m t) (u + 1) v x := s.p.ins ht
theorem MS.empty (s : MS m u v x) (ht : TokS t) : MS (emptyW m t) (u + 1) v x := (s.ins ht).pop
theorem MS.plain (s : MS m u v x) (ht : TokS t) : MS (plainW' m t) (u + v + 1) v x := s.reb.ins ht
theorem MS.format (s : MS m u v x) (ht : TokS t) : MS (formatW m t) (u + v + 1) (v + 1) x := by
  have s1 := s.reb.ins ht
  have hp := s.reb.A.pos
  have hl : (insW (rebuildW m) t).ns.length = (rebuildW m).ns.length + 1 := insert_lenR s.reb.A.D.G
  refine ⟨s1.A.push (y := (((rebuildW m).ns.length : Int), t.2.1, t.2.2.1)) ⟨ht.1, ht.2.1, fun a ha => (ht.2.2.1 a ha).2⟩ (by show ((rebuildW m).ns.length : Int) ≠ 0; omega), ?_⟩
  unfold MW
  show MI (pushP (rebuildW m).mks _) (insW (rebuildW m) t).ns.length
  rw [hl]
  exact MI.push s.reb.M _
theorem MS.marker (s : MS m u v x) : MS (markerW m) u (v + 1) x :=
  ⟨s.A.push (y := (-1, [], [])) ⟨by decide, by decide, fun a ha => nomatch ha⟩ (by decide), MI.marker s.M s.A.pos⟩
theorem MS.item (s : MS m u v x) (ns : List Bs) : MS (itemW m ns) u v x := by
  unfold itemW; split
  · exact s.out _ _
  · exact s
theorem MS.head (s : MS m u v x) : MS (headW m) u v x := by
  unfold headW; split
  · exact s.p.pop
  · exact s.p
theorem MS.opt (s : MS m u v x) : MS (optW m) u v x := by
  unfold optW; split
  · exact s.pop
  · exact s
theorem MS.ruby (s : MS m u v x) (n : Bs) : MS (rubyW m n) u v x := by
  unfold rubyW; split
  · exact s.impl _
  · exact s
theorem MS.unlink (s : MS m u v x) (n : Bs) : MS (unlinkW m n) (u + 32) v x := by
  unfold unlinkW; split
  · exact ((s.leave n).unfind _).drop _
  · exact s.mono (by omega) (Nat.le_refl _) (Nat.le_refl _)
theorem MS.nobr (s : MS m u v x) (n : Bs) : MS (nobrW m n) (u + 32) v x := by
  unfold nobrW; split
  · exact s.leave n
  · exact s.mono (by omega) (Nat.le_refl _) (Nat.le_refl _)
theorem MS.alien (s : MS m u v x) (ht : TokS t) : MS (alienW m t) (u + v + 1) v x := by
  unfold alienW; simp only []; split
  · exact (s.reb.insert _ ht.1 _).pop
  · exact s.reb.insert _ ht.1 _
theorem MS.clear (s : MS m u v x) : MS { m with mks := clearP m.mks } u v x :=
  ⟨s.A.marks (Nat.le_trans (List.take_sublist _ _).length_le s.A.D.ml) (fun y hy => s.A.D.mw y (List.mem_of_mem_take hy)) fun y hy => s.A.mid y (List.mem_of_mem_take hy), MI.sub s.M (List.take_sublist _ _)⟩
end
structure MQ (mm : MM) (u v x : Nat) : Prop where
  s : MS mm.w u v x
  f0 : -1 <= mm.fm
  f1 : mm.fm <= (u : Int)
  mo : Rng .u8 mm.mode
  ba : Rng .u8 mm.back
  rd : Rng .u8 mm.read
  nl : mm.nm.length <= 4000
theorem rng_u8 {i : Int} (h0 : 0 <= i) (h1 : i <= 255) : Rng .u8 i := ⟨h0, h1⟩
section
variable {mm : MM} {u v x u' v' x' : Nat} {t : TokP} {m2 : WM}
theorem MQ.mono (q : MQ mm u v x) (h1 : u <= u') (h2 : v <= v') (h3 : x <= x') : MQ mm u' v' x' := ⟨q.s.mono h1 h2 h3, q.f0, by have := q.f1; omega, q.mo, q.ba, q.rd, q.nl⟩
theorem MQ.ww (q : MQ mm u v x) (s : MS m2 u' v' x') (hu : u <= u') : MQ { mm with w := m2 } u' v' x' := ⟨s, q.f0, by have := q.f1; show mm.fm <= _; omega, q.mo, q.ba, q.rd, q.nl⟩
theorem MQ.reads (q : MQ mm u v x) (s : MS m2 u' v' x') (hu : u <= u') (ht : TokS t) {rd : Int} (hr : Rng .u8 rd) : MQ (mm.readsM m2 t rd) u' v' x' := ⟨s, q.f0, by have := q.f1; show mm.fm <= _; omega, rng_u8 (i := 1) (by decide) (by decide), q.mo, hr, ht.1⟩
theorem MQ.zero : MQ mm0 1 0 0 := ⟨⟨AI.zero, MW.zero⟩, by decide, by decide, rng_u8 (i := 0) (by decide) (by decide), rng_u8 (i := 0) (by decide) (by decide), rng_u8 (i := 0) (by decide) (by decide), by decide⟩
theorem MQ.start (q : MQ mm u v x) (ht : TokS t) : MQ (startM mm t) (u + 2 * v + 40) (v + 1) x := by
  have s := q.s
  have mk : ∀ {m2 : WM} {u1 v1 x1 : Nat}, MS m2 u1 v1 x1 -> u1 <= u + 2 * v + 40 -> v1 <= v + 1 -> x1 <= x -> MS m2 (u + 2 * v + 40) (v + 1) x := fun s h1 h2 h3 => s.mono h1 h2 h3
  have ww : ∀ {m2 : WM} {u1 v1 x1 : Nat}, MS m2 u1 v1 x1 -> u1 <= u + 2 * v + 40 -> v1 <= v + 1 -> x1 <= x -> MQ { mm with w := m2 } (u + 2 * v + 40) (v + 1) x := fun s h1 h2 h3 => q.ww (mk s h1 h2 h3) (by omega)
  have rr : ∀ {m2 : WM} {u1 v1 x1 : Nat} {rd : Int}, MS m2 u1 v1 x1 -> u1 <= u + 2 * v + 40 -> v1 <= v + 1 -> x1 <= x -> Rng .u8 rd -> MQ (mm.readsM m2 t rd) (u + 2 * v + 40) (v + 1) x := fun s h1 h2 h3 hr => q.reads (mk s h1 h2 h3) (by omega) ht hr
  have hi : TokS (tokImg t) := ⟨(by decide : ([105, 109, 103] : Bs).length <= 4000), ht.2⟩
  unfold startM
  generalize actS t.2.1 = k
  unfold startN
  split
  · exact q.mono (by omega) (by omega) (by omega)
  · exact ww (s.empty ht) (by omega) (by omega) (by omega)
  · exact rr (s.ins ht) (by omega) (by omega) (by omega) (rng_u8 (by decide) (by decide))
  · exact rr (s.ins ht) (by omega) (by omega) (by omega) (rng_u8 (by decide) (by decide))
  · exact rr (s.ins ht) (by omega) (by omega) (by omega) (rng_u8 (by decide) (by decide))
  · exact ww (s.block ht) (by omega) (by omega) (by omega)
  · exact ww (s.head.ins ht) (by omega) (by omega) (by omega)
  · have := ww (s.block ht) (by omega) (by omega) (by omega)
    exact ⟨this.s, this.f0, this.f1, this.mo, this.ba, this.rd, this.nl⟩
  · unfold formM
    split
    · have := ww (s.block ht) (by omega) (by omega) (by omega)
      have hl := s.A.D.ln
      exact ⟨this.s, by show (-1 : Int) <= (mm.w.ns.length : Int); omega, by show (mm.w.ns.length : Int) <= _; omega, this.mo, this.ba, this.rd, this.nl⟩
    · exact q.mono (by omega) (by omega) (by omega)
  · exact ww ((s.item _).block ht) (by omega) (by omega) (by omega)
  · exact ww ((s.item _).block ht) (by omega) (by omega) (by omega)
  · have := ww (s.block ht) (by omega) (by omega) (by omega)
    exact ⟨this.s, this.f0, this.f1, this.mo, this.ba, rng_u8 (i := 4) (by decide) (by decide), this.nl⟩
  · exact ww ((s.inOut _ _ _).plain ht) (by omega) (by omega) (by omega)
  · exact ww ((s.unlink _).format ht) (by omega) (by omega) (by omega)
  · exact ww ((s.reb.nobr _).format ht) (by omega) (by omega) (by omega)
  · exact ww ((s.plain ht).marker) (by omega) (by omega) (by omega)
  · have := ww (s.block ht) (by omega) (by omega) (by omega)
    exact ⟨this.s, this.f0, this.f1, rng_u8 (i := 2) (by decide) (by decide), this.ba, this.rd, this.nl⟩
  · exact ww (s.reb.empty ht) (by omega) (by omega) (by omega)
  · exact ww (s.reb.empty hi) (by omega) (by omega) (by omega)
  · exact ww (s.p.empty ht) (by omega) (by omega) (by omega)
  · have := rr (s.ins ht) (by omega) (by omega) (by omega) (rd := 1) (rng_u8 (by decide) (by decide))
    exact ⟨this.s, this.f0, this.f1, this.mo, this.ba, this.rd, this.nl⟩
  · exact rr (s.p.reb.ins ht) (by omega) (by omega) (by omega) (rng_u8 (by decide) (by decide))
  · exact ww (s.opt.plain ht) (by omega) (by omega) (by omega)
  · exact ww ((s.ruby _).ins ht) (by omega) (by omega) (by omega)
  · exact ww (s.alien ht) (by omega) (by omega) (by omega)
  · unfold plainS
    split
    · exact ww (s.format ht) (by omega) (by omega) (by omega)
    · exact ww (s.plain ht) (by omega) (by omega) (by omega)
theorem MS.endN {m : WM} {s : Bs} (q : MS m u v x) (fm : Int) (k : Nat) : MS (endN m s fm k) (u + 2 * v + 40) (v + 1) x := by
  have mk : ∀ {m2 : WM} {u1 v1 x1 : Nat}, MS m2 u1 v1 x1 -> u1 <= u + 2 * v + 40 -> v1 <= v + 1 -> x1 <= x -> MS m2 (u + 2 * v + 40) (v + 1) x := fun s h1 h2 h3 => s.mono h1 h2 h3
  unfold Go.Proofs.endN
  split
  · exact mk q (by omega) (by omega) (by omega)
  · exact mk (q.inOut _ _ _) (by omega) (by omega) (by omega)
  · unfold endFormW; split
    · exact mk ((q.impl _).drop _) (by omega) (by omega) (by omega)
    · exact mk q (by omega) (by omega) (by omega)
  · unfold endPW; split
    · exact mk q.p (by omega) (by omega) (by omega)
    · exact mk (q.insert 0 (nm := [112]) (by decide) []).p (by omega) (by omega) (by omega)
  · exact mk (q.inOut _ _ _) (by omega) (by omega) (by omega)
  · exact mk (q.inOut _ _ _) (by omega) (by omega) (by omega)
  · unfold endObjW; split
    · exact mk (q.out [] [s]).clear (by omega) (by omega) (by omega)
    · exact mk q (by omega) (by omega) (by omega)
  · exact mk (q.reb.empty (t := tokNm 0 [98, 114]) ⟨by decide, by decide, (fun a ha => nomatch ha), by decide⟩) (by omega) (by omega) (by omega)
  · split
    · exact mk (q.leave _) (by omega) (by omega) (by omega)
    · exact mk (q.close _) (by omega) (by omega) (by omega)
theorem MQ.fin (q : MQ mm u v x) (s : Bs) : MQ (endM mm s) (u + 2 * v + 40) (v + 1) x := by
  have h := q.s.endN (s := s) mm.fm (actE s)
  have f0 := q.f0
  have f1 := q.f1
  refine ⟨h, ?_, ?_, q.mo, q.ba, q.rd, q.nl⟩
  · show -1 <= (if actE s = 3 then -1 else mm.fm); split <;> omega
  · show (if actE s = 3 then -1 else mm.fm) <= _; split <;> omega
theorem MQ.body (q : MQ mm u v x) (ht : TokS t) : MQ (bodyM mm t) (u + 2 * v + 40) (v + 1) (x + 4000) := by
  unfold bodyM
  split
  · exact (q.ww (u' := u + v + 1) (q.s.reb.write ht.2.2.2) (by omega)).mono (by omega) (by omega) (by omega)
  · split
    · exact (q.ww (u' := u + 1) (q.s.note ht.2.2.2) (by omega)).mono (by omega) (by omega) (by omega)
    · split
      · exact (q.start ht).mono (by omega) (by omega) (by omega)
      · split
        · exact (q.fin _).mono (by omega) (by omega) (by omega)
        · exact q.mono (by omega) (by omega) (by omega)
theorem MQ.text (q : MQ mm u v x) (ht : TokS t) : MQ (textM mm t) (u + 1) v (x + 4000) := by
  unfold textM
  split
  · exact q.ww (q.s.write ht.2.2.2) (by omega)
  · have := q.ww q.s.pop (Nat.le_refl _)
    exact MQ.mono ⟨this.s, this.f0, this.f1, q.ba, q.ba, rng_u8 (i := 0) (by decide) (by decide), (by decide : ([] : Bs).length <= 4000)⟩ (by omega) (by omega) (by omega)
theorem MQ.nl2 (q : MQ mm u v x) : MQ (nlM mm) u v x := ⟨q.s, q.f0, q.f1, q.mo, q.ba, q.rd, q.nl⟩
theorem nlT_s (ht : TokS t) : TokS (nlT mm t) := by
  unfold nlT; split
  · refine ⟨ht.1, ht.2.1, ht.2.2.1, ?_⟩
    show (t.2.2.2.2.drop 1).length <= 4000
    have := ht.2.2.2
    rw [List.length_drop]; omega
  · exact ht
theorem MQ.step (q : MQ mm u v x) (ht : TokS t) : MQ (stepM mm t) (u + 2 * v + 40) (v + 1) (x + 4000) := by
  unfold stepM
  split
  · split
    · exact (q.nl2.text (nlT_s ht)).mono (by omega) (by omega) (by omega)
    · exact q.nl2.body (nlT_s ht)
  · exact q.nl2.mono (by omega) (by omega) (by omega)
end
end Go.Proofs
namespace Go.Proofs
open Go Go.Sh
set_option linter.unusedVariables false
set_option maxRecDepth 100000
def MG (m0 m : WM) : Prop := UP m0 m /\ ∃ u v x, MS m u v x
section
variable {m0 m : WM} {t : TokP}
theorem MG.of (g : MG m0 m) {m' : WM} (h : ∀ u v x, CH m -> MS m u v x -> UP m m' /\ ∃ u v x, MS m' u v x) : MG m0 m' := by
  obtain ⟨U, u, v, x, s⟩ := g
  obtain ⟨U2, s2⟩ := h u v x U.c s
  exact ⟨U.trans U2, s2⟩
theorem MG.close (g : MG m0 m) (n : Int) : MG m0 (closeW m n) := g.of fun u v x c s => ⟨UP.close c n, u, v, x, s.close n⟩
theorem MG.pop (g : MG m0 m) : MG m0 (popW m) := g.close _
theorem MG.impl (g : MG m0 m) (ex : Bs) : MG m0 (implW m ex) := g.close _
theorem MG.out (g : MG m0 m) (ex : Bs) (ns : List Bs) : MG m0 (outW m ex ns) := (g.close _).close _
theorem MG.p (g : MG m0 m) : MG m0 (pW m) := by
  unfold pW; split
  · exact g.out _ _
  · exact g
theorem MG.inOut (g : MG m0 m) (sc : Int) (ex : Bs) (ns : List Bs) : MG m0 (inOut m sc ex ns) := by
  unfold Go.Proofs.inOut; split
  · exact g.out _ _
  · exact g
theorem MG.insert (g : MG m0 m) (sp : Int) {nm : Bs} (hn : nm.length <= 4000) (at' : List AttrP) : MG m0 (insertM m sp nm at') := g.of fun u v x c s => ⟨UP.insert c s.A sp nm at', _, _, _, s.insert sp hn at'⟩
theorem MG.ins (g : MG m0 m) (ht : TokS t) : MG m0 (insW m t) := g.insert 0 ht.1 _
theorem MG.reb (g : MG m0 m) : MG m0 (rebuildW m) := g.of fun u v x c s => ⟨UP.rebuild c s.A, _, _, _, s.reb⟩
theorem MG.leave (g : MG m0 m) (nm : Bs) : MG m0 (leaveW m nm) := by
  have h : MG m0 (runM m nm).1 := g.of fun u v x c s => ⟨UP.run c s.A nm, _, _, _, s.run nm⟩
  unfold leaveW; split
  · exact h
  · exact h.close _
theorem MG.unfind (g : MG m0 m) (id : Int) : MG m0 (unfindW m id) := by
  unfold unfindW; split
  · exact g.of fun u v x c s => ⟨UP.unmark c _, _, _, _, s.unmark _⟩
  · exact g
theorem MG.drop (g : MG m0 m) (id : Int) : MG m0 (dropW m id) := g.of fun u v x c s => ⟨UP.drop c id, _, _, _, s.drop id⟩
theorem MG.write (g : MG m0 m) {tx : Bs} (ht : tx.length <= 4000) : MG m0 (writeW m tx) := g.of fun u v x c s => ⟨UP.write c s.A tx, _, _, _, s.write ht⟩
theorem MG.note (g : MG m0 m) {tx : Bs} (ht : tx.length <= 4000) : MG m0 (noteW m tx) := g.of fun u v x c s => ⟨UP.note c s.A tx, _, _, _, s.note ht⟩
theorem MG.block (g : MG m0 m) (ht : TokS t) : MG m0 (blockW m t) := g.p.ins ht
theorem MG.empty (g : MG m0 m) (ht : TokS t) : MG m0 (emptyW m t) := (g.ins ht).pop
theorem MG.plain (g : MG m0 m) (ht : TokS t) : MG m0 (plainW' m t) := g.reb.ins ht
theorem MG.format (g : MG m0 m) (ht : TokS t) : MG m0 (formatW m t) := g.of fun u v x c s => by
  have U := UP.rebuild c s.A
  have U2 := U.trans (UP.insert U.c s.reb.A 0 t.2.1 t.2.2.1)
  exact ⟨U2.trans (UP.mks U2.c _), _, _, _, s.format ht⟩
theorem MG.marker (g : MG m0 m) : MG m0 (markerW m) := g.of fun u v x c s => ⟨UP.mks c _, _, _, _, s.marker⟩
theorem MG.item (g : MG m0 m) (ns : List Bs) : MG m0 (itemW m ns) := by
  unfold itemW; split
  · exact g.out _ _
  · exact g
theorem MG.head (g : MG m0 m) : MG m0 (headW m) := by
  unfold headW; split
  · exact g.p.pop
  · exact g.p
theorem MG.opt (g : MG m0 m) : MG m0 (optW m) := by
  unfold optW; split
  · exact g.pop
  · exact g
theorem MG.ruby (g : MG m0 m) (n : Bs) : MG m0 (rubyW m n) := by
  unfold rubyW; split
  · exact g.impl _
  · exact g
theorem MG.unlink (g : MG m0 m) (n : Bs) : MG m0 (unlinkW m n) := by
  unfold unlinkW; split
  · exact ((g.leave n).unfind _).drop _
  · exact g
theorem MG.nobr (g : MG m0 m) (n : Bs) : MG m0 (nobrW m n) := by
  unfold nobrW; split
  · exact g.leave n
  · exact g
theorem MG.alien (g : MG m0 m) (ht : TokS t) : MG m0 (alienW m t) := by
  unfold alienW; simp only []; split
  · exact (g.reb.insert _ ht.1 _).pop
  · exact g.reb.insert _ ht.1 _
theorem MG.start {mm : MM} (g : MG m0 mm.w) (ht : TokS t) : MG m0 (startM mm t).w := by
  have hi : TokS (tokImg t) := ⟨(by decide : ([105, 109, 103] : Bs).length <= 4000), ht.2⟩
  unfold startM
  generalize actS t.2.1 = k
  unfold startN
  split
  · exact g
  · exact g.empty ht
  · exact g.ins ht
  · exact g.ins ht
  · exact g.ins ht
  · exact g.block ht
  · exact g.head.ins ht
  · exact g.block ht
  · unfold formM
    split
    · exact g.block ht
    · exact g
  · exact (g.item _).block ht
  · exact (g.item _).block ht
  · exact g.block ht
  · exact (g.inOut _ _ _).plain ht
  · exact (g.unlink _).format ht
  · exact (g.reb.nobr _).format ht
  · exact (g.plain ht).marker
  · exact g.block ht
  · exact g.reb.empty ht
  · exact g.reb.empty hi
  · exact g.p.empty ht
  · exact g.ins ht
  · exact g.p.reb.ins ht
  · exact g.opt.plain ht
  · exact (g.ruby _).ins ht
  · exact g.alien ht
  · unfold plainS
    split
    · exact g.format ht
    · exact g.plain ht
theorem MG.endN {s : Bs} (g : MG m0 m) (fm : Int) (k : Nat) : MG m0 (endN m s fm k) := by
  unfold Go.Proofs.endN
  split
  · exact g
  · exact g.inOut _ _ _
  · unfold endFormW; split
    · exact (g.impl _).drop _
    · exact g
  · unfold endPW; split
    · exact g.p
    · exact (g.insert 0 (nm := [112]) (by decide) []).p
  · exact g.inOut _ _ _
  · exact g.inOut _ _ _
  · unfold endObjW; split
    · exact (g.out [] [s]).of fun u v x c s => ⟨UP.mks c _, _, _, _, s.clear⟩
    · exact g
  · exact g.reb.empty (t := tokNm 0 [98, 114]) ⟨by decide, by decide, (fun a ha => nomatch ha), by decide⟩
  · split
    · exact g.leave _
    · exact g.close _
theorem MG.body {mm : MM} (g : MG m0 mm.w) (ht : TokS t) : MG m0 (bodyM mm t).w := by
  unfold bodyM
  split
  · exact g.reb.write ht.2.2.2
  · split
    · exact g.note ht.2.2.2
    · split
      · exact g.start ht
      · split
        · exact g.endN _ _
        · exact g
theorem MG.text {mm : MM} (g : MG m0 mm.w) (ht : TokS t) : MG m0 (textM mm t).w := by
  unfold textM
  split
  · exact g.write ht.2.2.2
  · exact g.pop
theorem MG.step {mm : MM} (g : MG m0 mm.w) (ht : TokS t) : MG m0 (stepM mm t).w := by
  unfold stepM
  split
  · split
    · exact MG.text (mm := nlM mm) g (nlT_s ht)
    · exact MG.body (mm := nlM mm) g (nlT_s ht)
  · exact g
theorem MG.fold : ∀ {l : List TokP} {mm : MM}, MG m0 mm.w -> (∀ t ∈ l, TokS t) -> MG m0 (l.foldl stepM mm).w
  | [], mm, g, _ => g
  | t :: l, mm, g, h => MG.fold (l := l) (g.step (h t (List.mem_cons_self ..))) fun y hy => h y (List.mem_cons_of_mem _ hy)
theorem CH.zero : CH wm0 := ⟨rfl, List.pairwise_singleton _ _⟩
theorem MG.zero : MG wm0 mm0.w := ⟨UP.refl CH.zero, _, _, _, (MQ.zero).s⟩
theorem play_up {l : List TokP} (hl : ∀ t ∈ l, TokS t) (n : Nat) : MG (playM (l.take n)).w (playM l).w := by
  have h1 : MG wm0 (playM (l.take n)).w := MG.fold MG.zero fun t ht => hl t (List.mem_of_mem_take ht)
  have h2 : MG (playM (l.take n)).w (playM (l.take n)).w := ⟨UP.refl h1.1.c, h1.2⟩
  have e : playM l = (l.drop n).foldl stepM (playM (l.take n)) := by
    unfold playM
    rw [<- List.foldl_append, List.take_append_drop]
  rw [e]
  exact MG.fold h2 fun t ht => hl t (List.mem_of_mem_drop ht)
end
end Go.Proofs
namespace Go.Proofs
open Go Go.Sh
set_option linter.unusedVariables false
set_option maxRecDepth 100000
def wtV (y : NodeV) : Nat := if y.kind = 2 then y.text.length else 1
def szD : Nat -> List NodeV -> Nat
  | 0, _ => 0
  | d + 1, l => (l.map fun y => szD d y.kids + wtV y).sum
def wtI (ns : List NodeM) (k : Int) : Nat := ((ns[k.toNat]?).map fun z => if z.kind = 2 then z.text.length else 1).getD 1
def flatI : Nat -> List NodeM -> Int -> List Int
  | 0, _, _ => []
  | d + 1, ns, id => (kidsI ns id).flatMap fun k => k :: flatI d ns k
theorem sum_app {α : Type} (f : α -> Nat) (a b : List α) : ((a ++ b).map f).sum = (a.map f).sum + (b.map f).sum := by rw [List.map_append, List.sum_append]
theorem sum_flat {α β : Type} (f : β -> Nat) (F : α -> List β) : ∀ l : List α, ((l.flatMap F).map f).sum = (l.map fun a => ((F a).map f).sum).sum
  | [] => rfl
  | a :: l => by rw [List.flatMap_cons, sum_app, sum_flat f F l, List.map_cons, List.sum_cons]
theorem kidsI_none {ns : List NodeM} {k : Int} (h : ns[k.toNat]? = none) : kidsI ns k = [] := by
  unfold kidsI; split
  · rw [h]; rfl
  · rfl
theorem flatI_none {ns : List NodeM} {k : Int} (h : ns[k.toNat]? = none) : ∀ d, flatI d ns k = []
  | 0 => rfl
  | d + 1 => by unfold flatI; rw [kidsI_none h]; rfl
theorem szD_nil : ∀ d, szD d [] = 0
  | 0 => rfl
  | _ + 1 => rfl
theorem sz_whole (ns : List NodeM) : ∀ (d : Nat) (id : Int), szD d (wholeL d ns id) = ((flatI d ns id).map (wtI ns)).sum
  | 0, _ => rfl
  | d + 1, id => by
    unfold szD wholeL flatI
    rw [List.map_map, sum_flat]
    congr 1
    refine List.map_congr_left fun k _ => ?_
    show szD d (nodeVI ns k (wholeL d ns k)).kids + wtV (nodeVI ns k (wholeL d ns k)) = ((k :: flatI d ns k).map (wtI ns)).sum
    rw [List.map_cons, List.sum_cons]
    cases h : ns[k.toNat]? with
    | none =>
      rw [flatI_none h]
      unfold nodeVI wtI
      rw [h]
      show szD d [] + 1 = 1 + 0
      rw [szD_nil]
    | some z =>
      rw [<- sz_whole ns d k]
      unfold nodeVI wtI
      rw [h]
      show szD d (wholeL d ns k) + (if z.kind = 2 then z.text.length else 1) = (if z.kind = 2 then z.text.length else 1) + szD d (wholeL d ns k)
      omega
section
variable {ns : List NodeM} {a b c : Int}
theorem inC_cmp (h : InC ns a b) : InC ns a c -> InC ns b c ∨ InC ns c b := by
  refine inC_ind (P := fun a => InC ns a c -> InC ns b c ∨ InC ns c b) h (fun k => .inl k) fun i h1 h2 k => ?_
  rcases inC_step.1 k with e | k
  · subst e; exact .inr (inC_up h1)
  · exact h2 k
theorem kid_iff (G : GoodT ns) {id k : Int} : k ∈ kidsI ns id ↔ 0 <= id /\ 0 <= k /\ parI ns k = id := by
  constructor
  · intro h
    unfold kidsI at h
    split at h
    · rename_i h0
      cases hz : ns[id.toNat]? with
      | none => rw [hz] at h; cases h
      | some z =>
        rw [hz] at h
        obtain ⟨j, y, rfl, hy, hp⟩ := (G.kid _ z k hz).1 h
        exact ⟨h0, by omega, by rw [parI_some hy, hp]; omega⟩
    · cases h
  · rintro ⟨h0, hk, hp⟩
    obtain ⟨j, rfl⟩ := Int.eq_ofNat_of_zero_le hk
    cases hy : ns[j]? with
    | none => rw [parI_none hy] at hp; omega
    | some y =>
      rw [parI_some hy] at hp
      have hr := G.par j y hy
      have hl : id.toNat < ns.length := by omega
      have hz : ns[id.toNat]? = some ns[id.toNat] := List.getElem?_eq_getElem hl
      unfold kidsI
      rw [if_pos h0, hz]
      exact (G.kid _ _ _ hz).2 ⟨j, y, rfl, hy, by omega⟩
theorem flat_sub (G : GoodT ns) : ∀ (d : Nat) (id x : Int), x ∈ flatI d ns id -> InC ns x id /\ x ≠ id
  | 0, _, _, h => by cases h
  | d + 1, id, x, h => by
    unfold flatI at h
    obtain ⟨k, hk, hx⟩ := List.mem_flatMap.1 h
    obtain ⟨h0, h1, hp⟩ := (kid_iff G).1 hk
    obtain ⟨j, rfl⟩ := Int.eq_ofNat_of_zero_le h1
    have hki : InC ns (j : Int) id := inC_up (by rw [hp]; exact inC_self h0)
    have hxk : InC ns x (j : Int) := by
      rcases List.mem_cons.1 hx with e | hx
      · rw [e]; exact inC_self h1
      · exact (flat_sub G d _ x hx).1
    refine ⟨inC_trans hxk hki, fun e => ?_⟩
    rw [e] at hxk
    exact no_self G j (by rw [hp]; exact hxk)
theorem flat_all (G : GoodT ns) : ∀ (d : Nat) (id x : Int), Deep d ns id -> InC ns x id -> x ≠ id -> x ∈ flatI d ns id
  | 0, _, _, h, _, _ => h.elim
  | d + 1, id, x, hd, h, hne => by
    have key : x = id ∨ ∃ k, k ∈ kidsI ns id /\ InC ns x k := by
      refine inC_ind (P := fun x => x = id ∨ ∃ k, k ∈ kidsI ns id /\ InC ns x k) h (.inl rfl) fun i h1 h2 => .inr ?_
      rcases h2 with h2 | ⟨k, hk, h2⟩
      · exact ⟨i, (kid_iff G).2 ⟨(inC_nn h).2, by omega, h2⟩, inC_self (by omega)⟩
      · exact ⟨k, hk, inC_up h2⟩
    obtain ⟨k, hk, hx⟩ := key.resolve_left hne
    unfold flatI
    refine List.mem_flatMap.2 ⟨k, hk, ?_⟩
    by_cases e : x = k
    · rw [e]; exact List.mem_cons_self ..
    · exact List.mem_cons_of_mem _ (flat_all G d k x (hd k hk) hx e)
theorem nodup_flat {F : Int -> List Int} : ∀ {l : List Int}, l.Nodup -> (∀ k ∈ l, (F k).Nodup) -> (∀ k ∈ l, ∀ k' ∈ l, k ≠ k' -> ∀ x ∈ F k, x ∉ F k') -> (l.flatMap F).Nodup
  | [], _, _, _ => List.nodup_nil
  | k :: l, hn, h1, h2 => by
    rw [List.nodup_cons] at hn
    rw [List.flatMap_cons]
    refine List.nodup_append.2 ⟨h1 k (List.mem_cons_self ..), nodup_flat hn.2 (fun k' hk => h1 k' (List.mem_cons_of_mem _ hk)) (fun a ha b hb => h2 a (List.mem_cons_of_mem _ ha) b (List.mem_cons_of_mem _ hb)), fun x hx y hy e => ?_⟩
    subst e
    obtain ⟨k', hk', hy⟩ := List.mem_flatMap.1 hy
    exact h2 k (List.mem_cons_self ..) k' (List.mem_cons_of_mem _ hk') (fun e => hn.1 (e ▸ hk')) x hx hy
theorem kidsI_nodup (G : GoodT ns) (id : Int) : (kidsI ns id).Nodup := by
  unfold kidsI; split
  · cases hz : ns[id.toNat]? with
    | none => exact List.nodup_nil
    | some z => exact G.nodup _ z hz
  · exact List.nodup_nil
theorem flat_nodup (G : GoodT ns) : ∀ (d : Nat) (id : Int), (flatI d ns id).Nodup
  | 0, _ => List.nodup_nil
  | d + 1, id => by
    unfold flatI
    have up : ∀ k x, x ∈ k :: flatI d ns k -> k ∈ kidsI ns id -> InC ns x k := fun k x hx hk => by
      rcases List.mem_cons.1 hx with e | hx
      · rw [e]; exact inC_self ((kid_iff G).1 hk).2.1
      · exact (flat_sub G d k x hx).1
    refine nodup_flat (kidsI_nodup G id) (fun k hk => List.nodup_cons.2 ⟨fun h => (flat_sub G d k k h).2 rfl, flat_nodup G d k⟩) fun k hk k' hk' hne x hx hx' => ?_
    have one : ∀ k k', k ∈ kidsI ns id -> k' ∈ kidsI ns id -> k ≠ k' -> ¬ InC ns k k' := fun k k' hk hk' hne h => by
      obtain ⟨h0, h1, hp⟩ := (kid_iff G).1 hk
      obtain ⟨_, h1', hp'⟩ := (kid_iff G).1 hk'
      obtain ⟨j, rfl⟩ := Int.eq_ofNat_of_zero_le h1
      obtain ⟨j', rfl⟩ := Int.eq_ofNat_of_zero_le h1'
      rcases inC_step.1 h with e | h
      · exact hne e.symm
      · rw [hp, <- hp'] at h
        exact no_self G j' h
    rcases inC_cmp (up k x hx hk) (up k' x hx' hk') with h | h
    · exact one k k' hk hk' hne h
    · exact one k' k hk' hk (Ne.symm hne) h
theorem sum_erase {g : Int -> Nat} {x : Int} : ∀ {l : List Int}, x ∈ l -> (l.map g).sum = g x + ((l.erase x).map g).sum
  | [], h => by cases h
  | y :: l, h => by
    by_cases e : y = x
    · subst e
      rw [List.erase_cons_head, List.map_cons, List.sum_cons]
    · rw [List.erase_cons_tail (by simpa using e), List.map_cons, List.sum_cons, List.map_cons, List.sum_cons, sum_erase ((List.mem_cons.1 h).resolve_left (Ne.symm e))]
      omega
theorem sum_le {f g : Int -> Nat} : ∀ {l l' : List Int}, l.Nodup -> (∀ x ∈ l, x ∈ l' /\ f x <= g x) -> (l.map f).sum <= (l'.map g).sum
  | [], _, _, _ => Nat.zero_le _
  | x :: l, l', hn, h => by
    rw [List.nodup_cons] at hn
    obtain ⟨h1, h2⟩ := h x (List.mem_cons_self ..)
    rw [List.map_cons, List.sum_cons, sum_erase h1]
    have := sum_le (f := f) (g := g) (l := l) (l' := l'.erase x) hn.2 fun y hy => ⟨(List.mem_erase_of_ne fun e : y = x => hn.1 (by rw [<- e]; exact hy)).2 (h y (List.mem_cons_of_mem _ hy)).1, (h y (List.mem_cons_of_mem _ hy)).2⟩
    omega
end
theorem MG.size {m m' : WM} (g : MG m m') (G : GoodT m.ns) {d d' : Nat} (hd' : Deep d' m'.ns 0) : szD d (wholeL d m.ns 0) <= szD d' (wholeL d' m'.ns 0) := by
  obtain ⟨U, u, v, x, s⟩ := g
  rw [sz_whole, sz_whole]
  refine sum_le (flat_nodup G d 0) fun y hy => ?_
  obtain ⟨h1, h2⟩ := flat_sub G d 0 y hy
  refine ⟨flat_all s.A.D.G d' 0 y hd' (U.at' y h1) h2, ?_⟩
  unfold wtI
  cases hz : m.ns[y.toNat]? with
  | none => 
    rcases inC_range G h1 with e | e
    · exact absurd e h2
    · exfalso
      have hn := (inC_nn h1).1
      obtain ⟨j, rfl⟩ := Int.eq_ofNat_of_zero_le hn
      rw [Int.toNat_natCast] at hz
      rcases inC_step.1 h1 with e | h
      · exact h2 e.symm
      · rw [parI_none hz] at h
        exact inC_neg (by decide) h
  | some z =>
    obtain ⟨z', hz', ek, el⟩ := U.w _ z hz
    rw [hz']
    show (if z.kind = 2 then z.text.length else 1) <= (if z'.kind = 2 then z'.text.length else 1)
    rw [ek]
    split <;> omega
theorem size_max {m : WM} {u v x : Nat} (s : MS m u v x) (hx : 1 <= x) (d : Nat) : szD d (wholeL d m.ns 0) <= u * x := by
  rw [sz_whole]
  have hl : (flatI d m.ns 0).length <= u := by
    refine Nat.le_trans (few_ints m.ns.length _ (flat_nodup s.A.D.G d 0) fun y hy => ?_) s.A.D.ln
    obtain ⟨h1, h2⟩ := flat_sub s.A.D.G d 0 y hy
    have hn := (inC_nn h1).1
    obtain ⟨j, rfl⟩ := Int.eq_ofNat_of_zero_le hn
    refine ⟨hn, ?_⟩
    rcases inC_step.1 h1 with e | h
    · exact absurd e.symm h2
    · cases hz : m.ns[j]? with
      | none => rw [parI_none hz] at h; exact absurd h (inC_neg (by decide))
      | some z => have := getI hz; omega
  have key : ∀ l : List Int, (l.map (wtI m.ns)).sum <= l.length * x := fun l => by
    induction l with
    | nil => exact Nat.zero_le _
    | cons y l ih =>
      rw [List.map_cons, List.sum_cons, List.length_cons, Nat.add_mul]
      have : wtI m.ns y <= x := by
        unfold wtI
        cases hz : m.ns[y.toNat]? with
        | none => exact hx
        | some z =>
          have := s.A.D.tx _ z hz
          show (if z.kind = 2 then z.text.length else 1) <= x
          split <;> omega
      omega
  exact Nat.le_trans (key _) (Nat.mul_le_mul_right x hl)
end Go.Proofs
