/- place: Rebuild, Drop. No condition but that the tree is one and the library's variable holds a number. -/
import Derived.Test.YtmnjhhgdhlgjfaaGreatPcM
namespace Go.Proofs
open Go Go.Sh
set_option linter.unusedVariables false
set_option maxRecDepth 100000
/-! ### plain -/
abbrev noMark : MarkP := (0, [], [])
theorem lostTo_rng (l : List MarkP) (o : List OpenP) : ∀ i : Nat, 0 ≤ lostTo l o i ∧ lostTo l o i ≤ (i : Int)
  | 0 => ⟨Int.le_refl _, Int.le_refl _⟩
  | i + 1 => by
    unfold lostTo
    have := lostTo_rng l o i
    split
    · omega
    · omega
noncomputable def rebN : Nat → WM → Nat → WM
  | 0, m, _ => m
  | k + 1, m, i => rebN k { insertM m 0 (m.mks.getD i noMark).2.1 (m.mks.getD i noMark).2.2 with mks := m.mks.set i ((m.ns.length : Int), (m.mks.getD i noMark).2) } (i + 1)
noncomputable def rebuildW (m : WM) : WM := rebN (m.mks.length - (lostP m.mks m.op).toNat) m (lostP m.mks m.op).toNat
/-- marks whose parts are short -/
def MarksW (l : List MarkP) : Prop := ∀ x ∈ l, x.2.1.length ≤ 1000000000 ∧ x.2.2.length ≤ 1000000 ∧ AttrsW x.2.2
theorem MarksW.set {l : List MarkP} (w : MarksW l) {i : Nat} (hi : i < l.length) (id : Int) : MarksW (l.set i (id, l[i].2)) := fun x hx => by
  rcases List.mem_or_eq_of_mem_set hx with h | h
  · exact w x h
  · rw [h]; exact w l[i] (List.getElem_mem hi)
def dropO (op : List OpenP) (id : Int) : List OpenP := if 0 < idxQ op (fun x => decide (x.1 = id)) then op.eraseIdx (idxQ op fun x => decide (x.1 = id)).toNat else op
def dropW (m : WM) (id : Int) : WM := { m with op := dropO m.op id }
theorem idxQ_lt {α : Type} {l : List α} {p : α → Bool} : idxQ l p < l.length ∧ -1 ≤ idxQ l p := by
  unfold idxQ
  cases h : l.findIdx? p with
  | none => exact ⟨by show (-1 : Int) < _; omega, Int.le_refl _⟩
  | some i =>
    obtain ⟨hi, _⟩ := List.findIdx?_eq_some_iff_getElem.1 h
    exact ⟨by show (i : Int) < _; omega, by show (-1 : Int) ≤ (i : Int); omega⟩
section
variable {A : Nat → Prop} {h : H} {K : Value → H → Prop} {col : Col} {w : Addr} {m : WM} {b : Option Addr} {n c : Nat}
theorem rebuild_callsW (L : Lib0 h col) (p : PW h col w m) (G : GoodT m.ns) (hne : 0 < m.op.length) (hop : m.op.length + m.mks.length < 1000000) (hns : m.ns.length + m.mks.length < 1000000) (hm : MarksW m.mks)
    (hk : ∀ h' col', PW h' col' w (rebuildW m) → ExtP PS h col h' col' → K (.tuple ⟨[]⟩) h') :
    HCalls Tryz.prog 18 ⟨[.pointer (some w)]⟩ h K := by
  obtain ⟨t, ads, T, W⟩ := p.ex
  obtain ⟨ob, oc, mb, mn, mc, v, o, om⟩ := W.ex
  have hml := om.len
  have hrng := lostTo_rng m.mks m.op m.mks.length
  have hl0 : 0 ≤ lostP m.mks m.op := hrng.1
  have hl1 : lostP m.mks m.op ≤ (m.mks.length : Int) := hrng.2
  obtain ⟨f, hf⟩ := Int.eq_ofNat_of_zero_le hl0
  have hft : (lostP m.mks m.op).toNat = f := by rw [hf]; rfl
  refine Sx.place_World_Rebuild.ok _ _ _ (vSomeMk ⟨_, _, _, v.cell 2 rfl, vSomeMk ⟨_, _, _, v.cell 1 rfl, lost_calls (fun k hk => hk) om.row o.row fun h1 k1 => vIntMk ?_⟩⟩)
  rw [hf]
  obtain ⟨xs, he, hc, _⟩ := (om.kb k1).parts
  have hcap := om.cap
  refine vSomeMk ⟨_, _, _, (v.kb k1).cell 2 rfl, cloneM_calls (fun k hk => hk.2) he hc hml hcap.1 om.nil (by omega) fun b' c' h2 o2 k2 => vSliceMk (vSomeMk (setMarks_k (W.kb k1) (p.fresh.kb k1) k2 o2 fun h3 W3 E3 f3 hc3 => ?_))⟩
  have hcap2 := o2.own.cap
  have E03 : ExtP PS h col h3 (putB col h1 b' (2, 2)) := (ExtP.kb k1).trans (E3.mono fun s hs => .inr hs)
  have p3 : PW h3 (putB col h1 b' (2, 2)) w m := ⟨t, ads, (T.kb k1).otherP (S := fun k => k = 2) (by decide) E3 f3, W3⟩
  have hrw : rebN (m.mks.length - f) m f = rebuildW m := by unfold rebuildW; rw [hft]
  refine vSomeMk ⟨_, _, _, hc3, ⟨by omega, by omega, by omega⟩, ?_⟩
  have e28 : Int.toNat (mn : Int) - Int.toNat (f : Int) = m.mks.length - f := by rw [hml]; rfl
  rw [e28]
  refine ⟨m.mks.length - f + 1, ?_⟩
  have key : ∀ k j (mj : WM) hj cj, j + k = m.mks.length - f → PW hj cj w mj → GoodT mj.ns → mj.op.length = m.op.length + j → mj.ns.length = m.ns.length + j → mj.mks.length = m.mks.length → MarksW mj.mks → rebN k mj (f + j) = rebuildW m → ExtP PS h col hj cj →
      cell hj (w.add 2) = some (.slice b' mn c') →
      Sx.place_World_Rebuild.n5_L (fun h => K (.tuple ⟨[]⟩) h) (fun h => K (.tuple ⟨[]⟩) h) (fun h => K (.tuple ⟨[]⟩) h) (k + 1) (some w) (f : Int) ((m.mks.length - f : Nat) : Int) (j : Int) hj := by
    intro k
    induction k with
    | zero =>
      intro j mj hj cj hjk pj Gj lo ln lm hmj hr Ej hcj
      refine splF (by omega) ?_
      have hr : mj = rebuildW m := hr
      exact hk hj cj (by rw [← hr]; exact pj) Ej
    | succ k ih =>
      intro j mj hj cj hjk pj Gj lo ln lm hmj hr Ej hcj
      have hfj : f + j < mj.mks.length := by omega
      have ej : ((f : Int) + (j : Int)) = ((f + j : Nat) : Int) := rfl
      obtain ⟨tj, adsj, Tj, Wj⟩ := pj.ex
      obtain ⟨obj, ocj, mbj, mnj, mcj, vj, oj, omj⟩ := Wj.ex
      have ec : some (Value.slice mbj mnj mcj) = some (.slice b' mn c') := (vj.cell 2 rfl).symm.trans hcj
      cases ec
      obtain ⟨xsj, hej, hccj, _⟩ := omj.parts
      obtain ⟨a, b2, n2, c2, eb, m0, m1, m2, mR⟩ := markPart hej hccj hfj
      subst eb
      have hw := hmj mj.mks[f + j] (List.getElem_mem hfj)
      have hi2 := mR.inv
      have hn2 := hi2.1.len
      refine splT (by omega) (vSomeMk ⟨_, _, _, hcj, ?_⟩)
      rw [ej]
      refine ⟨rng64 (by omega) (by omega), ⟨by omega, by omega⟩, vSomeMk ?_⟩
      rw [Int.toNat_natCast]
      refine ⟨_, m1, _, _, _, m2, ?_⟩
      refine insert_callsM (L.ext Ej) pj Gj (by omega) (by omega) (by omega) hi2.1 hi2.2.1 (by omega) hw.2.2 ⟨by decide, by decide⟩ ⟨by decide, by decide⟩ hw.1 fun h5 c5 p5 E5 m5 => vIntMk ?_
      obtain ⟨t5, ads5, T5, W5⟩ := p5.ex
      have hc5 := m5 _ hcj
      refine setMarkId_k W5 p5.fresh hc5 (i := f + j) hfj (rng64 (by omega) (by omega)) fun h6 W6 E6 f6 hc6 => ⟨rng64 (by omega) (by omega), ?_⟩
      have hg : mj.mks.getD (f + j) noMark = mj.mks[f + j] := getD_get hfj
      have hr : rebN k { insertM mj 0 (mj.mks.getD (f + j) noMark).2.1 (mj.mks.getD (f + j) noMark).2.2 with mks := mj.mks.set (f + j) ((mj.ns.length : Int), (mj.mks.getD (f + j) noMark).2) } (f + j + 1) = rebuildW m := hr
      rw [hg] at hr
      have := ih (j + 1) { insertM mj 0 mj.mks[f + j].2.1 mj.mks[f + j].2.2 with mks := mj.mks.set (f + j) ((mj.ns.length : Int), mj.mks[f + j].2) } h6 c5 (by omega) ⟨t5, ads5, T5.otherP (S := fun k => k = 2) (by decide) E6 f6, W6⟩
        (goodInsertR Gj) (by show (mj.op ++ [_]).length = _; rw [List.length_append]; show mj.op.length + 1 = _; omega) (by rw [insert_lenR Gj]; omega) (by show (mj.mks.set _ _).length = _; rw [List.length_set]; exact lm) (hmj.set hfj _) hr ((Ej.trans E5).trans (E6.mono fun s hs => .inr hs)) hc6
      exact this
  exact key (m.mks.length - f) 0 m h3 _ (by omega) p3 G rfl rfl rfl hm hrw E03 hc3
theorem deleteO_calls {base i : Nat} {l : List OpenP} (o : OwnA elOpen Non h base 36 b n c l) (hi : i < n) (hk : ∀ h', OwnA elOpen Non h' base 36 b (n - 1) c (l.eraseIdx i) → Grow h h' b → K (.slice b (n - 1) c) h') :
    HCalls Tryz.prog 45 ⟨[.slice b n c, .int .i64 (i : Int), .int .i64 ((i + 1 : Nat) : Int)]⟩ h K := by
  have hcap := o.own.cap
  refine Sx.slices_Delete_apiOpen.ok _ _ _ _ _ _ _ ⟨⟨by omega, by omega, by omega, by omega⟩, splF (by omega) ⟨⟨by omega, by omega, by omega⟩, ⟨by omega, by omega, by omega⟩, ?_⟩⟩
  have e0 : (if c = Int.toNat (0 : Int) then b else Option.map (fun q => q.add (Int.toNat (0 : Int) * 4)) b) = b := by
    split
    · rfl
    · cases b with
      | none => rfl
      | some q => rfl
  rw [e0]
  exact delRow_k apdOpen (by kernel_rfl) o (fun k hk => hk.elim) hi (K := fun sb sn sc h => K (.slice sb sn sc) h) fun h' o' g' _ => hk h' o' g'
theorem drop_callsW (p : PW h col w m) {id : Int} (hl : m.op.length < 1000000) (hk : ∀ h' col', PW h' col' w (dropW m id) → ExtP PS h col h' col' → K (.tuple ⟨[]⟩) h') :
    HCalls Tryz.prog 20 ⟨[.pointer (some w), .int .i64 id]⟩ h K := by
  obtain ⟨t, ads, T, W⟩ := p.ex
  obtain ⟨ob, oc, mb, mn, mc, v, o, om⟩ := W.ex
  refine Sx.place_World_Drop.ok _ _ _ _ (newx_var fun a1 h1 v1 k1 e1 s1 => vSomeMk ⟨_, _, _, (v.kb k1).cell 1 rfl, ?_⟩)
  refine indexFuncOpen_calls (p := fun x => decide (x.1 = id)) (o.kb k1).row (fun x h2 next hx k2 hR hn => ?_) fun h2 k2 => vIntMk ?_
  · have e : CallV Tryz.prog 4 (.func (.func 44) ⟨[]⟩ ⟨[.pointer (some a1)]⟩) ⟨[.agg ⟨[.int .i64 x.1, .int .u8 x.2.1, S x.2.2.1, .int .u8 x.2.2.2]⟩]⟩ h2 next =
        HCalls Tryz.prog 44 ⟨[.agg ⟨[.int .i64 x.1, .int .u8 x.2.1, S x.2.2.1, .int .u8 x.2.2.2]⟩, .pointer (some a1)]⟩ h2 fun v h' => vBool v fun b => cond b (next (.bool true) h') (next (.bool false) h') := by kernel_rfl
    rw [e]
    refine Sx.place_World_Drop_1.ok _ _ _ _ _ _ _ (newx_var fun a8 h8 v8 k8 e8 _ => ⟨_, v8.cell 0 rfl, _, ((v1.kb k2).kb k8).cell0 rfl, ?_⟩)
    have := hn h8 k8
    refine spl (fun e => ?_) fun e => ?_
    · rw [decide_eq_true e] at this; exact this
    · rw [decide_eq_false e] at this; exact this
  · have k02 := k1.trans k2
    have hlt := idxQ_lt (l := m.op) (p := fun x => decide (x.1 = id))
    refine spl (fun hp => condT ?_) fun hp => condF ?_
    · obtain ⟨k, ek⟩ := Int.eq_ofNat_of_zero_le (Int.le_of_lt hp)
      have hkl : k < m.op.length := by have := hlt.1; rw [ek] at this; exact Int.ofNat_lt.1 this
      rw [ek]
      obtain ⟨xs, he, hc, _⟩ := (o.kb k02).parts
      refine vSomeMk ⟨_, _, _, (v.kb k02).cell 1 rfl, cloneO_calls he hc rfl o.cap.1 o.nil (by omega) fun b' c' h3 o3 k3 => vSliceMk ⟨rng64 (by show _ ≤ (k : Int) + 1; omega) (by show (k : Int) + 1 ≤ _; omega), ?_⟩⟩
      have e1 : ((k : Int) + (1 : Int)) = ((k + 1 : Nat) : Int) := rfl
      rw [e1]
      refine deleteO_calls o3 hkl fun h4 o4 g4 => vSliceMk (vSomeMk (setOpen_k (W.kb k02) (p.fresh.kb k02) (g4.kb0 k3 o3.lo) o4 fun h5 W5 E5 f5 => ?_))
      have hd : dropO m.op id = m.op.eraseIdx k := by unfold dropO; rw [if_pos hp, ek]; rfl
      refine hk h5 _ ⟨t, ads, (T.kb k02).otherP (S := fun k => k = 2) (by decide) E5 f5, ?_⟩ ((ExtP.kb k02).trans (E5.mono fun s hs => .inr hs))
      show WorldW _ _ _ _ _ _ (dropO m.op id) _ _ _
      rw [hd]; exact W5
    · have hd : dropO m.op id = m.op := by unfold dropO; rw [if_neg hp]
      refine hk h2 col ?_ (.kb k02)
      have p2 := p.kb k02
      have e2 : dropW m id = m := by unfold dropW; rw [hd]
      rw [e2]; exact p2
end
end Go.Proofs
