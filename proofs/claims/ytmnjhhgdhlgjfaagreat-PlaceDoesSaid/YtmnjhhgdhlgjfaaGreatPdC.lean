/- place: the chapter's Rebuild and Drop. No condition but that the tree is one. -/
import Derived.Test.YtmnjhhgdhlgjfaaGreatPdB
namespace Go.Proofs
open Go Go.Sh
set_option linter.unusedVariables false
set_option maxRecDepth 100000
section
variable {h : H} {K : Value → H → Prop} {col : Col} {s ty : Nat} {w t : Addr} {op : List OpenP} {mk : List MarkP} {fo : Bool} {hi : Int} {m : WM}
theorem base0 {b : Option Addr} {c k : Nat} : (if c = Int.toNat (0 : Int) then b else Option.map (fun q => q.add (Int.toNat (0 : Int) * k)) b) = b := by
  split
  · rfl
  · cases b with
    | none => rfl
    | some q =>
      show some (q.add (0 * k)) = some q
      rw [Nat.zero_mul, add_zero']
theorem ExtP.step {Z : Nat → Prop} {a b c : H} {x y : Col} {g : Nat} (E : ExtP Z a x b y) (k : KX g b c) (hg : a.size ≤ g) : ExtP Z a x c y :=
  ⟨E.sk.trans (k.less fun q hq e => by have := hq.1; omega), E.cl⟩
/-- a list of marks with another one at a place, as the chapter makes it -/
theorem setMark_k (W : WorldW h col s ty w t op mk fo hi) (f : Fresh h col) {i : Nat} (hi1 : i < mk.length) (hn : mk.length ≤ 1000000) {x : MarkP} {a21 : Addr} {tv : Nat} {ab : Option Addr} {an ac : Nat} (v21 : Var h a21 tv [.int .i64 x.1, S x.2.1, .slice ab an ac]) (hR : MarkR (Free col h) h x ab an ac) {Q : H → Prop}
    (hk : ∀ h' col', WorldW h' col' s ty w t op (mk.set i x) fo hi → ExtP (fun k => k = s) h col h' col' → Fresh h' col' → Q h') :
    ∃ s31b s31n s31c, cell h (w.add 2) = some (.slice s31b s31n s31c) ∧ ((0 ≤ (0 : Int) ∧ (0 : Int) ≤ (i : Int) ∧ (i : Int) ≤ (s31c : Int)) ∧ (SemH Tryz.prog (Builtin.append_ #[40, 40] 40 ⟨[(.slice none 0 0), (.slice (if s31c = Int.toNat (0 : Int) then s31b else Option.map (fun q => q.add (Int.toNat (0 : Int) * 3)) s31b) (Int.toNat (i : Int) - Int.toNat (0 : Int)) (s31c - Int.toNat (0 : Int)))]⟩) h fun v32 h33 => vSlice v32 fun s34b s34n s34c => ∃ i35, cell h33 ((a21).add 0) = some (.int .i64 i35) ∧ (∃ s36, cell h33 ((a21).add 1) = some (S s36) ∧ (∃ s37b s37n s37c, cell h33 ((a21).add 2) = some (.slice s37b s37n s37c) ∧ (newx h33 #[(.int .i64 i35), (S s36), (.slice s37b s37n s37c)] 39 fun a38 h39 => SemH Tryz.prog (Builtin.append_ #[40, 40] 40 ⟨[(.slice s34b s34n s34c), (.slice (some a38) 1 1)]⟩) h39 fun v40 h41 => vSlice v40 fun s42b s42n s42c => vSome (some w) fun a43 => ∃ s44b s44n s44c, cell h41 (a43.add 2) = some (.slice s44b s44n s44c) ∧ (Rng .i64 ((i : Int) + (1 : Int)) ∧ ((0 ≤ ((i : Int) + (1 : Int)) ∧ ((i : Int) + (1 : Int)) ≤ (s44n : Int) ∧ (s44n : Int) ≤ (s44c : Int)) ∧ (SemH Tryz.prog (Builtin.append_ #[40, 40] 40 ⟨[(.slice s42b s42n s42c), (.slice (if s44c = Int.toNat ((i : Int) + (1 : Int)) then s44b else Option.map (fun q => q.add (Int.toNat ((i : Int) + (1 : Int)) * 3)) s44b) (Int.toNat (s44n : Int) - Int.toNat ((i : Int) + (1 : Int))) (s44c - Int.toNat ((i : Int) + (1 : Int))))]⟩) h41 fun v45 h46 => vSlice v45 fun s47b s47n s47c => vSome (some w) fun a48 => stL (a48.add 2) [(.slice s47b s47n s47c)] 0 h46 fun h49 => Q h49)))))))) := by
  obtain ⟨ob, oc, mb, mn, mc, v, o, om⟩ := W.ex
  obtain ⟨xs, he, hc, hxl⟩ := om.parts
  have hml := om.len
  have hcap := om.cap
  have hA : ∀ k, Free col h k → k < h.size := fun k hk => hk.2
  refine ⟨_, _, _, v.cell 2 rfl, ⟨by omega, by omega, by omega⟩, ?_⟩
  rw [base0]
  have e1 : Int.toNat (i : Int) - Int.toNat (0 : Int) = i := by rw [Int.toNat_natCast]; rfl
  rw [e1]
  refine OwnA.append apdMark (OwnA.none (Free col h) h h.size 39) hA (l2 := mk.take i) (by rw [List.length_take]; omega) (he.take i) (hc.take _) (by simp only [maxLen]; omega) (by omega) (Nat.le_refl _) fun b1 c1 h1 o1 g1 => vSliceMk ?_
  rw [Nat.zero_add] at o1 ⊢
  have k1 : KB h h1 := g1.kb0 (KB.refl h) fun q e => by cases e
  refine ⟨_, (v21.kb k1).cell 0 rfl, _, (v21.kb k1).cell 1 rfl, _, _, _, (v21.kb k1).cell 2 rfl, newx_var fun a38 h2 v2 k2 e2 s2 => ?_⟩
  have k12 := k1.trans k2
  refine OwnA.append1 apdMark (o1.kb k2) hA v2 (hR.kb k12) (by simp only [maxLen]; omega) (by omega) k12.1 fun b3 c3 h3 o3 g3 => vSliceMk ?_
  have k13 : KB h h3 := g3.kb0 k12 o1.lo
  have e3 : ((i : Int) + (1 : Int)) = ((i + 1 : Nat) : Int) := rfl
  refine vSomeMk ⟨_, _, _, (v.kb k13).cell 2 rfl, rng64 (by omega) (by omega), ⟨by omega, by omega, by omega⟩, ?_⟩
  rw [e3, Int.toNat_natCast, Int.toNat_natCast]
  have hcd := Cells.drop (c := mc) (lo := i + 1) (z := 3) hc (fun e => List.drop_of_length_le (by
    have h1 : xs.length = mn * 3 := hxl
    have h2 : mn = i + 1 := by omega
    rw [h1, h2]; exact Nat.le_refl _))
  have hed := he.drop (i + 1)
  refine OwnA.append apdMark o3 hA (l2 := mk.drop (i + 1)) (by rw [List.length_drop, hml]) (hed.keep ((KB.w k13).less fun k hk => hk.2) fun _ h _ => h) (fun j u hu => by
    obtain ⟨q, e, ec⟩ := hcd j u hu
    exact ⟨q, e, (KB.w k13).cell (cell_lt ec) ec⟩) (by simp only [maxLen]; omega) (by omega) k13.1 fun b4 c4 h4 o4 g4 => vSliceMk (vSomeMk ?_)
  have k14 : KB h h4 := g4.kb0 k13 o3.lo
  have el : [] ++ mk.take i ++ [x] ++ mk.drop (i + 1) = mk.set i x := by
    rw [List.nil_append, List.set_eq_take_append_cons_drop, if_pos hi1, List.append_assoc]; rfl
  rw [el] at o4
  exact setMarks_k W f k14 o4 fun h5 W5 E5 f5 _ => hk h5 _ W5 E5 f5
theorem refRebuild_calls (p : RW h col w m) (G : GoodT m.ns) (hne : 0 < m.op.length) (hop : m.op.length + m.mks.length < 1000000) (hns : m.ns.length + m.mks.length < 1000000) (hm : MarksW m.mks)
    (hk : ∀ h' col', RW h' col' w (rebuildW m) → ExtP RS h col h' col' → K (.tuple ⟨[]⟩) h') :
    HCalls Tryz.prog 19 ⟨[.pointer (some w)]⟩ h K := by
  obtain ⟨t, T, W⟩ := p.ex
  obtain ⟨ob, oc, mb, mn, mc, v, o, om⟩ := W.ex
  have hrng := lostTo_rng m.mks m.op m.mks.length
  have hl0 : 0 ≤ lostP m.mks m.op := hrng.1
  have hl1 : lostP m.mks m.op ≤ (m.mks.length : Int) := hrng.2
  obtain ⟨f, hf⟩ := Int.eq_ofNat_of_zero_le hl0
  have hft : (lostP m.mks m.op).toNat = f := by rw [hf]; rfl
  refine Sx.r13_World_Rebuild.ok _ _ _ (vSomeMk ⟨_, _, _, v.cell 2 rfl, vSomeMk ⟨_, _, _, v.cell 1 rfl, refLost_calls om.row o.row (vIntMk ?_)⟩⟩)
  rw [hf]
  have hrw : rebN (m.mks.length - f) m f = rebuildW m := by unfold rebuildW; rw [hft]
  refine ⟨m.mks.length - f + 1, ?_⟩
  have key : ∀ k j (mj : WM) hj cj, j + k = m.mks.length - f → RW hj cj w mj → GoodT mj.ns → mj.op.length = m.op.length + j → mj.ns.length = m.ns.length + j → mj.mks.length = m.mks.length → MarksW mj.mks → rebN k mj (f + j) = rebuildW m → ExtP RS h col hj cj →
      Sx.r13_World_Rebuild.n3_L (fun h => K (.tuple ⟨[]⟩) h) (fun h => K (.tuple ⟨[]⟩) h) (fun h => K (.tuple ⟨[]⟩) h) (k + 1) (some w) ((f + j : Nat) : Int) hj := by
    intro k
    induction k with
    | zero =>
      intro j mj hj cj hjk pj Gj lo ln lm hmj hr Ej
      obtain ⟨tj, Tj, Wj⟩ := pj.ex
      obtain ⟨obj, ocj, mbj, mnj, mcj, vj, oj, omj⟩ := Wj.ex
      have hmlj := omj.len
      have hr : mj = rebuildW m := hr
      unfold Sx.r13_World_Rebuild.n3_L
      exact vSomeMk ⟨_, _, _, vj.cell 2 rfl, splF (by omega) (hk hj cj (by rw [← hr]; exact ⟨tj, Tj, Wj⟩) Ej)⟩
    | succ k ih =>
      intro j mj hj cj hjk pj Gj lo ln lm hmj hr Ej
      have hfj : f + j < mj.mks.length := by omega
      obtain ⟨tj, Tj, Wj⟩ := pj.ex
      obtain ⟨obj, ocj, mbj, mnj, mcj, vj, oj, omj⟩ := Wj.ex
      have hmlj := omj.len
      obtain ⟨xsj, hej, hccj, _⟩ := omj.parts
      obtain ⟨a, b2, n2, c2, eb, m0, m1, m2, mR⟩ := markPart hej hccj hfj
      subst eb
      have hw := hmj mj.mks[f + j] (List.getElem_mem hfj)
      have hi2 := mR.inv
      have hn2 := hi2.1.len
      unfold Sx.r13_World_Rebuild.n3_L
      refine vSomeMk ⟨_, _, _, vj.cell 2 rfl, splT (by omega) (vSomeMk ⟨_, _, _, vj.cell 2 rfl, ⟨by omega, by omega⟩, vSomeMk ?_⟩)⟩
      rw [Int.toNat_natCast]
      refine ⟨_, m0, _, m1, _, _, _, m2, newx_var fun a21 h2 v2 k2 e2 s2 => stL_var0 v2 (by show 3 ≤ 3; omega) fun h3 v3 k3 s3 => ?_⟩
      have k23 : KB hj h3 := KB.step k2 k3 (by omega)
      have v3' : Var h3 a21 39 [.int .i64 mj.mks[f + j].1, S mj.mks[f + j].2.1, .slice b2 n2 c2] := v3
      -- the variable has a colour of its own
      have E3 : ∀ Z : Nat → Prop, ExtP Z hj cj h3 (paint cj a21.block (8, 0)) := fun Z => ⟨k23.less fun k hk => hk.1, fun k hk => paint_ne (by omega)⟩
      have f3 : Fresh h3 (paint cj a21.block (8, 0)) := (pj.fresh.kb k23).paint v3'.lt
      have p3 : RW h3 (paint cj a21.block (8, 0)) w mj := pj.ext (Z := fun _ => False) (E3 _) id id f3
      have rA : Row elAttr (Free (paint cj a21.block (8, 0)) h3) h3 b2 n2 c2 mj.mks[f + j].2.2 := (E3 fun _ => False).row hi2.1
      refine ⟨_, v3'.cell 1 rfl, _, _, _, v3'.cell 2 rfl, ?_⟩
      refine refInsert_calls p3 Gj (by omega) (by omega) (by omega) rA (by omega) hw.2.2 ⟨by decide, by decide⟩ ⟨by decide, by decide⟩ hw.1 fun h5 c5 p5 E5 => vIntMk ?_
      have v5 : Var h5 a21 39 [.int .i64 mj.mks[f + j].1, S mj.mks[f + j].2.1, .slice b2 n2 c2] := v3'.keep E5.sk.w ⟨v3'.lt, fun s p hs e => by
        rw [paint_at] at e
        cases e
        rcases hs with h | h <;> exact absurd h (by decide)⟩
      refine stL_var0 v5 (by show 1 ≤ 3; omega) fun h6 v6 k6 s6 => vSomeMk ?_
      have v6' : Var h6 a21 39 [.int .i64 (mj.ns.length : Int), S mj.mks[f + j].2.1, .slice b2 n2 c2] := v6
      have hc5 : c5 a21.block = some (8, 0) := by rw [E5.cl _ v3'.lt]; exact paint_at
      have E6 : ExtP (fun k => k = 8) h5 c5 h6 c5 := ExtP.kx k6 hc5 rfl
      have f6 : Fresh h6 c5 := fun q hq => p5.fresh q (by rw [← s6]; exact hq)
      have p6 : RW h6 c5 w (insertM mj 0 mj.mks[f + j].2.1 mj.mks[f + j].2.2) := p5.ext (Z := fun k => k = 8) E6 (by decide) (by decide) f6
      have r6 := E6.row (E5.row rA)
      have Ej6 : ExtP RS hj cj h6 c5 := ((E3 RS).trans E5).step k6 (by show hj.size ≤ a21.block; omega)
      obtain ⟨t6, T6, W6⟩ := p6.ex
      have hR6 : MarkR (Free c5 h6) h6 ((mj.ns.length : Int), mj.mks[f + j].2) b2 n2 c2 := markR (m := ((mj.ns.length : Int), mj.mks[f + j].2)) r6 hi2.2.1 (rng64 (by show _ ≤ (mj.ns.length : Int); omega) (by show (mj.ns.length : Int) ≤ _; omega)) hi2.2.2.2
      refine setMark_k W6 f6 (i := f + j) hfj (by show mj.mks.length ≤ _; omega) (x := ((mj.ns.length : Int), mj.mks[f + j].2)) v6' hR6 fun h7 c7 W7 E7 f7 => ⟨rng64 (by omega) (by omega), ?_⟩
      have hg : mj.mks.getD (f + j) noMark = mj.mks[f + j] := getD_get hfj
      have hr : rebN k { insertM mj 0 (mj.mks.getD (f + j) noMark).2.1 (mj.mks.getD (f + j) noMark).2.2 with mks := mj.mks.set (f + j) ((mj.ns.length : Int), (mj.mks.getD (f + j) noMark).2) } (f + j + 1) = rebuildW m := hr
      rw [hg] at hr
      have := ih (j + 1) { insertM mj 0 mj.mks[f + j].2.1 mj.mks[f + j].2.2 with mks := mj.mks.set (f + j) ((mj.ns.length : Int), mj.mks[f + j].2) } h7 c7 (by omega) ⟨t6, T6.otherP (Z := fun k => k = 3) (by decide) E7 f7, W7⟩
        (goodInsertR Gj) (by show (mj.op ++ [_]).length = _; rw [List.length_append]; show mj.op.length + 1 = _; omega) (by rw [insert_lenR Gj]; omega) (by show (mj.mks.set _ _).length = _; rw [List.length_set]; exact lm) (hmj.set hfj _) hr ((Ej.trans Ej6).trans (E7.mono fun s hs => .inr hs))
      exact this
  have := key (m.mks.length - f) 0 m h col (by omega) p G rfl rfl rfl hm hrw (.refl _ _ _)
  exact this
/-! ### Drop -/
def dropTo (op : List OpenP) (id : Int) : Nat → List OpenP
  | 0 => []
  | i + 1 => if i = 0 ∨ (op.getD i noOpen).1 ≠ id then dropTo op id i ++ [op.getD i noOpen] else dropTo op id i
theorem dropTo_len (op : List OpenP) (id : Int) : ∀ i, (dropTo op id i).length ≤ i
  | 0 => Nat.le_refl _
  | i + 1 => by
    unfold dropTo
    have := dropTo_len op id i
    split
    · rw [List.length_append]; show _ + 1 ≤ _; omega
    · omega
theorem dropTo_all {op : List OpenP} {id : Int} : ∀ i, i ≤ op.length → (∀ j (hj : j < op.length), 0 < j → j < i → op[j].1 ≠ id) → dropTo op id i = op.take i
  | 0, _, _ => rfl
  | i + 1, hi, hno => by
    have hil : i < op.length := by omega
    unfold dropTo
    rw [getD_get hil, dropTo_all i (by omega) fun j hj h0 hji => hno j hj h0 (by omega)]
    have hc : i = 0 ∨ op[i].1 ≠ id := by
      rcases Nat.eq_zero_or_pos i with h | h
      · exact .inl h
      · exact .inr (hno i hil h (by omega))
    rw [if_pos hc, List.take_add_one, List.getElem?_eq_getElem hil]; rfl
theorem dropTo_one {op : List OpenP} {id : Int} {k : Nat} (hk0 : 0 < k) (hk : k < op.length) (he : op[k].1 = id) (hno : ∀ j (hj : j < op.length), j ≠ k → op[j].1 ≠ id) : ∀ i, i ≤ op.length → dropTo op id i = if k < i then (op.take i).eraseIdx k else op.take i
  | 0, _ => rfl
  | i + 1, hi => by
    have hil : i < op.length := by omega
    unfold dropTo
    rw [getD_get hil, dropTo_one hk0 hk he hno i (by omega)]
    have hst : op.take (i + 1) = op.take i ++ [op[i]] := by rw [List.take_add_one, List.getElem?_eq_getElem hil]; rfl
    by_cases hik : i = k
    · subst hik
      rw [if_neg (fun h => by rcases h with h | h; omega; exact h he), if_neg (by omega), if_pos (by omega), hst]
      have hlen : (op.take i).length = i := by rw [List.length_take]; omega
      rw [List.eraseIdx_append_of_length_le (by omega), hlen, Nat.sub_self]
      simp
    · rw [if_pos (.inr (hno i hil hik)), hst]
      by_cases h2 : k < i
      · rw [if_pos h2, if_pos (by omega), List.eraseIdx_append_of_lt_length (by rw [List.length_take]; omega)]
      · rw [if_neg h2, if_neg (by omega)]
/-- numbers that differ: it is the same -/
theorem dropTo_eq {op : List OpenP} {id : Int} (hnd : (op.map (·.1)).Nodup) : dropTo op id op.length = dropO op id := by
  have uniq : ∀ i j (hi : i < op.length) (hj : j < op.length), op[i].1 = op[j].1 → i = j := fun i j hi hj e =>
    by
      have hp := List.pairwise_iff_getElem.1 hnd
      rcases Nat.lt_trichotomy i j with h | h | h
      · exact absurd (by rw [List.getElem_map, List.getElem_map]; exact e) (hp i j (by simpa using hi) (by simpa using hj) h)
      · exact h
      · exact absurd (by rw [List.getElem_map, List.getElem_map]; exact e.symm) (hp j i (by simpa using hj) (by simpa using hi) h)
  unfold dropO
  have hq := idxQ_lt (l := op) (p := fun x => decide (x.1 = id))
  by_cases hex : ∃ k, ∃ hk : k < op.length, op[k].1 = id
  · obtain ⟨k, hk, e⟩ := hex
    have hno : ∀ j (hj : j < op.length), j ≠ k → op[j].1 ≠ id := fun j hj hne e2 => hne (uniq j k hj hk (e2.trans e.symm))
    have hi : idxQ op (fun x => decide (x.1 = id)) = (k : Int) := idxQ_some hk (decide_eq_true e) fun j hj hjk => decide_eq_false (hno j hj (by omega))
    rw [hi, Int.toNat_natCast]
    rcases Nat.eq_zero_or_pos k with h0 | h0
    · rw [if_neg (by omega), dropTo_all _ (Nat.le_refl _) fun j hj h1 _ => hno j hj (by omega), List.take_length]
    · rw [if_pos (by omega), dropTo_one h0 hk e hno _ (Nat.le_refl _), if_pos hk, List.take_length]
  · have hno : ∀ j (hj : j < op.length), op[j].1 ≠ id := fun j hj e => hex ⟨j, hj, e⟩
    have hi : idxQ op (fun x => decide (x.1 = id)) = -1 := idxQ_none fun j hj => decide_eq_false (hno j hj)
    rw [hi, if_neg (by decide), dropTo_all _ (Nat.le_refl _) fun j hj _ _ => hno j hj, List.take_length]
theorem refDrop_calls (p : RW h col w m) {id : Int} (hl : m.op.length < 1000000) (hnd : (m.op.map (·.1)).Nodup) (hk : ∀ h' col', RW h' col' w (dropW m id) → ExtP RS h col h' col' → K (.tuple ⟨[]⟩) h') :
    HCalls Tryz.prog 21 ⟨[.pointer (some w), .int .i64 id]⟩ h K := by
  obtain ⟨t, T, W⟩ := p.ex
  obtain ⟨ob, oc, mb, mn, mc, v, o, om⟩ := W.ex
  refine Sx.r13_World_Drop.ok _ _ _ _ ⟨m.op.length + 1, ?_⟩
  have key : ∀ k i h2 lb lc, i + k = m.op.length → OwnF elOpen h2 h.size 36 lb (dropTo m.op id i).length lc (dropTo m.op id i) → KB h h2 →
      Sx.r13_World_Drop.n6_L (fun z0 z4b z4n z4c h => Sx.r13_World_Drop.n3 z0 z4b z4n z4c (fun h => K (.tuple ⟨[]⟩) h) (fun h => K (.tuple ⟨[]⟩) h) h) (fun z0 z4b z4n z4c h => Sx.r13_World_Drop.n3 z0 z4b z4n z4c (fun h => K (.tuple ⟨[]⟩) h) (fun h => K (.tuple ⟨[]⟩) h) h) (fun h => K (.tuple ⟨[]⟩) h) (k + 1) (some w) id lb (dropTo m.op id i).length lc (i : Int) h2 := by
    intro k
    induction k with
    | zero =>
      intro i h2 lb lc hi o2 k2
      unfold Sx.r13_World_Drop.n6_L
      refine vSomeMk ⟨_, _, _, (v.kb k2).cell 1 rfl, splF (by omega) (vSomeMk ?_)⟩
      have ei : i = m.op.length := by omega
      subst ei
      have o2' : OwnA elOpen Non h2 h.size 36 lb (dropTo m.op id m.op.length).length lc (dropTo m.op id m.op.length) := ⟨o2.own.flat flatOpen, o2.lo, o2.hi, o2.nil⟩
      refine setOpen_k W p.fresh k2 o2' fun h5 W5 E5 f5 => hk h5 _ ⟨t, T.otherP (Z := fun k => k = 3) (by decide) E5 f5, ?_⟩ (E5.mono fun s hs => .inr hs)
      rw [dropTo_eq hnd] at W5
      exact W5
    | succ k ih =>
      intro i h2 lb lc hi o2 k2
      have hil : i < m.op.length := by omega
      have hlen := dropTo_len m.op id i
      unfold Sx.r13_World_Drop.n6_L
      refine vSomeMk ⟨_, _, _, (v.kb k2).cell 1 rfl, splT (by omega) ?_⟩
      have yes : (i = 0 ∨ m.op[i].1 ≠ id) → ∀ (Kn Ke1 : Sx.r13_World_Drop.T4) (Ke0 : Sx.r13_World_Drop.T3) (Kr : Sx.r13_World_Drop.T0), (∀ b' c' h', OwnF elOpen h' h.size 36 b' (dropTo m.op id (i + 1)).length c' (dropTo m.op id (i + 1)) → KB h h' → Kn (some w) id b' (dropTo m.op id (i + 1)).length c' (i : Int) h') →
          Sx.r13_World_Drop.n12 (some w) id lb (dropTo m.op id i).length lc (i : Int) true Kn Ke1 Ke0 Kr h2 := by
        intro hy Kn Ke1 Ke0 Kr hKn
        have hst : dropTo m.op id (i + 1) = dropTo m.op id i ++ [m.op[i]] := by
          conv => lhs; unfold dropTo
          rw [getD_get hil, if_pos hy]
        rw [hst, List.length_append] at hKn
        refine condT (vSomeMk ⟨_, _, _, (v.kb k2).cell 1 rfl, (o.kb k2).row.idxN hil rfl fun q hA => ldOpen hA fun ow => ?_⟩)
        refine one_appG apdOpen (x := m.op[i]) (cs := cellsO m.op[i]) (fun A h => ow.r) o2 k2.1 (by simp only [maxLen]; omega) (by omega) fun b' c' h' o' k' => vSliceMk (hKn b' c' h' o' (SK.trans k2 (k'.less fun q hq => ⟨Nat.lt_of_lt_of_le hq k2.1, fun a ea e2 => by have := o2.lo a ea; have hq : q < h.size := hq; omega⟩)))
      have go : ∀ b' c' h', OwnF elOpen h' h.size 36 b' (dropTo m.op id (i + 1)).length c' (dropTo m.op id (i + 1)) → KB h h' →
          Rng .i64 ((i : Int) + 1) ∧ Sx.r13_World_Drop.n6_L (fun z0 z4b z4n z4c h => Sx.r13_World_Drop.n3 z0 z4b z4n z4c (fun h => K (.tuple ⟨[]⟩) h) (fun h => K (.tuple ⟨[]⟩) h) h) (fun z0 z4b z4n z4c h => Sx.r13_World_Drop.n3 z0 z4b z4n z4c (fun h => K (.tuple ⟨[]⟩) h) (fun h => K (.tuple ⟨[]⟩) h) h) (fun h => K (.tuple ⟨[]⟩) h) (k + 1) (some w) id b' (dropTo m.op id (i + 1)).length c' ((i : Int) + 1) h' := fun b' c' h' o' k' =>
        ⟨rng64 (by omega) (by omega), ih (i + 1) h' b' c' (by omega) o' k'⟩
      refine spl (fun e0 => yes (.inl (by omega)) _ _ _ _ go) fun e0 => vSomeMk ⟨_, _, _, (v.kb k2).cell 1 rfl, (o.kb k2).row.idxN hil rfl fun q hA => ⟨_, hA.fst.int.1, spl (fun e1 => condF ?_) fun e1 => yes (.inr e1) _ _ _ _ go⟩⟩
      have hst : dropTo m.op id (i + 1) = dropTo m.op id i := by
        conv => lhs; unfold dropTo
        rw [getD_get hil, if_neg (fun h => by rcases h with h | h; omega; exact h e1)]
      have := go lb lc h2 (by rw [hst]; exact o2) k2
      rw [hst] at this
      exact this
  exact key m.op.length 0 h none 0 (by omega) (OwnF.none _ _ _) (KB.refl h)
end
end Go.Proofs
