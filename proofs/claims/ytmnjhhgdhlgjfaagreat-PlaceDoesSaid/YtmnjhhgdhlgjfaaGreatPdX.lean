/- place: both Worlds side by side: what holds of them; they are alike. No condition but that the library's variable holds a number. -/
import Derived.Test.YtmnjhhgdhlgjfaaGreatPdC
import Derived.Test.YtmnjhhgdhlgjfaaGreatPcG
import Derived.Test.YtmnjhhgdhlgjfaaGreatTxF
namespace Go.Proofs
open Go Go.Sh
set_option linter.unusedVariables false
set_option maxRecDepth 100000
/-! ### what holds of a World -/
def MarksS (l : List MarkP) : Prop := ∀ x ∈ l, x.2.1.length ≤ 4000 ∧ x.2.2.length ≤ 500 ∧ ∀ a ∈ x.2.2, a.2.length ≤ 4000
structure DI (m : WM) (u v x : Nat) : Prop where
  G : GoodT m.ns
  B : BareT m.ns
  ne : 0 < m.op.length
  ids : ∀ y ∈ m.op, 0 ≤ y.1 ∧ y.1 < m.ns.length
  nd : (m.op.map (·.1)).Nodup
  lo : m.op.length ≤ u
  ln : m.ns.length ≤ u
  ml : m.mks.length ≤ v
  mw : MarksS m.mks
  tx : TextB m.ns x
theorem MarksS.w {l : List MarkP} (h : MarksS l) : MarksW l := fun x hx => ⟨by have := (h x hx).1; omega, by have := (h x hx).2.1; omega, fun a ha => by have := (h x hx).2.2 a ha; omega⟩
theorem DI.zero : DI wm0 1 0 0 :=
  ⟨good_root, BareT.root1, by decide, fun y hy => by
    have : y = (0, 0, wHtml, 0) := by simpa [wm0] using hy
    subst this; exact ⟨by decide, by decide⟩, by decide, by decide, by decide, by decide, (fun y hy => nomatch hy), TextB.root1⟩
theorem DI.mono {m : WM} {u v x u' v' x' : Nat} (H : DI m u v x) (h1 : u ≤ u') (h2 : v ≤ v') (h3 : x ≤ x') : DI m u' v' x' :=
  ⟨H.G, H.B, H.ne, H.ids, H.nd, Nat.le_trans H.lo h1, Nat.le_trans H.ln h1, Nat.le_trans H.ml h2, H.mw, H.tx.mono h3⟩
section
variable {m : WM} {u v x : Nat}
theorem DI.pos (H : DI m u v x) : 0 < m.ns.length := by obtain ⟨r, hr, _⟩ := H.G.root; exact getI hr
theorem DI.insert (H : DI m u v x) (sp : Int) (nm : Bs) (at' : List AttrP) : DI (insertM m sp nm at') (u + 1) v x := by
  have hl : (insertM m sp nm at').ns.length = m.ns.length + 1 := insert_lenR H.G
  have hop : (insertM m sp nm at').op = m.op ++ [((m.ns.length : Int), sp, nm, pointM sp nm at')] := rfl
  have hlo : (insertM m sp nm at').op.length = m.op.length + 1 := by rw [hop, List.length_append]; rfl
  have h1 := H.lo
  have h2 := H.ln
  refine ⟨goodInsertR H.G, ?_, by omega, fun y hy => ?_, ?_, by omega, by omega, H.ml, H.mw, ?_⟩
  · exact (H.B.addM H.pos 1 sp nm at' []).like (put_like (H.G.addM _ _ _ _ _) _ _ _)
  · rw [hop] at hy
    rw [hl]
    rcases List.mem_append.1 hy with h | h
    · have := H.ids y h; exact ⟨this.1, by omega⟩
    · rw [List.mem_singleton.1 h]; exact ⟨by show (0 : Int) ≤ (m.ns.length : Int); omega, by show (m.ns.length : Int) < _; omega⟩
  · rw [hop, List.map_append]
    refine List.nodup_append.2 ⟨H.nd, by simp, fun a ha b hb => ?_⟩
    obtain ⟨y, hy, rfl⟩ := List.mem_map.1 ha
    have hb : b = (m.ns.length : Int) := by simpa using hb
    have := (H.ids y hy).2
    omega
  · have h1 : TextB (addM m.ns (bareM 1 sp nm at' [])).1 x := H.tx.addM (by simp)
    exact h1.like (put_like (H.G.addM _ _ _ _ _) _ _ _)
theorem write_lenL {ns : List NodeM} (G : GoodT ns) (p b : Int) (tx : Bs) : ns.length ≤ (writeM ns p b tx).1.length := by
  rcases write_of (ns := ns) p b tx with h | ⟨j, z, _, _, h⟩ | ⟨i, h⟩
  · rw [h]; exact Nat.le_refl _
  · rw [h, List.length_set]; exact Nat.le_refl _
  · rw [h, put_len (G.addM _ _ _ _ _)]
    show _ ≤ (ns ++ [_]).length
    simp
theorem DI.write (H : DI m u v x) {tx : Bs} (ht : tx.length ≤ 4000) : DI (writeW m tx) (u + 1) v (x + 4000) := by
  have h1 := H.lo
  have h2 := H.ln
  have hg := write_lenL H.G (whereC m).1 (whereC m).2 tx
  have hl := write_len H.G (whereC m).1 (whereC m).2 tx
  refine ⟨H.G.writeM _ _ _, H.B.writeM H.G H.pos _ _ _, H.ne, fun y hy => ?_, H.nd, by show m.op.length ≤ _; omega, by show (writeM _ _ _ _).1.length ≤ _; omega, H.ml, H.mw, H.tx.writeM H.G _ _ ht⟩
  have := H.ids y hy
  exact ⟨this.1, by show y.1 < ((writeM _ _ _ _).1.length : Int); omega⟩
theorem DI.note (H : DI m u v x) {tx : Bs} (ht : tx.length ≤ 4000) : DI (noteW m tx) (u + 1) v (x + 4000) := by
  have h1 := H.lo
  have h2 := H.ln
  have hl : (noteW m tx).ns.length = m.ns.length + 1 := by
    show (putM _ _ _ _).1.length = _
    rw [put_len (H.G.addM _ _ _ _ _)]
    show (m.ns ++ [_]).length = _
    simp
  refine ⟨(H.G.addM _ _ _ _ _).putM _ _ _, (H.B.addM H.pos 3 0 [] [] tx).like (put_like (H.G.addM _ _ _ _ _) _ _ _), H.ne, fun y hy => ?_, H.nd, by show m.op.length ≤ _; omega, by omega, H.ml, H.mw, ?_⟩
  · have := H.ids y hy
    exact ⟨this.1, by rw [hl]; omega⟩
  · have h1 : TextB (addM m.ns (bareM 3 0 [] [] tx)).1 (x + 4000) := (H.tx.mono (by omega)).addM (by omega)
    exact h1.like (put_like (H.G.addM _ _ _ _ _) _ _ _)
theorem DI.ops (H : DI m u v x) {op : List OpenP} (hne : 0 < op.length) (hs : op.Sublist m.op) : DI { m with op := op } u v x :=
  ⟨H.G, H.B, hne, fun y hy => H.ids y (hs.subset hy), H.nd.sublist (hs.map _), Nat.le_trans hs.length_le H.lo, H.ln, H.ml, H.mw, H.tx⟩
theorem DI.close (H : DI m u v x) (n : Int) : DI (closeW m n) u v x := by
  unfold closeW closeO
  have := H.ne
  split
  · exact H.ops (by rw [List.length_take]; omega) (List.take_sublist _ _)
  · exact H
theorem DI.drop (H : DI m u v x) (id : Int) : DI (dropW m id) u v x := by
  unfold dropW dropO
  have hq := idxQ_lt (l := m.op) (p := fun x => decide (x.1 = id))
  split
  · refine H.ops ?_ (List.eraseIdx_sublist _ _)
    rw [List.length_eraseIdx, if_pos (by omega)]
    omega
  · exact H
theorem DI.foster (H : DI m u v x) (b : Bool) : DI { m with fo := b } u v x := ⟨H.G, H.B, H.ne, H.ids, H.nd, H.lo, H.ln, H.ml, H.mw, H.tx⟩
theorem push_mem {l : List MarkP} {y z : MarkP} (h : z ∈ pushP l y) : z ∈ l ∨ z = y := by
  unfold pushP at h
  split at h
  · rcases List.mem_append.1 h with h | h
    · exact .inl h
    · exact .inr (List.mem_singleton.1 h)
  · rcases List.mem_append.1 h with h | h
    · exact .inl (List.mem_of_mem_eraseIdx h)
    · exact .inr (List.mem_singleton.1 h)
theorem push_length (l : List MarkP) (y : MarkP) : (pushP l y).length ≤ l.length + 1 := by
  unfold pushP
  split
  · rw [List.length_append]; exact Nat.le_refl _
  · rw [List.length_append]
    have := List.length_eraseIdx_le l ((pushS l y).headD 0)
    show _ + 1 ≤ _
    omega
theorem DI.push (H : DI m u v x) {y : MarkP} (hy : y.2.1.length ≤ 4000 ∧ y.2.2.length ≤ 500 ∧ ∀ a ∈ y.2.2, a.2.length ≤ 4000) : DI { m with mks := pushP m.mks y } u (v + 1) x :=
  ⟨H.G, H.B, H.ne, H.ids, H.nd, H.lo, H.ln, by have := push_length m.mks y; have := H.ml; show (pushP _ _).length ≤ _; omega, fun z hz => by
    rcases push_mem hz with h | h
    · exact H.mw z h
    · rw [h]; exact hy, H.tx⟩
theorem MarksS.set {l : List MarkP} (w : MarksS l) {i : Nat} (hi : i < l.length) (id : Int) : MarksS (l.set i (id, l[i].2)) := fun x hx => by
  rcases List.mem_or_eq_of_mem_set hx with h | h
  · exact w x h
  · rw [h]; exact w l[i] (List.getElem_mem hi)
theorem DI.reb {v : Nat} : ∀ (k : Nat) {m : WM} {u x : Nat} (i : Nat), DI m u v x → i + k ≤ m.mks.length → DI (rebN k m i) (u + k) v x
  | 0, m, u, x, i, H, _ => H
  | k + 1, m, u, x, i, H, hik => by
    have hi : i < m.mks.length := by omega
    have h1 := H.insert 0 (m.mks.getD i noMark).2.1 (m.mks.getD i noMark).2.2
    have hg : m.mks.getD i noMark = m.mks[i] := getD_get hi
    have h2 : DI { insertM m 0 (m.mks.getD i noMark).2.1 (m.mks.getD i noMark).2.2 with mks := m.mks.set i ((m.ns.length : Int), (m.mks.getD i noMark).2) } (u + 1) v x :=
      ⟨h1.G, h1.B, h1.ne, h1.ids, h1.nd, h1.lo, h1.ln, by show (m.mks.set _ _).length ≤ v; rw [List.length_set]; exact H.ml, by rw [hg]; exact H.mw.set hi _, h1.tx⟩
    have := DI.reb k (i + 1) h2 (by show i + 1 + k ≤ (m.mks.set _ _).length; rw [List.length_set]; omega)
    rw [show u + (k + 1) = u + 1 + k by omega]
    exact this
theorem DI.rebuild (H : DI m u v x) : DI (rebuildW m) (u + v) v x := by
  have hr := lostTo_rng m.mks m.op m.mks.length
  have h1 : (lostP m.mks m.op).toNat ≤ m.mks.length := by have := hr.2; show (lostTo m.mks m.op m.mks.length).toNat ≤ _; omega
  have := DI.reb (m.mks.length - (lostP m.mks m.op).toNat) (lostP m.mks m.op).toNat H (by omega)
  exact this.mono (by have := H.ml; omega) (Nat.le_refl _) (Nat.le_refl _)
end
/-! ### both Worlds -/
def AS (s : Nat) : Prop := PS s ∨ RS s
structure PD (h : H) (col : Col) (w r : Addr) (m : WM) : Prop where
  P : PW h col w m
  R : RW h col r m
section
variable {h h' : H} {K : Value → H → Prop} {col col' : Col} {w r : Addr} {m m' : WM} {u v x : Nat}
theorem PD.kb (D : PD h col w r m) (k : KB h h') : PD h' col w r m := ⟨D.P.kb k, D.R.kb k⟩
theorem PW.otherR {h1 : H} {c1 : Col} (P : PW h col w m) (E : ExtP RS h col h1 c1) (f : Fresh h1 c1) : PW h1 c1 w m := P.ext E (by unfold RS; omega) (by unfold RS; omega) f
theorem RW.otherP {h1 : H} {c1 : Col} (R : RW h col r m) (E : ExtP PS h col h1 c1) (f : Fresh h1 c1) : RW h1 c1 r m := R.ext E (by unfold PS; omega) (by unfold PS; omega) f
/-- an act on both -/
theorem PD.act {h1 h2 : H} {c1 c2 : Col} (D : PD h col w r m) (P1 : PW h1 c1 w m') (E1 : ExtP PS h col h1 c1) (R2 : RW h2 c2 r m') (E2 : ExtP RS h1 c1 h2 c2) : PD h2 c2 w r m' ∧ ExtP AS h col h2 c2 :=
  ⟨⟨P1.otherR E2 R2.fresh, R2⟩, (E1.mono fun s hs => .inl hs).trans (E2.mono fun s hs => .inr hs)⟩
/-- they are alike -/
theorem alike_calls (D : PD h col w r m) (H : DI m u v x) (hu : u ≤ 1000000) (hv : v ≤ 1000000) (hk : ∀ h', KB h h' → K (.bool true) h') : HCalls Tryz.prog 22 ⟨[.pointer (some w), .pointer (some r)]⟩ h K := by
  obtain ⟨t, ads, T, W⟩ := D.P.ex
  obtain ⟨t2, T2, W2⟩ := D.R.ex
  obtain ⟨ob, oc, mb, mn, mc, vw, o, om⟩ := W.ex
  obtain ⟨ob2, oc2, mb2, mn2, mc2, vr, o2, om2⟩ := W2.ex
  have hlo := H.lo
  refine Sx.l13_alike.ok _ _ _ _ (vSomeMk ⟨_, _, _, vw.cell 1 rfl, vSomeMk ⟨_, _, _, vr.cell 1 rfl, sameOpen_calls o.row o2.row ?_⟩⟩)
  rw [decide_eq_true rfl]
  refine vBool_mk (condT (vSomeMk ⟨_, _, _, vw.cell 2 rfl, vSomeMk ⟨_, _, _, vr.cell 2 rfl, sameMarks_calls om.row om2.row ?_⟩⟩))
  rw [decide_eq_true rfl]
  have rest : ∀ h1, KB h h1 → Sx.l13_alike.n3 (some w) (some r) (fun y4 h => K (.bool y4) h) (fun y4 h => K (.bool y4) h) h1 := by
    intro h1 k1
    refine ⟨m.op.length + 1, ?_⟩
    have key : ∀ k i h2, i + k = m.op.length → KB h h2 →
        Sx.l13_alike.n7_L (fun z0 z1 h => Sx.l13_alike.n4 z0 z1 (fun y4 h => K (.bool y4) h) (fun y4 h => K (.bool y4) h) h) (fun z0 z1 h => Sx.l13_alike.n4 z0 z1 (fun y4 h => K (.bool y4) h) (fun y4 h => K (.bool y4) h) h) (fun y4 h => K (.bool y4) h) (k + 1) (some w) (some r) (i : Int) h2 := by
      intro k
      induction k with
      | zero =>
        intro i h2 hi k2
        unfold Sx.l13_alike.n7_L
        refine vSomeMk ⟨_, _, _, (vw.kb k2).cell 1 rfl, splF (by omega) ?_⟩
        obtain ⟨D1, hD1⟩ := H.G.deep
        refine vSomeMk ⟨_, (vw.kb k2).cell 0 rfl, vSomeMk ⟨_, (vr.kb k2).cell 0 rfl, ?_⟩⟩
        refine whole_calls H.G D1 0 (T.kb k2) (hD1 _ (Nat.le_refl _) 0) fun h3 b3 n3 c3 k3 o3 => vSliceMk ⟨k3.ext, ?_⟩
        refine whole_r H.G H.B D1 0 ((T2.kb k2).kb k3) (hD1 _ (Nat.le_refl _) 0) fun h4 b4 n4 c4 k4 o4 => vSliceMk ?_
        refine sameNodes_calls D1 (o3.kb k4).row o4.row fun h5 k5 => ?_
        rw [sameN_true rfl]
        exact vBool_mk (condT (hk h5 (((k2.trans k3).trans k4).trans k5)))
      | succ k ih =>
        intro i h2 hi k2
        have hil : i < m.op.length := by omega
        unfold Sx.l13_alike.n7_L
        refine vSomeMk ⟨_, _, _, (vw.kb k2).cell 1 rfl, splT (by omega) (vSomeMk ⟨_, _, _, (vw.kb k2).cell 1 rfl, (o.kb k2).row.idxN hil rfl fun q hA => ldOpen hA fun ow => ?_⟩)⟩
        refine where_calls (x := m.op[i]) (T.kb k2) (W.kb k2) (by omega) fun h3 k3 => tupIIMk ?_
        have k23 := k2.trans k3
        refine vSomeMk ⟨_, _, _, (vr.kb k23).cell 1 rfl, (o2.kb k23).row.idxN hil rfl fun q hA => ldOpen hA fun ow => ?_⟩
        refine refWhere_calls (x := m.op[i]) (T2.kb k23) H.G (W2.kb k23) (by omega) fun h4 k4 => tupIIMk ?_
        exact splT rfl (splT rfl ⟨rng64 (by omega) (by omega), ih (i + 1) h4 (by omega) (k23.trans k4)⟩)
    exact key m.op.length 0 h1 (by omega) k1
  have cur : HCalls Tryz.prog 25 ⟨[.pointer (some w)]⟩ h fun v94 h95 => vAgg v94 fun l96 => uncons l96 fun e97 l98 => vInt .i64 e97 fun i99 => uncons l98 fun e100 l101 => vInt .u8 e100 fun i102 => uncons l101 fun e103 l104 => vStr e103 fun s105 => uncons l104 fun e106 l107 => vInt .u8 e106 fun i108 => unnil l107 (HCalls Tryz.prog 10 ⟨[.pointer (some r)]⟩ h95 fun v109 h110 => vAgg v109 fun l111 => uncons l111 fun e112 l113 => vInt .i64 e112 fun i114 => uncons l113 fun e115 l116 => vInt .u8 e115 fun i117 => uncons l116 fun e118 l119 => vStr e118 fun s120 => uncons l119 fun e121 l122 => vInt .u8 e121 fun i123 => unnil l122 (SemR Tryz.prog (binS .neq 36 (.tmp 56) (.tmp 58) (.agg ⟨[(.int .i64 i99), (.int .u8 i102), (S s105), (.int .u8 i108)]⟩) (.agg ⟨[(.int .i64 i114), (.int .u8 i117), (S s120), (.int .u8 i123)]⟩)) h110 fun v124 => vBool v124 fun b125 => cond b125 (K (.bool false) h110) (Sx.l13_alike.n3 (some w) (some r) (fun y4 h => K (.bool y4) h) (fun y4 h => K (.bool y4) h) h110))) := by
    refine current_calls W H.ne (by omega) fun h3 k3 => agOpen (x := curM m.op) ?_
    refine refCurrent_calls (W2.kb k3) H.ne (by omega) fun h4 k4 => agOpen (x := curM m.op) ?_
    refine semR_neq (by kernel_rfl) (by rfl) (vBool_mk ?_)
    have e := eqOpen (curM m.op) (curM m.op)
    rw [e, decide_eq_true rfl]
    exact condF (rest h4 (k3.trans k4))
  refine vBool_mk (condT (vSomeMk ⟨_, vw.cell 4 rfl, vSomeMk ⟨_, vr.cell 4 rfl, splT rfl (vSomeMk ⟨_, vw.cell 3 rfl, condB (fun ef => vSomeMk ⟨_, vr.cell 3 rfl, ?_⟩) fun ef => vSomeMk ⟨_, vr.cell 3 rfl, ?_⟩⟩)⟩⟩))
  · rw [ef]; exact condT cur
  · rw [ef]; exact condF cur
end
end Go.Proofs
