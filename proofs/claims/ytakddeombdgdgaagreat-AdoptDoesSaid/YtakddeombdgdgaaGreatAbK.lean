import Derived.Test.YtakddeombdgdgaaGreatDrF
import Derived.Test.YtakddeombdgdgaaGreatTxG
import Derived.Test.YtakddeombdgdgaaGreatAaG
import Derived.Test.YtakddeombdgdgaaGreatDrB
import Derived.Test.YtakddeombdgdgaaGreatTxJ
import Derived.Test.YtakddeombdgdgaaGreatMsK
import Derived.Test.YtakddeombdgdgaaGreatTxI
namespace Go.Proofs
open Go Go.Sh
set_option linter.unusedVariables false
set_option maxRecDepth 100000
section
variable {h h' : H} {K : Value -> H -> Prop} {col col' : Col} {s i p : Nat} {t a : Addr} {ns : List NodeM} {x y : NodeM} {lb : Option Addr} {lc : Nat} {rs : List RawN} {r : RawN}
theorem move_eq (hx : ns[i]? = some x) (hy : ns[p]? = some y) (hne : i ≠ p) (hip : (i : Int) ∉ x.kids) (hpp : (p : Int) ∉ x.kids) :
    (parsTo (ns.set i { x with kids := [] }) x.kids p).set p { y with kids := y.kids ++ x.kids } = moveAt ns i p x.kids y.kids := by
  have hil := getI hx
  have hpl := getI hy
  refine List.ext_getElem? fun j => ?_
  by_cases e2 : p = j
  · subst e2
    rw [List.getElem?_set_self (by rw [parsTo_len, List.length_set]; exact hpl), moveAt_get hy, if_neg hpp, if_neg (Ne.symm hne), if_pos rfl]
  · rw [List.getElem?_set_ne e2]
    by_cases e : i = j
    · subst e
      rw [parsTo_get (List.getElem?_set_self hil), if_neg hip, moveAt_get hx, if_neg hip, if_pos rfl]
    · cases hj : ns[j]? with
      | none =>
        rw [List.getElem?_eq_none (by rw [parsTo_len, List.length_set]; exact List.getElem?_eq_none_iff.1 hj), List.getElem?_eq_none (by rw [moveAt_len]; exact List.getElem?_eq_none_iff.1 hj)]
      | some z =>
        rw [parsTo_get (z := z) (by rw [List.getElem?_set_ne e]; exact hj), moveAt_get hj, if_neg (Ne.symm e), if_neg (Ne.symm e2)]
        by_cases hm2 : (j : Int) ∈ x.kids
        · rw [if_pos hm2, if_pos hm2]
        · rw [if_neg hm2, if_neg hm2]
theorem move_r (T : RefP h col s t ns) (G : GoodT ns) {f dst : Int} (hk : ∀ h' col', RefP h' col' s t (moveM ns f dst).1 -> Ext s h col h' col' -> K (.bool (moveM ns f dst).2) h') :
    HCalls Tryz.prog 96 ⟨[.pointer (some t), .int .i64 f, .int .i64 dst]⟩ h K := by
  have no : ¬ ((0 <= f /\ f < ns.length) /\ holdB ns dst = true /\ (((ns[f.toNat]?).map (·.kids)).getD []) ≠ [] /\ withinP ns dst f = false) -> K (.bool false) h := fun hn => by
    have : moveM ns f dst = (ns, false) := by unfold moveM; rw [if_neg hn]
    rw [this] at hk
    exact hk h col T (Ext.refl _ _ _)
  refine Sx.r10_Tree_Move.ok _ _ _ _ _ (there_r T (vBool_mk (condB (fun hid => ?_) fun hid => holds_r T (vBool_mk (condB (fun _ => no fun hy => of_decide_eq_false hid hy.1) fun _ => no fun hy => of_decide_eq_false hid hy.1)))))
  refine holds_r T (vBool_mk (condB (fun hh => ?_) fun hh => no fun hy => by rw [hh] at hy; cases hy.2.1))
  have hid := of_decide_eq_true hid
  obtain ⟨p, y, ep, hy, hor⟩ := holdB_nat hh
  obtain ⟨i, ei⟩ := Int.eq_ofNat_of_zero_le hid.1
  have ei : f = (i : Int) := ei
  have hpl := getI hy
  have hil : i < ns.length := by omega
  have hx : ns[i]? = some (ns[i]'hil) := List.getElem?_eq_getElem hil
  generalize ns[i]'hil = x at hx
  have e1 : f.toNat = i := by rw [ei]; exact Int.toNat_natCast i
  have e2 : dst.toNat = p := by rw [ep]; exact Int.toNat_natCast p
  rw [e1, hx] at no
  have hft := T.few
  have T0 := T
  obtain ⟨lb, lc, rs, C, em⟩ := T
  obtain ⟨q, hq, rfl⟩ := map_get em hx
  have N := C.nodes i q hq
  have hkl := N.ok.len
  have hkcp := N.ok.own.cap
  have hk0 := hk
  rw [ei] at no ⊢
  refine condT (condT (rf_rd C hq fun a hc => ⟨_, _, _, hc 7 _ rfl, spl (fun e => no (fun hh => hh.2.2.1 (List.eq_nil_of_length_eq_zero (by show q.x.kids.length = 0; omega)))) fun e => within_r T0 G (by omega) (vBool_mk (condB (fun e => no (fun hh => by rw [e] at hh; cases hh.2.2.2)) fun hw => condF (rf_rd C hq fun a2 hc2 => ⟨_, _, _, hc2 7 _ rfl, ?_⟩)))⟩))
  have hm : moveM ns f dst = (moveAt ns i p q.x.kids y.kids, true) := by
    unfold moveM
    rw [e1, e2, hx, hy]
    rw [if_pos ⟨by omega, hh, fun h0 => by have h0 : q.x.kids = [] := h0; rw [h0] at hkl; simp at hkl; omega, by rw [ei]; exact hw⟩]
    rfl
  rw [hm] at hk
  have hnw : ¬ InC ns dst (i : Int) := fun hh => by
    unfold withinP at hw
    rw [@decide_eq_true (InC ns dst (i : Int)) (Classical.propDecidable _) hh] at hw; cases hw
  have hne : i ≠ p := fun e => hnw (by rw [ep, <- e]; exact inC_step.2 (.inl rfl))
  have hip : (i : Int) ∉ q.x.kids := fun h => by
    obtain ⟨m, w, e, hw2, hq2⟩ := (G.kid i _ _ hx).1 h
    have : m = i := by omega
    subst this
    rw [hx] at hw2; cases hw2
    exact G.ne_par hx hq2 rfl
  have hpp : (p : Int) ∉ q.x.kids := fun h => by
    obtain ⟨m, w, e, hw2, hq2⟩ := (G.kid i _ _ hx).1 h
    have : m = p := by omega
    subst this
    exact hnw (by rw [ep]; exact inC_step.2 (.inr (by rw [parI_some hw2, hq2]; exact inC_step.2 (.inl rfl))))
  have hfew := G.few hx
  have hfy := G.few hy
  have hnd := G.nodup i _ hx
  have hsum : q.x.kids.length + y.kids.length <= 1000000 := by
    have Gm := G.move hx hy (by rw [<- ep]; exact hnw)
    have h1 := Gm.few (moveAt_get hy)
    have h1 : (if p = i then [] else if p = p then y.kids ++ q.x.kids else y.kids).length <= _ := h1
    rw [if_neg (Ne.symm hne), if_pos rfl, List.length_append, moveAt_len] at h1
    omega
  refine vSomeMk ⟨_, _, _, C.v.cell 0 rfl, ref_kids C hq (Grow.refl h q.kb) (OwnI.none h) (fun q e => by cases e) fun h1 col1 C1 E1 k1 => ⟨q.kn + 1, ?_⟩⟩
  have T1 : RefP h1 col1 s t (ns.set i { q.x with kids := [] }) := ⟨_, _, _, C1, map_set em⟩
  have ok1 : OwnI h1 q.kb q.kn q.kc q.x.kids := N.ok.keep k1.w fun z e => ⟨N.ok.hi z e, fun e2 => by
    have h1 := N.hkc z e; rw [e2] at h1; have := (Prod.mk.inj (Option.some.inj h1)).2; omega⟩
  have hc1 : ∀ z, q.kb = some z -> col1 z.block = some (s, 2 * i + 3) := fun z e => by rw [E1.cl _ (N.ok.hi z e)]; exact N.hkc z e
  have hlen0 : (ns.set i { q.x with kids := [] }).length = ns.length := List.length_set
  clear hk0 C1 k1
  have key : ∀ N' m h2, m + N' = q.kn -> RefP h2 col1 s t (parsTo (ns.set i { q.x with kids := [] }) (q.x.kids.take m) p) -> OwnI h2 q.kb q.kn q.kc q.x.kids -> Ext s h col h2 col1 ->
      Sx.r10_Tree_Move.n13_L (fun z0 z2 z10b z10n z10c h => Sx.r10_Tree_Move.n10 z0 z2 z10b z10n z10c (fun y6 h => K (.bool y6) h) (fun y6 h => K (.bool y6) h) h) (fun z0 z2 z10b z10n z10c h => Sx.r10_Tree_Move.n10 z0 z2 z10b z10n z10c (fun y6 h => K (.bool y6) h) (fun y6 h => K (.bool y6) h) h) (fun y6 h => K (.bool y6) h) (N' + 1) (some t) dst q.kb q.kn q.kc (m : Int) h2 := by
    intro N'
    induction N' with
    | zero =>
      intro m h2 hmN T2 o2 E2
      unfold Sx.r10_Tree_Move.n13_L
      refine splF (by omega) ?_
      rw [List.take_of_length_le (by omega)] at T2
      have hy2 : (parsTo (ns.set i { q.x with kids := [] }) q.x.kids p)[p]? = some y := by rw [parsTo_get (z := y) (by rw [List.getElem?_set_ne hne]; exact hy), if_neg hpp]
      obtain ⟨lb2, lc2, rs2, C2, em2⟩ := T2
      obtain ⟨qp, hqp, eqp⟩ := map_get em2 hy2
      have Np := C2.nodes p qp hqp
      have hlp := Np.ok.len
      rw [eqp] at hlp
      have fin : ∀ b3 c3 h3, OwnI h3 b3 (qp.kn + q.kn) c3 (qp.x.kids ++ q.x.kids) -> Grow h2 h3 qp.kb -> NewB h2 qp.kb b3 -> (0 <= (p : Int) /\ (p : Int) < (rs2.length : Int)) /\ vSome lb2 fun a => stL ((a.add (Int.toNat (p : Int) * 8)).add 7) [.slice b3 (qp.kn + q.kn) c3] 0 h3 fun h' => K (.bool true) h' := fun b3 c3 h3 o3 g3 nb => by
        refine ref_kids C2 hqp g3 o3 nb fun h4 col4 C4 E4 _ => ?_
        have em4 := map_set (i := p) (r' := ⟨{ qp.x with kids := qp.x.kids ++ q.x.kids }, qp.ab, qp.an, qp.ac, b3, qp.kn + q.kn, c3⟩) em2
        have T4 : RefP h4 col4 s t _ := ⟨_, _, _, C4, em4⟩
        rw [show (({ qp.x with kids := qp.x.kids ++ q.x.kids } : NodeM)) = { y with kids := y.kids ++ q.x.kids } by rw [eqp], move_eq hx hy hne hip hpp] at T4
        exact hk h4 col4 T4 (E2.trans E4)
      rw [ep]
      have ht := C2.v.lt
      have far : ∀ h3, Grow h2 h3 qp.kb -> Var h3 t 108 [.slice lb2 rs2.length lc2] := fun h3 g => C2.v.keep g.keep.w ⟨ht, fun z e e2 => by
        have h1 := Np.hkc z e; rw [e2, C2.colt] at h1; have := (Prod.mk.inj (Option.some.inj h1)).2; omega⟩
      refine ⟨vSomeMk (rf_rd C2 hqp fun a3 hc3 => ⟨_, _, _, hc3 7 _ rfl, appI_k Np.ok o2 (by omega) fun b3 c3 h3 o3 g3 nb => vSliceMk ⟨_, _, _, (far h3 g3).cell 0 rfl, fin b3 c3 h3 o3 g3 nb⟩⟩), vSomeMk ⟨_, _, _, C2.v.cell 0 rfl, rf_rd C2 hqp fun a3 hc3 => ⟨_, _, _, hc3 7 _ rfl, appI_k Np.ok o2 (by omega) fun b3 c3 h3 o3 g3 nb => vSliceMk (fin b3 c3 h3 o3 g3 nb)⟩⟩⟩
    | succ N' ih =>
      intro m h2 hmN T2 o2 E2
      unfold Sx.r10_Tree_Move.n13_L
      have hml : m < q.x.kids.length := by omega
      obtain ⟨j, z, ej, hz', hpz⟩ := (G.kid i _ _ hx).1 (List.getElem_mem hml)
      have hjl := getI hz'
      have hji : j ≠ i := fun e => hip (by rw [<- e, <- ej]; exact List.getElem_mem hml)
      have hz0 : (ns.set i { q.x with kids := [] })[j]? = some z := by rw [List.getElem?_set_ne (Ne.symm hji)]; exact hz'
      have hno : (j : Int) ∉ q.x.kids.take m := fun hm2 => by
        rw [<- ej] at hm2
        obtain ⟨v, hv, e⟩ := List.getElem_of_mem hm2
        rw [List.length_take] at hv
        rw [List.getElem_take] at e
        have := (List.getElem_inj hnd).1 e
        omega
      have hzj : (parsTo (ns.set i { q.x with kids := [] }) (q.x.kids.take m) p)[j]? = some z := by rw [parsTo_get hz0, if_neg hno]
      have st := ref_par T2 hzj (q := (p : Int)) (rngI (by omega) (by omega)) (Q := fun h129 => Rng .i64 ((m : Int) + (1 : Int)) /\ (Sx.r10_Tree_Move.n13_L (fun z0 z2 z10b z10n z10c h => Sx.r10_Tree_Move.n10 z0 z2 z10b z10n z10c (fun y6 h => K (.bool y6) h) (fun y6 h => K (.bool y6) h) h) (fun z0 z2 z10b z10n z10c h => Sx.r10_Tree_Move.n10 z0 z2 z10b z10n z10c (fun y6 h => K (.bool y6) h) (fun y6 h => K (.bool y6) h) h) (fun y6 h => K (.bool y6) h) (N' + 1) (some t) dst q.kb q.kn q.kc ((m : Int) + (1 : Int)) h129)) fun h3 T3 E3 k3 => ⟨rngI (by omega) (by omega), by
        rw [parsTo_step hz0 hno, <- ej, show q.x.kids.take m ++ [q.x.kids[m]] = q.x.kids.take (m + 1) by rw [List.take_add_one, List.getElem?_eq_getElem hml]; rfl] at T3
        exact ih (m + 1) h3 (by omega) T3 (o2.keep k3.w fun z e e3 => by
          have h1 := hc1 z e; rw [e3] at h1; have := (Prod.mk.inj (Option.some.inj h1)).2; omega) (E2.trans E3)⟩
      obtain ⟨b, n, c, hcell, hst⟩ := st
      refine splT (by omega) (vSomeMk ⟨b, n, c, hcell, (o2.row (A := fun _ => True) fun _ _ => trivial).idxN hml rfl fun q hA => ldI hA fun _ => ?_⟩)
      rw [ej, ep]
      rw [ep] at hst
      exact hst
  exact key q.kn 0 h1 (by omega) (by rw [List.take_zero, parsTo_nil]; exact T1) ok1 E1
end
end Go.Proofs
namespace Go.Proofs
open Go Go.Sh
set_option linter.unusedVariables false
set_option maxRecDepth 100000
theorem copyR_eqA {ns : List NodeM} (B : BareT ns) (id : Int) : copyR ns id = Go.Proofs.copyM ns id := by
  unfold copyR
  by_cases h : id = 0
  · rw [if_pos h]
    subst h
    rcases copyM_of (ns := ns) 0 with ⟨z, hz, e⟩ | e
    · rw [e]
      have hk := B.root z hz
      unfold bareM
      rw [if_neg (by omega), if_neg (by omega)]
      rfl
    · rw [e]
  · rw [if_neg h]
section
variable {A B : Nat -> Prop} {h h' : H} {K : Value -> H -> Prop} {col col' : Col} {w t : Addr} {m : WM} {nm : Bs} {u v x ty hi' : Nat} {hi : Int} {fo : Bool} {op : List OpenP} {mk : List MarkP} {ns : List NodeM} {b : Option Addr} {n c : Nat}
theorem copyT_r (T : RefP h col 1 t ns) (W : WorldW h col 3 ty w t op mk fo hi) (B : BareT ns) (hfew : ns.length < 1000000) {id : Int} (hk : ∀ h' col', RefP h' col' 1 t (copyM ns id).1 -> WorldW h' col' 3 ty w t op mk fo hi -> ExtP RS h col h' col' -> K (.int .i64 (copyM ns id).2) h') :
    HCalls Tryz.prog 95 ⟨[.pointer (some t), .int .i64 id]⟩ h K :=
  copy_r T hfew (by rw [copyR_eqA B]; exact fun h' c' T' E' => hk h' c' T' (W.ext (S := fun s => s = 1) (E'.p rfl) (by decide)) (E'.p (.inl rfl)))
theorem putT_r (T : RefP h col 1 t ns) (W : WorldW h col 3 ty w t op mk fo hi) (G : GoodT ns) {q b i : Int} (hk : ∀ h' col', RefP h' col' 1 t (putM ns q b i).1 -> WorldW h' col' 3 ty w t op mk fo hi -> ExtP RS h col h' col' -> K (.bool (putM ns q b i).2) h') :
    HCalls Tryz.prog 32 ⟨[.pointer (some t), .int .i64 q, .int .i64 b, .int .i64 i]⟩ h K :=
  put_r T G fun h' c' T' E' => hk h' c' T' (W.ext (S := fun s => s = 1) (E'.p rfl) (by decide)) (E'.p (.inl rfl))
theorem moveT_r (T : RefP h col 1 t ns) (W : WorldW h col 3 ty w t op mk fo hi) (G : GoodT ns) {f d : Int} (hk : ∀ h' col', RefP h' col' 1 t (moveM ns f d).1 -> WorldW h' col' 3 ty w t op mk fo hi -> ExtP RS h col h' col' -> K (.bool (moveM ns f d).2) h') :
    HCalls Tryz.prog 96 ⟨[.pointer (some t), .int .i64 f, .int .i64 d]⟩ h K :=
  move_r T G fun h' c' T' E' => hk h' c' T' (W.ext (S := fun s => s = 1) (E'.p rfl) (by decide)) (E'.p (.inl rfl))
theorem app_drop {α : Type} {E : El α} {tt e by' : Nat} {P : Program} (ap : Apd P E tt e by') {base : Nat} {h1 : H} {sb rb : Option Addr} {n1 c1 n cc : Nat} {l1 l : List α} {xs : List Value} (o : OwnA E A h1 base e sb n1 c1 l1) (hA : ∀ k, A k -> k < base) (k1 : KB h h1) (hb0 : h.size <= base) (hb1 : base <= h1.size)
    (he : Enc E A h l xs) (hA0 : ∀ k, A k -> k < h.size) (hc : Cells h rb xs) (hl : l.length = n) {lo : Nat} (hlo : lo <= n) (hcc : n <= cc) (hn : n1 + n <= 100000000) (hby : (n1 + (n - lo)) * by' <= 140737488355328) {K : Value -> H -> Prop}
    (hk : ∀ b' c' h', OwnA E A h' base e b' (n1 + (n - lo)) c' (l1 ++ l.drop lo) -> KB h h' -> K (.slice b' (n1 + (n - lo)) c') h') :
    SemH P (Builtin.append_ #[tt, tt] tt ⟨[.slice sb n1 c1, .slice (if cc = lo then rb else Option.map (fun q => q.add (lo * E.sz)) rb) (n - lo) (cc - lo)]⟩) h1 K := by
  have hxl : xs.length = n * E.sz := by rw [he.len, hl]
  have hcd := Cells.drop (c := cc) (lo := lo) (z := E.sz) hc (fun e => List.drop_of_length_le (by
    rw [hxl]
    have h2 : n = lo := by omega
    rw [h2]; exact Nat.le_refl _))
  have hed := he.drop lo
  refine OwnA.append ap o hA (l2 := l.drop lo) (by rw [List.length_drop, hl]) (hed.keep ((KB.w k1).less fun k hk => hk.2) fun _ h _ => h) (fun j u hu => by
    obtain ⟨q, e, ec⟩ := hcd j u hu
    exact ⟨q, e, (KB.w k1).cell (cell_lt ec) ec⟩) (by simp only [maxLen]; omega) hby hb1 fun b4 c4 h4 o4 g4 => hk b4 c4 h4 o4 (g4.kb0 k1 fun q e => Nat.le_trans hb0 (o.lo q e))
theorem app_take {α : Type} {E : El α} {tt e by' : Nat} {P : Program} (ap : Apd P E tt e by') {rb : Option Addr} {n : Nat} {l : List α} {xs : List Value} (he : Enc E A h l xs) (hA0 : ∀ k, A k -> k < h.size) (hc : Cells h rb xs) (hl : l.length = n) {hi cc : Nat} (hhi : hi <= n) (hn : n <= 100000000) (hby : hi * by' <= 140737488355328) {K : Value -> H -> Prop}
    (hk : ∀ b' c' h', OwnA E A h' h.size e b' hi c' (l.take hi) -> KB h h' -> K (.slice b' hi c') h') :
    SemH P (Builtin.append_ #[tt, tt] tt ⟨[.slice none 0 0, .slice rb hi cc]⟩) h K := by
  refine OwnA.append ap (OwnA.none A h h.size e) hA0 (l2 := l.take hi) (by rw [List.length_take]; omega) (he.take hi) (hc.take _) (by simp only [maxLen]; omega) (by rw [Nat.zero_add]; exact hby) (Nat.le_refl _) fun b1 c1 h1 o1 g1 => ?_
  rw [Nat.zero_add] at o1 ⊢
  rw [List.nil_append] at o1
  exact hk b1 c1 h1 o1 (g1.kb0 (KB.refl h) fun q e => by cases e)
theorem without_calls {xs : List Value} {l : List MarkP} (hx : Enc elMark A h l xs) (hcx : Cells h b xs) (hA : ∀ k, A k -> k < h.size) (hl : l.length = n) (hcc : n <= c) {k : Nat} (hkl : k < n) (hn : n <= 1000000)
    (hk : ∀ b' n' c' h', OwnA elMark A h' h.size 36 b' n' c' (l.eraseIdx k) -> KB h h' -> K (.slice b' n' c') h') : HCalls Tryz.prog 49 ⟨[.slice b n c, .int .i64 (k : Int)]⟩ h K := by
  refine Sx.r14_without.ok _ _ _ _ _ _ ⟨⟨by omega, by omega, by omega⟩, ?_⟩
  rw [base0]
  have e1 : Int.toNat (k : Int) - Int.toNat (0 : Int) = k := by rw [Int.toNat_natCast]; rfl
  rw [e1]
  refine app_take apdMark hx hA hcx hl (hi := k) (by omega) (by omega) (by omega) fun b1 c1 h1 o1 k1 => vSliceMk ⟨rng64 (by omega) (by omega), ⟨by omega, by omega, by omega⟩, ?_⟩
  have e2 : ((k : Int) + (1 : Int)) = ((k + 1 : Nat) : Int) := rfl
  rw [e2, Int.toNat_natCast, Int.toNat_natCast]
  refine app_drop apdMark (lo := k + 1) o1 hA k1 (Nat.le_refl _) k1.1 hx hA hcx hl (by omega) hcc (by omega) (by omega) fun b2 c2 h2 o2 k2 => vSliceMk ?_
  rw [<- List.eraseIdx_eq_take_drop_succ] at o2
  exact hk b2 _ c2 h2 o2 k2
theorem unmarkR_k (p : RW h col w m) {k : Nat} (hkl : k < m.mks.length) (hml : m.mks.length <= 1000000) {Q : H -> Prop} (hk : ∀ h' col', RW h' col' w (unmark m k) -> ExtP RS h col h' col' -> Q h') :
    vSome (some w) fun a => ∃ b n c, cell h (a.add 2) = some (.slice b n c) /\ (HCalls Tryz.prog 49 ⟨[.slice b n c, .int .i64 (k : Int)]⟩ h fun v h1 => vSlice v fun b n c => vSome (some w) fun a => stL (a.add 2) [.slice b n c] 0 h1 fun h2 => Q h2) := by
  obtain ⟨t, T, W⟩ := p.ex
  obtain ⟨ob, oc, mb, mn, mc, v, o, om⟩ := W.ex
  obtain ⟨xs, he, hc, _⟩ := om.parts
  have hl := om.len
  refine vSomeMk ⟨_, _, _, v.cell 2 rfl, without_calls he hc (fun k hk => hk.2) hl om.cap.1 (by omega) (by omega) fun b1 n1 c1 h1 o1 k1 => vSliceMk (vSomeMk ?_)⟩
  exact setMarks_k W p.fresh k1 o1 fun h2 W2 E2 f2 _ => hk h2 _ ⟨t, T.otherP (Z := fun k => k = 3) (by decide) E2 f2, W2⟩ (E2.mono fun s hs => .inr hs)
theorem openR_calls (p : RW h col w m) (hop : m.op.length <= 1000000) {i : Nat} (hil : i < m.op.length) {y : OpenP} (hy : OpenW y) (hk : ∀ h' col', RW h' col' w { m with op := insAt m.op (i + 1) y } -> ExtP RS h col h' col' -> K (.tuple ⟨[]⟩) h') :
    HCalls Tryz.prog 97 ⟨[.pointer (some w), .int .i64 (i : Int), .agg ⟨cellsO y⟩]⟩ h K := by
  obtain ⟨t, T, W⟩ := p.ex
  refine Sx.r14_open.ok _ _ _ _ _ _ _ _ (newx_var fun a1 h1 v1 k1 e1 s1 => vSomeMk ?_)
  have v1 : Var h1 a1 60 (cellsO y) := v1
  obtain ⟨ob, oc, mb, mn, mc, v, o, om⟩ := (W.kb k1).ex
  have f1 := p.fresh.kb k1
  obtain ⟨xs, he0, hc, _⟩ := o.parts
  have he : Enc elOpen Non h1 m.op xs := Enc.flat flatOpen he0
  have hA : ∀ k, Non k -> k < h1.size := fun k hk => absurd hk id
  have hcap := o.cap
  have e2 : ((i : Int) + (1 : Int)) = ((i + 1 : Nat) : Int) := rfl
  refine ⟨_, _, _, v.cell 1 rfl, rng64 (by omega) (by omega), ⟨by omega, by omega, by omega⟩, ?_⟩
  rw [base0, e2]
  have e1 : Int.toNat ((i + 1 : Nat) : Int) - Int.toNat (0 : Int) = i + 1 := by rw [Int.toNat_natCast]; rfl
  rw [e1]
  refine app_take apdOpen he hA hc rfl (hi := i + 1) (by omega) (by omega) (by omega) fun b2 c2 h2 o2 k2 => vSliceMk ?_
  have v12 := v1.kb k2
  refine ⟨_, v12.cell 0 rfl, _, v12.cell 1 rfl, _, v12.cell 2 rfl, _, v12.cell 3 rfl, newx_var fun a12 h3 v3 k3 e3 s3 => ?_⟩
  have k13 := k2.trans k3
  refine OwnA.append1 apdOpen (x := y) (cs := cellsO y) (o2.kb k3) hA v3 (openR hy) (by simp only [maxLen]; omega) (by omega) k13.1 fun b4 c4 h4 o4 g4 => vSliceMk (vSomeMk ?_)
  have k14 : KB h1 h4 := g4.kb0 k13 o2.lo
  refine ⟨_, _, _, (v.kb k14).cell 1 rfl, rng64 (by omega) (by omega), ⟨by omega, by omega, by omega⟩, ?_⟩
  rw [Int.toNat_natCast, Int.toNat_natCast]
  refine app_drop apdOpen (lo := i + 1) o4 hA k14 (Nat.le_refl _) k14.1 he hA hc rfl (by omega) hcap.1 (by omega) (by omega) fun b5 c5 h5 o5 k5 => vSliceMk (vSomeMk ?_)
  have el : m.op.take (i + 1) ++ [y] ++ m.op.drop (i + 1) = insAt m.op (i + 1) y := by unfold insAt; rw [List.append_assoc]; rfl
  rw [el] at o5
  have hln : i + 1 + 1 + (m.op.length - (i + 1)) = (insAt m.op (i + 1) y).length := by rw [ins_len]; omega
  rw [hln] at o5 ⊢
  refine setOpen_k (W.kb k1) f1 k5 o5 fun h6 W6 E6 f6 _ => hk h6 _ ⟨t, (T.kb k1).otherP (Z := fun k => k = 3) (by decide) E6 f6, W6⟩ ((ExtP.kb k1).trans (E6.mono fun s hs => .inr hs))
end
end Go.Proofs
namespace Go.Proofs
open Go Go.Sh
set_option linter.unusedVariables false
set_option maxRecDepth 100000
def RA (s : Nat) : Prop := RS s ∨ s = 5
structure LocO (h : H) (col : Col) (a : Addr) (y : OpenP) : Prop where
  v : Var h a 60 (cellsO y)
  c : col a.block = some (5, 0)
section
variable {Z : Nat -> Prop} {h h' : H} {K : Value -> H -> Prop} {col col' : Col} {w x6 x7 x10 : Addr} {m : WM} {f : Int} {bl y : OpenP} {u v x j b q : Nat}
theorem LocO.ext (g : LocO h col x10 y) (e : ExtP Z h col h' col') (hz : ¬ Z 5) : LocO h' col' x10 y :=
  ⟨g.v.keep e.sk.w ⟨g.v.lt, fun s p hs e2 => by rw [g.c] at e2; cases e2; exact hz hs⟩, by rw [e.cl _ g.v.lt]; exact g.c⟩
theorem LocO.rs (g : LocO h col x10 y) (e : ExtP RS h col h' col') : LocO h' col' x10 y := g.ext e (by unfold RS; omega)
theorem LocO.kb (g : LocO h col x10 y) (k : KB h h') : LocO h' col x10 y := g.ext (Z := fun _ => False) (.kb k) id
theorem ExtP.ra (e : ExtP RS h col h' col') : ExtP RA h col h' col' := e.mono fun s hs => .inl hs
theorem locSt (g : LocO h col x10 y) (p : RW h col w m) {y2 : OpenP} {Q : H -> Prop} (hk : ∀ h', LocO h' col x10 y2 -> RW h' col w m -> ExtP RA h col h' col -> Q h') : stL x10 (cellsO y2) 0 h Q := by
  refine stL_var0 g.v (by show 4 <= 4; omega) fun h3 v3 k3 s3 => ?_
  have E : ExtP (fun s => s = 5) h col h3 col := ExtP.kx k3 g.c rfl
  exact hk h3 ⟨v3, g.c⟩ (p.ext E (by decide) (by decide) fun k hk => p.fresh k (by omega)) (E.mono fun s hs => .inr hs)
theorem overlap_loop {KE : Sx.r14_overlap.T5} {Kr : Sx.r14_overlap.T0} {R : WM × Int × Nat} {h0 : H} {col0 : Col} (v7 : Var h0 x7 60 (cellsO bl)) (c7 : col0 x7.block = none)
    (hE : ∀ h' col' y, RW h' col' w R.1 -> LocO h' col' x10 y -> y.1 = R.2.1 -> ExtP RA h0 col0 h' col' -> KE (some w) f x6 x7 (R.2.2 : Nat) x10 h') : ∀ (q n : Nat) {m : WM} {u v x b : Nat} {y : OpenP} {h : H} {col : Col}, LocO h col x10 y -> RW h col w m -> CI m u v x f j b q ->
      u + (3 - n) <= 900000 -> v <= 900000 -> n + q <= 1000000 -> climbN bl.1 f q n m y.1 b = R -> ExtP RA h0 col0 h col -> Sx.r14_overlap.n19_L KE KE Kr q (some w) f x6 x7 (b : Int) x10 (q : Int) ((n + 1 : Nat) : Int) h
  | 0, n, m, u, v, x, b, y, h, col, g, p, C, hu, hv, hn, hR, E0 => absurd C.hj (by omega)
  | q + 1, n, m, u, v, x, b, y, h, col, g, p, C, hu, hv, hn, hR, E0 => by
    obtain ⟨t, T, W⟩ := p.ex
    obtain ⟨ob, oc, mb, mn, mc, vw, o, om⟩ := W.ex
    have hq : q < m.op.length := by have := C.hq; omega
    have hlo := C.A.D.lo
    have hln := C.A.D.ln
    have hml := C.A.D.ml
    have hb := C.hb
    have hx1 : (((q + 1 : Nat) : Int)) - (1 : Int) = (q : Int) := by omega
    have hx2 : (((n + 1 : Nat) : Int)) + (1 : Int) = ((n + 1 + 1 : Nat) : Int) := by omega
    have eg : m.op.getD q noOpen = m.op[q] := getD_get hq
    unfold climbN at hR
    simp only [] at hR
    rw [eg] at hR
    unfold Sx.r14_overlap.n19_L LP Sx.r14_overlap.n19_B
    refine ⟨rng64 (by omega) (by omega), ?_⟩
    dsimp only [sqF]
    rw [hx1]
    refine vSomeMk ⟨_, _, _, vw.cell 1 rfl, o.row.idxN (i := q) hq rfl fun qa hA => ldOpen hA fun ow => newx_var fun ax h1 vx1 k1 e1 s1 => stL_var0 vx1 (by show 4 <= 4; omega) fun h2 vx k2 s2 => ?_⟩
    have k02 : KB h h2 := KB.step k1 k2 (by omega)
    have cax : col ax.block = none := p.fresh _ (by omega)
    have vx : Var h2 ax 60 (cellsO m.op[q]) := vx
    have p2 := p.kb k02
    have g2 := g.kb k02
    have E02 : ExtP RA h0 col0 h2 col := E0.trans (.kb k02)
    refine ⟨_, vx.cell 0 rfl, spl (fun ef => ?_) fun ef => ?_⟩
    · rw [if_pos ef] at hR
      subst hR
      exact hE h2 col y p2 g2 rfl E02
    rw [if_neg ef] at hR
    have efg : (m.op.getD q noOpen).1 ≠ f := by rw [eg]; exact ef
    have v2 := vw.kb k02
    refine vSomeMk ⟨_, _, _, v2.cell 2 rfl, _, vx.cell 0 rfl, refFind_calls (om.kb k02).row (vIntMk ?_)⟩
    have drops : ∀ (m2 : WM) (b2 : Nat) h4 col4 i, i < 0 -> RW h4 col4 w m2 -> LocO h4 col4 x10 y -> ExtP RA h2 col h4 col4 -> CI m2 u v x f j b2 (q + 1) -> m2.op = m.op -> climbN bl.1 f q (n + 1) (dropW m2 m.op[q].1) y.1 b2 = R ->
        Sx.r14_overlap.n28 (some w) f x6 x7 (b2 : Int) x10 (q : Int) ((n + 1 : Nat) : Int) ax i (fun z0 z1 z6 z7 z9 z10 z11 z12 h => Rng .i64 (z12 + (1 : Int)) /\ Sx.r14_overlap.n19_L KE KE Kr q z0 z1 z6 z7 z9 z10 z11 (z12 + (1 : Int)) h) (fun z0 z1 z6 z7 z9 z10 z11 z12 h => Rng .i64 (z12 + (1 : Int)) /\ Sx.r14_overlap.n19_L KE KE Kr q z0 z1 z6 z7 z9 z10 z11 (z12 + (1 : Int)) h) KE Kr h4 := fun m2 b2 h4 col4 i hi p4 g4 E4 C2 ho hR2 => by
      have vx4 : Var h4 ax 60 (cellsO m.op[q]) := vx.keep E4.keepF ⟨cax, vx.lt⟩
      have hlo2 := C2.A.D.lo
      have eg2 : m2.op.getD q noOpen = m.op[q] := by rw [ho]; exact eg
      refine splT hi ⟨_, vx4.cell 0 rfl, refDrop_calls p4 (by omega) C2.A.D.nd fun h5 col5 p5 E5 => ⟨rng64 (by omega) (by omega), ?_⟩⟩
      have C3 := C2.dropQ (by rw [eg2]; exact ef)
      rw [eg2] at C3
      rw [hx2]
      exact overlap_loop v7 c7 hE q (n + 1) (g4.rs E5) p5 C3 (by omega) hv (by omega) hR2 ((E02.trans E4).trans E5.ra)
    by_cases hk : 0 <= findP m.mks m.op[q].1
    · obtain ⟨_, hkl, hke⟩ := findP_yes hk
      obtain ⟨k, ek⟩ := Int.eq_ofNat_of_zero_le hk
      have ekn : (findP m.mks m.op[q].1).toNat = k := by rw [ek]; rfl
      rw [ekn] at hkl hR
      rw [ek]
      have hkg : 0 <= findP m.mks (m.op.getD q noOpen).1 := by rw [eg]; exact hk
      by_cases hn3 : n < 3
      · -- it is copied
        rw [if_pos ⟨hk, hn3⟩] at hR
        refine splT (by omega) (splF (by omega) (condF (splF (by omega) ?_)))
        obtain ⟨t3, T3, W3⟩ := p2.ex
        obtain ⟨ob3, oc3, mb3, mn3, mc3, vw3, o3, om3⟩ := W3.ex
        refine vSomeMk ⟨_, vw3.cell 0 rfl, _, vx.cell 0 rfl, copyT_r T3 W3 C.A.D.B (by omega) fun h4 col4 T4 W4 E4 => vIntMk ?_⟩
        obtain ⟨A1, ec, hcl, _⟩ := C.A.copy (List.getElem_mem hq) (C.A.ne0 hq (C.pos efg))
        obtain ⟨c, hc⟩ : ∃ c, (copyM m.ns m.op[q].1).2 = c := ⟨_, rfl⟩
        rw [hc] at ec hR ⊢
        have hcr : Rng .i64 c := by rw [ec]; exact rng64 (by omega) (by omega)
        have g4 := g2.rs E4
        have f4 : Fresh h4 col4 := T4.fresh
        obtain ⟨ob4, oc4, mb4, mn4, mc4, vw4, o4, om4⟩ := W4.ex
        obtain ⟨qo, rfl⟩ := row_some o4.row hq
        obtain ⟨qm, rfl⟩ := row_some om4.row hkl
        have hml4 := om4.len
        refine vSomeMk ⟨_, _, _, vw4.cell 1 rfl, ⟨by omega, by omega⟩, vSomeMk ?_⟩
        refine setOpenId_k W4 f4 (vw4.cell 1 rfl) (i := q) hq hcr fun h5 W5 E5 f5 keep5 => ?_
        have c5 : cell h5 (w.add 2) = some (.slice (some qm) mn4 mc4) := by
          have hw : h5[w.block]? = h4[w.block]? := keep5 _ (by rw [W4.col]; intro e; cases e)
          have := vw4.cell 2 (x := .slice (some qm) mn4 mc4) rfl
          unfold cell at this ⊢
          rw [add_block] at this ⊢
          rw [hw]; exact this
        refine vSomeMk ⟨_, _, _, c5, ⟨by omega, by omega⟩, vSomeMk ?_⟩
        rw [show Int.toNat (k : Int) = k from rfl]
        refine setMarkId_k W5 f5 c5 (i := k) hkl hcr fun h6 W6 E6 f6 c6 => ?_
        have E46 : ExtP RS h4 col4 h6 col4 := (E5.mono fun s hs => .inr hs).trans (E6.mono fun s hs => .inr hs)
        have T6 := (T4.otherP (Z := fun k => k = 3) (by decide) E5 f5).otherP (Z := fun k => k = 3) (by decide) E6 f6
        have g6 := g4.rs E46
        have E06 : ExtP RA h0 col0 h6 col4 := (E02.trans E4.ra).trans E46.ra
        have v76 : Var h6 x7 60 (cellsO bl) := v7.keep E06.keepF ⟨c7, v7.lt⟩
        have hgm : m.mks.getD k noMark = m.mks[k] := getD_get hkl
        have p6 : RW h6 col4 w { m with ns := (copyM m.ns m.op[q].1).1, op := m.op.set q (c, m.op[q].2), mks := m.mks.set k (c, m.mks[k].2) } := ⟨t3, T6, W6⟩
        obtain ⟨_, _, _, _, _, vw6, _, _⟩ := W6.ex
        have puts : ∀ (b2 : Nat), b2 = (if y.1 = bl.1 then k + 1 else b) ->
            Sx.r14_overlap.n33 (some w) f x6 x7 (b2 : Int) x10 (q : Int) ((n + 1 : Nat) : Int) c (fun z0 z1 z6 z7 z9 z10 z11 z12 h => Rng .i64 (z12 + (1 : Int)) /\ Sx.r14_overlap.n19_L KE KE Kr q z0 z1 z6 z7 z9 z10 z11 (z12 + (1 : Int)) h) (fun z0 z1 z6 z7 z9 z10 z11 z12 h => Rng .i64 (z12 + (1 : Int)) /\ Sx.r14_overlap.n19_L KE KE Kr q z0 z1 z6 z7 z9 z10 z11 (z12 + (1 : Int)) h) KE Kr h6 := fun b2 hb2 => by
          refine vSomeMk ⟨_, vw6.cell 0 rfl, _, g6.v.cell 0 rfl, putT_r T6 W6 A1.D.G fun h8 col8 T8 W8 E8 => vBool_mk ?_⟩
          have C2 := C.copy efg hkg y.1 (b' := b2) (by rw [eg, ekn, hb2]; split; exact .inl rfl; exact .inr rfl)
          simp only [eg, ekn, hc, hgm] at C2
          simp only [hgm] at hR
          obtain ⟨_, _, _, _, _, vw8, o8, _⟩ := W8.ex
          have hq8 : q < (m.op.set q (c, m.op[q].2)).length := by rw [List.length_set]; exact hq
          have p8 : RW h8 col8 w { m with ns := (putM (copyM m.ns m.op[q].1).1 c (-1) y.1).1, op := m.op.set q (c, m.op[q].2), mks := m.mks.set k (c, m.mks[k].2) } := ⟨t3, T8, W8⟩
          refine condB (fun _ => ?_) fun _ => ?_
          all_goals
            refine vSomeMk ⟨_, _, _, vw8.cell 1 rfl, o8.row.idxN (i := q) hq8 rfl fun qa hA => ?_⟩
            rw [List.getElem_set_self] at hA
            refine ldOpen hA fun ow => locSt (g6.rs E8) p8 (y2 := (c, m.op[q].2)) fun h9 g9 p9 E9 => ⟨rng64 (by omega) (by omega), ?_⟩
            rw [hx2]
            exact overlap_loop (Kr := Kr) v7 c7 hE q (n + 1) g9 p9 C2 (by omega) hv (by omega) (by rw [hb2]; exact hR) ((E06.trans E8.ra).trans E9)
        refine ⟨_, g6.v.cell 0 rfl, _, v76.cell 0 rfl, spl (fun el => ⟨rng64 (by omega) (by omega), puts (k + 1) (by rw [if_pos el])⟩) fun el => puts b (by rw [if_neg el])⟩
      · -- it is no more
        rw [if_neg (fun h => hn3 h.2), if_pos hk] at hR
        refine splT (by omega) (splT (by omega) (condT ?_))
        refine unmarkR_k p2 hkl (by omega) fun h4 col4 p4 E4 => ?_
        have C2 := C.unmark efg hkg
        rw [eg, ekn] at C2
        have fin := fun bb (hbb : ((unbook b k : Nat) : Int) = bb) => hbb ▸ drops (unmark m k) (unbook b k) h4 col4 (-1) (by decide) p4 (g2.rs E4) E4.ra C2 rfl hR
        refine spl (fun hlt => ⟨rng64 (by omega) (by omega), fin _ ?_⟩) fun hnl => fin _ ?_
        · unfold unbook; rw [if_pos (by omega)]; omega
        · unfold unbook; rw [if_neg (by omega)]
    · rw [if_neg (fun h => hk h.1), if_neg hk] at hR
      exact splF (by omega) (condF (drops m b h2 col _ (by omega) p2 g2 (.refl _ _ _) C rfl hR))
end
end Go.Proofs
namespace Go.Proofs
open Go Go.Sh
set_option linter.unusedVariables false
set_option maxRecDepth 100000
section
variable {Z : Nat -> Prop} {h h' : H} {K : Value -> H -> Prop} {col col' : Col} {w a x6 x7 x10 : Addr} {m : WM} {f id : Int} {bl y : OpenP} {u v x j b q : Nat}
theorem locId (g : LocO h col a y) (p : RW h col w m) {Q : H -> Prop} (hk : ∀ h', LocO h' col a (id, y.2) -> RW h' col w m -> ExtP RA h col h' col -> Q h') : stL (a.add 0) [.int .i64 id] 0 h Q := by
  refine stL_var (m := 0) (i := 0) g.v (by show 0 + 0 + 1 <= 4; omega) fun h3 v3 k3 s3 => ?_
  have E : ExtP (fun s => s = 5) h col h3 col := ExtP.kx k3 g.c rfl
  exact hk h3 ⟨v3, g.c⟩ (p.ext E (by decide) (by decide) fun k hk => p.fresh k (by omega)) (E.mono fun s hs => .inr hs)
theorem locNew (p : RW h col w m) {h1 : H} (k : KB h h1) (v : Var h1 a 60 (cellsO y)) (ha : h.size <= a.block) {Q : Prop} (hk : ∀ col1, LocO h1 col1 a y -> RW h1 col1 w m -> ExtP RA h col h1 col1 -> Q) : Q := by
  have E : ∀ Z : Nat -> Prop, ExtP Z h col h1 (paint col a.block (5, 0)) := fun Z => ⟨k.less fun q hq => hq.1, fun q hq => paint_ne (by omega)⟩
  exact hk (paint col a.block (5, 0)) ⟨v, paint_at⟩ (p.ext (Z := fun _ => False) (E _) id id ((p.fresh.kb k).paint v.lt)) (E _)
theorem overlap_tail {Kn : H -> Prop} (p : RW h col w m) (hop : m.op.length <= 900000) (hnd : (m.op.map (·.1)).Nodup) (g : LocO h col a y) (hy : OpenW y) (v7 : Var h x7 60 (cellsO bl)) (c7 : col x7.block = none) (hid : Rng .i64 id) (hbl : 0 <= atO (dropO m.op f) bl.1)
    (hk : ∀ h' col', RW h' col' w { m with op := insAt (dropO m.op f) ((atO (dropO m.op f) bl.1) + 1).toNat (id, y.2) } -> ExtP RA h col h' col' -> Kn h') :
    HCalls Tryz.prog 94 ⟨[(.pointer (some w)), (.int .i64 f)]⟩ h fun v35 h36 => stL (a.add 0) [(.int .i64 id)] 0 h36 fun h37 => ∃ i38, cell h37 (x7.add 0) = some (.int .i64 i38) /\ (∃ i39, cell h37 ((a).add 0) = some (.int .i64 i39) /\ (∃ i40, cell h37 ((a).add 1) = some (.int .u8 i40) /\ (∃ s41, cell h37 ((a).add 2) = some (S s41) /\ (∃ i42, cell h37 ((a).add 3) = some (.int .u8 i42) /\ (HCalls Tryz.prog 48 ⟨[(.pointer (some w)), (.int .i64 i38)]⟩ h37 fun v43 h44 => vInt .i64 v43 fun i45 => ExtH h37 h44 /\ (HCalls Tryz.prog 97 ⟨[(.pointer (some w)), (.int .i64 i45), (.agg ⟨[(.int .i64 i39), (.int .u8 i40), (S s41), (.int .u8 i42)]⟩)]⟩ h44 fun v46 h47 => Kn h47)))))) := by
  have hdl : (dropO m.op f).length <= m.op.length := by
    unfold dropO
    by_cases hq : 0 < idxQ m.op (fun x => decide (x.1 = f))
    · rw [if_pos hq, List.length_eraseIdx]; split <;> omega
    · rw [if_neg hq]; exact Nat.le_refl _
  refine refDrop_calls p (by omega) hnd fun h1 c1 p1 E1 => locId (g.rs E1) p1 fun h2 g2 p2 E2 => ?_
  have E02 := E1.ra.trans E2
  have v72 := v7.keep E02.keepF ⟨c7, v7.lt⟩
  refine ⟨_, v72.cell 0 rfl, _, g2.v.cell 0 rfl, _, g2.v.cell 1 rfl, _, g2.v.cell 2 rfl, _, g2.v.cell 3 rfl, refPlace_calls p2 (by show (dropO m.op f).length <= _; omega) (vIntMk ⟨(KB.refl _).ext, ?_⟩)⟩
  obtain ⟨hi, _, _⟩ := idxQ_yes (l := dropO m.op f) (p := fun x => decide (x.1 = bl.1)) hbl
  obtain ⟨i, ei⟩ := Int.eq_ofNat_of_zero_le hbl
  have ei2 : atO (dropW m f).op bl.1 = (i : Int) := ei
  have hi : i < (dropO m.op f).length := by have h2 : (idxQ (dropO m.op f) fun x => decide (x.1 = bl.1)) = (i : Int) := ei; omega
  rw [ei2]
  rw [show ((atO (dropO m.op f) bl.1) + 1).toNat = i + 1 by rw [ei]; rfl] at hk
  exact openR_calls p2 (by show (dropO m.op f).length <= _; omega) hi ⟨hid, hy.2⟩ fun h3 c3 p3 E3 => hk h3 c3 p3 (E02.trans E3.ra)
structure LocM (h : H) (col : Col) (a : Addr) (y : MarkP) (b : Option Addr) (n c : Nat) : Prop where
  v : Var h a 36 [.int .i64 y.1, S y.2.1, .slice b n c]
  k : col a.block = some (5, 0)
  r : MarkR (Free col h) h y b n c
theorem markR_ext (E : ExtP Z h col h' col') {y : MarkP} {ab : Option Addr} {an ac : Nat} (hR : MarkR (Free col h) h y ab an ac) : MarkR (Free col' h') h' y ab an ac := by
  have hi := hR.inv
  exact Go.Proofs.markR (E.row hi.1) hi.2.1 hi.2.2.1 hi.2.2.2
theorem LocM.rs {y : MarkP} {b : Option Addr} {n c : Nat} (g : LocM h col a y b n c) (e : ExtP RS h col h' col') : LocM h' col' a y b n c :=
  ⟨g.v.keep e.sk.w ⟨g.v.lt, fun s p hs e2 => by rw [g.k] at e2; cases e2; exact (by unfold RS; omega : ¬ RS 5) hs⟩, by rw [e.cl _ g.v.lt]; exact g.k, markR_ext e g.r⟩
theorem overlap_n16 {Kn Kr : Sx.r14_overlap.T0} (p : RW h col w m) (hop : m.op.length <= 900000) (hml : m.mks.length <= 900000) (hnd : (m.op.map (·.1)).Nodup) {y : MarkP} {yb : Option Addr} {yn yc : Nat} (g : LocM h col a y yb yn yc) (v7 : Var h x7 60 (cellsO bl)) (c7 : col x7.block = none) (hid : Rng .i64 id)
    (hf : 0 <= atO m.op f) (hbl : 0 <= atO (dropO m.op f) bl.1) {k : Nat} (hk1 : k <= m.mks.length)
    (hk : ∀ h' col', RW h' col' w { m with mks := insAt m.mks k (id, y.2), op := insAt (dropO m.op f) ((atO (dropO m.op f) bl.1) + 1).toNat (id, (m.op.getD (atO m.op f).toNat noOpen).2) } -> ExtP RA h col h' col' -> Kn h') :
    Sx.r14_overlap.n16 (some w) f x7 (k : Int) id a Kn Kr h := by
  have hR0 := g.r.inv
  refine stL_var (m := 0) (i := 0) g.v (by show 0 + 0 + 1 <= 3; omega) fun h1 v1 k1 s1 => ?_
  have v1 : Var h1 a 36 [.int .i64 id, S y.2.1, .slice yb yn yc] := v1
  have E1 : ExtP (fun s => s = 5) h col h1 col := ExtP.kx k1 g.k rfl
  have f1 : Fresh h1 col := fun k hk => p.fresh k (by omega)
  have p1 : RW h1 col w m := p.ext E1 (by decide) (by decide) f1
  have hR1 : MarkR (Free col h1) h1 (id, y.2) yb yn yc := markR (m := (id, y.2)) (E1.row hR0.1) hR0.2.1 hid hR0.2.2.2
  obtain ⟨t, T, W⟩ := p1.ex
  obtain ⟨ob, oc, mb, mn, mc, v, o, om⟩ := W.ex
  obtain ⟨xs, he, hc, _⟩ := om.parts
  have hl := om.len
  have hcap := om.cap
  have hA : ∀ k, Free col h1 k -> k < h1.size := fun k hk => hk.2
  refine vSomeMk ⟨_, _, _, v.cell 2 rfl, ⟨by omega, by omega, by omega⟩, ?_⟩
  rw [base0]
  have e1 : Int.toNat (k : Int) - Int.toNat (0 : Int) = k := by rw [Int.toNat_natCast]; rfl
  rw [e1]
  refine app_take apdMark he hA hc hl (hi := k) (by omega) (by omega) (by omega) fun b2 c2 h2 o2 k2 => vSliceMk ?_
  have v12 := v1.kb k2
  refine ⟨_, v12.cell 0 rfl, _, v12.cell 1 rfl, _, _, _, v12.cell 2 rfl, newx_var fun a10 h3 v3 k3 e3 s3 => ?_⟩
  have k13 := k2.trans k3
  refine OwnA.append1 apdMark (x := (id, y.2)) (o2.kb k3) hA v3 (hR1.kb k13) (by simp only [maxLen]; omega) (by omega) k13.1 fun b4 c4 h4 o4 g4 => vSliceMk (vSomeMk ?_)
  have k14 : KB h1 h4 := g4.kb0 k13 o2.lo
  refine ⟨_, _, _, (v.kb k14).cell 2 rfl, ⟨by omega, by omega, by omega⟩, ?_⟩
  rw [Int.toNat_natCast, Int.toNat_natCast]
  refine app_drop apdMark (lo := k) o4 hA k14 (Nat.le_refl _) k14.1 he hA hc hl (by omega) hcap.1 (by omega) (by omega) fun b5 c5 h5 o5 k5 => vSliceMk (vSomeMk ?_)
  have el : m.mks.take k ++ [(id, y.2)] ++ m.mks.drop k = insAt m.mks k (id, y.2) := by unfold insAt; rw [List.append_assoc]; rfl
  rw [el] at o5
  refine setMarks_k W f1 k5 o5 fun h6 W6 E6 f6 _ => ?_
  have p6 : RW h6 _ w { m with mks := insAt m.mks k (id, y.2) } := ⟨t, T.otherP (Z := fun k => k = 3) (by decide) E6 f6, W6⟩
  obtain ⟨col6, hcol6⟩ : ∃ c6, putB col h1 b5 (3, 2) = c6 := ⟨_, rfl⟩
  rw [hcol6] at p6 E6 W6 f6
  have E06 : ExtP RA h col h6 col6 := (E1.mono fun s hs => .inr hs).trans (E6.mono fun s hs => .inl (.inr hs))
  obtain ⟨ob6, oc6, mb6, mn6, mc6, v6, o6, om6⟩ := W6.ex
  obtain ⟨hjl, _, _⟩ := idxQ_yes (l := m.op) (p := fun x => decide (x.1 = f)) hf
  obtain ⟨j, ej⟩ := Int.eq_ofNat_of_zero_le hf
  have hjl : j < m.op.length := by have h2 : (idxQ m.op fun x => decide (x.1 = f)) = (j : Int) := ej; omega
  rw [show (atO m.op f).toNat = j by rw [ej]; rfl, getD_get hjl] at hk
  have v76 := v7.keep E06.keepF ⟨c7, v7.lt⟩
  have c76 : col6 x7.block = none := by rw [E06.cl _ v7.lt]; exact c7
  have fin : ∀ h7 a7, KB h6 h7 -> Var h7 a7 60 (cellsO m.op[j]) -> h6.size <= a7.block -> OpenW m.op[j] -> HCalls Tryz.prog 94 ⟨[(.pointer (some w)), (.int .i64 f)]⟩ h7 fun v35 h36 => stL (a7.add 0) [(.int .i64 id)] 0 h36 fun h37 => ∃ i38, cell h37 (x7.add 0) = some (.int .i64 i38) /\ (∃ i39, cell h37 ((a7).add 0) = some (.int .i64 i39) /\ (∃ i40, cell h37 ((a7).add 1) = some (.int .u8 i40) /\ (∃ s41, cell h37 ((a7).add 2) = some (S s41) /\ (∃ i42, cell h37 ((a7).add 3) = some (.int .u8 i42) /\ (HCalls Tryz.prog 48 ⟨[(.pointer (some w)), (.int .i64 i38)]⟩ h37 fun v43 h44 => vInt .i64 v43 fun i45 => ExtH h37 h44 /\ (HCalls Tryz.prog 97 ⟨[(.pointer (some w)), (.int .i64 i45), (.agg ⟨[(.int .i64 i39), (.int .u8 i40), (S s41), (.int .u8 i42)]⟩)]⟩ h44 fun v46 h47 => Kn h47)))))) := fun h7 a7 k7 va7 ha7 ow =>
    locNew p6 k7 va7 ha7 fun c8 g8 p8 E8 => overlap_tail p8 hop hnd g8 ow (v76.kb k7) (by rw [E8.cl _ v76.lt]; exact c76) hid hbl fun h9 c9 p9 E9 => hk h9 c9 p9 ((E06.trans E8).trans E9)
  refine ⟨?_, ?_⟩
  · refine vSomeMk ⟨_, _, _, v6.cell 1 rfl, refPlace_calls p6 (by show m.op.length <= _; omega) (vIntMk ⟨(KB.refl _).ext, ?_⟩)⟩
    rw [show atO { m with mks := insAt m.mks k (id, y.2) : WM}.op f = (j : Int) from ej]
    exact o6.row.idxN (i := j) hjl rfl fun q hA => ldOpen hA fun ow => newx_var fun a7 h7 v7 k7 e7 s7 => ⟨k7.ext, stL_var0 v7 (by show 4 <= 4; omega) fun h8 v8 k8 s8 => fin h8 a7 (KB.step k7 k8 (by omega)) v8 (by omega) ow⟩
  · refine vSomeMk ⟨_, _, _, v6.cell 1 rfl, newx_var fun a7 h7 v7 k7 e7 s7 => ⟨k7.ext, refPlace_calls (p6.kb k7) (by show m.op.length <= _; omega) (vIntMk ⟨(KB.refl _).ext, ?_⟩)⟩⟩
    rw [show atO { m with mks := insAt m.mks k (id, y.2) : WM}.op f = (j : Int) from ej]
    exact (o6.kb k7).row.idxN (i := j) hjl rfl fun q hA => ldOpen hA fun ow => stL_var0 v7 (by show 4 <= 4; omega) fun h8 v8 k8 s8 => fin h8 a7 (KB.step k7 k8 (by omega)) v8 (by omega) ow
end
end Go.Proofs
namespace Go.Proofs
open Go Go.Sh
set_option linter.unusedVariables false
set_option maxRecDepth 100000
section
variable {Z : Nat -> Prop} {h h' : H} {K : Value -> H -> Prop} {col col' : Col} {w a x6 x7 x10 : Addr} {m : WM} {f id : Int} {bl y : OpenP} {u v x j b q : Nat}
theorem CI.atDrop (C : CI m u v x f j b q) {blk : Int} (B : BI m blk (j + 1)) : 0 <= atO (dropO m.op f) blk := by
  have hjl : j < m.op.length := Nat.lt_of_lt_of_le C.hj C.hq
  have eg : m.op.getD j noOpen = m.op[j] := getD_get hjl
  have hfj : m.op[j].1 = f := by have := C.hf; rwa [eg] at this
  obtain ⟨i, hi1, hi2, hi3⟩ := B
  have hdrop : dropO m.op f = m.op.eraseIdx j := by rw [<- hfj]; exact C.A.drop_of hjl C.h0
  have hmem : ∃ y ∈ dropO m.op f, y.1 = blk := by
    rw [hdrop]
    refine ⟨m.op[i], List.mem_eraseIdx_iff_getElem.2 ⟨i, hi2, by omega, rfl⟩, ?_⟩
    rwa [getD_get hi2] at hi3
  have : 0 <= idxQ (dropO m.op f) (fun x => decide (x.1 = blk)) := by
    rw [idxQ_any, List.any_eq_true]
    obtain ⟨y, hy, e⟩ := hmem
    exact ⟨y, hy, by simpa using e⟩
  exact this
theorem overlap_n9 {Kn Kr : Sx.r14_overlap.T0} (p : RW h col w m) (C : CI m u v x f j b q) (B : BI m bl.1 (j + 1)) (hu : u + 1 <= 900000) (hv : v <= 900000) (v7 : Var h x7 60 (cellsO bl)) (c7 : col x7.block = none)
    (hk : ∀ h' col', RW h' col' w (renewM m f bl.1 b) -> ExtP RA h col h' col' -> Kn h') : Sx.r14_overlap.n9 (some w) f x7 (b : Int) Kn Kr h := by
  obtain ⟨t, T, W⟩ := p.ex
  obtain ⟨_, _, _, _, _, vw, _, _⟩ := W.ex
  have hlo := C.A.D.lo
  have hln := C.A.D.ln
  have hml := C.A.D.ml
  have hjl : j < m.op.length := Nat.lt_of_lt_of_le C.hj C.hq
  have eg : m.op.getD j noOpen = m.op[j] := getD_get hjl
  have hfj : m.op[j].1 = f := by have := C.hf; rwa [eg] at this
  have hf0 : 0 <= f := by rw [<- hfj]; exact (C.A.D.ids _ (List.getElem_mem hjl)).1
  have hat : atO m.op f = (j : Int) := by rw [<- hfj]; exact C.A.atO_of hjl
  refine vSomeMk ⟨_, vw.cell 0 rfl, copyT_r T W C.A.D.B (by omega) fun h1 c1 T1 W1 E1 => vIntMk ?_⟩
  obtain ⟨A1, ec, hcl, _⟩ := C.A.copy (List.getElem_mem hjl) (C.A.ne0 hjl C.h0)
  rw [hfj] at A1 ec hcl
  obtain ⟨id, hid⟩ : ∃ id, (copyM m.ns f).2 = id := ⟨_, rfl⟩
  rw [hid] at ec ⊢
  have hidr : Rng .i64 id := by rw [ec]; exact rng64 (by omega) (by omega)
  obtain ⟨_, _, _, _, _, vw1, _, _⟩ := W1.ex
  have E01 : ExtP RA h col h1 c1 := E1.ra
  have v71 := v7.keep E01.keepF ⟨c7, v7.lt⟩
  refine vSomeMk ⟨_, vw1.cell 0 rfl, _, v71.cell 0 rfl, moveT_r T1 W1 A1.D.G fun h2 c2 T2 W2 E2 => vBool_mk ?_⟩
  have A2 := A1.move bl.1 id
  refine condK (K := fun _ => Sx.r14_overlap.n11 (some w) f x7 (b : Int) id Kn Kr h2) ?_
  obtain ⟨_, _, _, _, _, vw2, _, _⟩ := W2.ex
  have E02 : ExtP RA h col h2 c2 := E01.trans E2.ra
  have v72 := v7.keep E02.keepF ⟨c7, v7.lt⟩
  refine vSomeMk ⟨_, vw2.cell 0 rfl, _, v72.cell 0 rfl, putT_r T2 W2 A2.D.G fun h3 c3 T3 W3 E3 => vBool_mk ?_⟩
  refine condK (K := fun _ => Sx.r14_overlap.n12 (some w) f x7 (b : Int) id Kn Kr h3) ?_
  have E03 : ExtP RA h col h3 c3 := E02.trans E3.ra
  have v73 := v7.keep E03.keepF ⟨c7, v7.lt⟩
  have c73 : c3 x7.block = none := by rw [E03.cl _ v7.lt]; exact c7
  have p3 : RW h3 c3 w { m with ns := (putM (moveM (copyM m.ns f).1 bl.1 id).1 bl.1 (-1) id).1 } := ⟨t, T3, W3⟩
  obtain ⟨ob3, oc3, mb3, mn3, mc3, vw3, o3, om3⟩ := W3.ex
  have hml3 := om3.len
  have hfm : 0 <= findP m.mks f := (findP_mem hf0).2 C.hm
  obtain ⟨_, hkl, hke⟩ := findP_yes hfm
  obtain ⟨k, ek⟩ := Int.eq_ofNat_of_zero_le hfm
  have ekn : (findP m.mks f).toNat = k := by rw [ek]; rfl
  rw [ekn] at hkl
  have hgm : m.mks.getD k noMark = m.mks[k] := getD_get hkl
  refine vSomeMk ⟨_, _, _, vw3.cell 2 rfl, refFind_calls om3.row (vIntMk ?_)⟩
  rw [ek]
  obtain ⟨xs3, he3, hcc3, _⟩ := om3.parts
  obtain ⟨am, yb, yn, yc, eb, m0, m1, m2, mR⟩ := markPart he3 hcc3 hkl
  subst eb
  refine vSomeMk ⟨_, _, _, vw3.cell 2 rfl, ⟨by omega, by omega⟩, vSomeMk ?_⟩
  rw [Int.toNat_natCast]
  refine ⟨_, m0, _, m1, _, _, _, m2, newx_var fun a19 h4 v4 k4 e4 s4 => stL_var0 v4 (by show 3 <= 3; omega) fun h5 v5 k5 s5 => ?_⟩
  have k35 : KB h3 h5 := KB.step k4 k5 (by omega)
  have v5 : Var h5 a19 36 [.int .i64 m.mks[k].1, S m.mks[k].2.1, .slice yb yn yc] := v5
  have E5 : ∀ Z : Nat -> Prop, ExtP Z h3 c3 h5 (paint c3 a19.block (5, 0)) := fun Z => ⟨k35.less fun q hq => hq.1, fun q hq => paint_ne (by omega)⟩
  have p5 : RW h5 (paint c3 a19.block (5, 0)) w { m with ns := (putM (moveM (copyM m.ns f).1 bl.1 id).1 bl.1 (-1) id).1 } := p3.ext (Z := fun _ => False) (E5 _) (fun h => h) (fun h => h) ((p3.fresh.kb k35).paint v5.lt)
  have g5 : LocM h5 (paint c3 a19.block (5, 0)) a19 m.mks[k] yb yn yc := ⟨v5, paint_at, markR_ext (E5 RA) mR⟩
  refine unmarkR_k p5 hkl (by show m.mks.length <= _; omega) fun h6 c6 p6 E6 => ?_
  have g6 := g5.rs E6
  have E06 : ExtP RA h col h6 c6 := (E03.trans (E5 RA)).trans E6.ra
  have v76 := v7.keep E06.keepF ⟨c7, v7.lt⟩
  have c76 : c6 x7.block = none := by rw [E06.cl _ v7.lt]; exact c7
  have hb := C.hb
  have hel : (m.mks.eraseIdx k).length = m.mks.length - 1 := by rw [List.length_eraseIdx, if_pos hkl]
  have hub : unbook b k <= (m.mks.eraseIdx k).length := by rw [hel]; unfold unbook; split <;> omega
  have fin : ∀ bb, ((unbook b k : Nat) : Int) = bb -> Sx.r14_overlap.n16 (some w) f x7 bb id a19 Kn Kr h6 := fun bb hbb => by
    subst hbb
    refine overlap_n16 p6 (by show m.op.length <= _; omega) (by show (m.mks.eraseIdx k).length <= _; omega) C.A.D.nd g6 v76 c76 hidr (by show 0 <= atO m.op f; omega) (C.atDrop B) hub fun h7 c7 p7 E7 => hk h7 c7 ?_ (E06.trans E7)
    unfold renewM
    simp only [hid, ekn, hgm]
    exact p7
  refine spl (fun hlt => ⟨rng64 (by omega) (by omega), fin _ ?_⟩) fun hnl => fin _ ?_
  · unfold unbook; rw [if_pos (by omega)]; omega
  · unfold unbook; rw [if_neg (by omega)]
end
end Go.Proofs
namespace Go.Proofs
open Go Go.Sh
set_option linter.unusedVariables false
set_option maxRecDepth 100000
section
variable {h h' : H} {K : Value -> H -> Prop} {col col' : Col} {w : Addr} {m : WM} {f : Int} {u v x j k n : Nat}
theorem overlap_calls (p : RW h col w m) (C : CI m u v x f j k n) (hfk : findP m.mks f = (k : Int)) (hn : n < m.op.length) (hu : u + 4 <= 900000) (hv : v <= 900000) {ah : OpenP} (hah : m.op.getD (j - 1) noOpen = ah)
    (hk : ∀ h' col', RW h' col' w (overM m f k j n) -> ExtP RA h col h' col' -> K (.tuple ⟨[]⟩) h') :
    HCalls Tryz.prog 52 ⟨[.pointer (some w), .int .i64 f, .agg ⟨cellsO ah⟩, .agg ⟨cellsO m.op[n]⟩]⟩ h K := by
  have hlo := C.A.D.lo
  have hln := C.A.D.ln
  have hml := C.A.D.ml
  have egn : m.op.getD n noOpen = m.op[n] := getD_get hn
  obtain ⟨R, hR⟩ : ∃ R, climbN m.op[n].1 f n 0 m m.op[n].1 k = R := ⟨_, rfl⟩
  have C2 := climb_inv m.op[n].1 n 0 m.op[n].1 C
  have B2 := climb_blk (blk := m.op[n].1) n 0 m.op[n].1 C ⟨n, Nat.le_refl _, hn, by rw [egn]⟩
  rw [hR] at C2 B2
  unfold overM at hk
  simp only [egn, hR, hah] at hk
  have hat : atO m.op m.op[n].1 = (n : Int) := C.A.atO_of hn
  refine Sx.r14_overlap.ok _ _ _ _ _ _ _ _ _ _ _ _ (newx_var fun x6 h1 v6 k1 e1 s1 => newx_var fun x7 h2 v7 k2 e2 s2 => ?_)
  have k02 := k1.trans k2
  have v6 : Var h2 x6 60 (cellsO ah) := v6.kb k2
  have v7 : Var h2 x7 60 (cellsO m.op[n]) := v7
  have p2 := p.kb k02
  have c6 : col x6.block = none := p.fresh _ (by omega)
  have c7 : col x7.block = none := p.fresh _ (by have := k1.1; omega)
  obtain ⟨t, T, W⟩ := p2.ex
  obtain ⟨ob, oc, mb, mn, mc, vw, o, om⟩ := W.ex
  refine vSomeMk ⟨_, _, _, vw.cell 2 rfl, refFind_calls om.row (vIntMk ?_)⟩
  rw [hfk]
  refine ⟨_, v7.cell 0 rfl, _, v7.cell 1 rfl, _, v7.cell 2 rfl, _, v7.cell 3 rfl, newx_var fun x10 h3 v3 k3 e3 s3 => stL_var0 v3 (by show 4 <= 4; omega) fun h4 v4 k4 s4 => ?_⟩
  have k24 : KB h2 h4 := KB.step k3 k4 (by omega)
  refine locNew p2 k24 (y := m.op[n]) v4 (by omega) fun c4 g4 p4 E4 => ?_
  have v64 := v6.keep E4.keepF ⟨c6, v6.lt⟩
  have v74 := v7.keep E4.keepF ⟨c7, v7.lt⟩
  have c64 : c4 x6.block = none := by rw [E4.cl _ v6.lt]; exact c6
  have c74 : c4 x7.block = none := by rw [E4.cl _ v7.lt]; exact c7
  have E04 : ExtP RA h col h4 c4 := (ExtP.kb k02).trans E4
  refine ⟨_, v74.cell 0 rfl, refPlace_calls p4 (by omega) (vIntMk ?_)⟩
  rw [hat]
  refine ⟨n, ?_⟩
  refine overlap_loop (KE := fun z0 z1 z6 z7 z9 z10 h => Sx.r14_overlap.n7 z0 z1 z6 z7 z9 z10 (fun h => K (.tuple ⟨[]⟩) h) (fun h => K (.tuple ⟨[]⟩) h) h) v74 c74 (fun h5 c5 y p5 g5 hy E5 => ?_) n 0 g4 p4 C (by omega) hv (by omega) hR (.refl _ _ _)
  have v65 := v64.keep E5.keepF ⟨c64, v64.lt⟩
  have E05 := E04.trans E5
  obtain ⟨t5, T5, W5⟩ := p5.ex
  have hlo5 := C2.A.D.lo
  refine ⟨_, v65.cell 0 rfl, _, v65.cell 1 rfl, _, v65.cell 2 rfl, _, v65.cell 3 rfl, refWhere_calls (x := ah) T5 C2.A.D.G W5 (by omega) fun h6 k6 => tupIIMk ?_⟩
  have g6 := g5.kb k6
  have T6 := T5.kb k6
  have W6 := W5.kb k6
  obtain ⟨_, _, _, _, _, vw6, _, _⟩ := W6.ex
  refine vSomeMk ⟨_, vw6.cell 0 rfl, _, g6.v.cell 0 rfl, putT_r T6 W6 C2.A.D.G fun h7 c7' T7 W7 E7 => vBool_mk ?_⟩
  refine condK (K := fun _ => Sx.r14_overlap.n9 (some w) f x7 (R.2.2 : Int) (fun h => K (.tuple ⟨[]⟩) h) (fun h => K (.tuple ⟨[]⟩) h) h7) ?_
  have E47 : ExtP RA h4 c4 h7 c7' := (E5.trans (.kb k6)).trans E7.ra
  have v77 := v74.keep E47.keepF ⟨c74, v74.lt⟩
  have c77 : c7' x7.block = none := by rw [E47.cl _ v74.lt]; exact c74
  have C3 := C2.put (whereM R.1.ns R.1.op R.1.fo ah).1 (whereM R.1.ns R.1.op R.1.fo ah).2 R.2.1
  rw [hy] at T7
  have p7 : RW h7 c7' w { R.1 with ns := (putM R.1.ns (whereM R.1.ns R.1.op R.1.fo ah).1 (whereM R.1.ns R.1.op R.1.fo ah).2 R.2.1).1 } := ⟨t5, T7, W7⟩
  exact overlap_n9 p7 C3 B2 (by omega) hv v77 c77 fun h8 c8 p8 E8 => hk h8 c8 p8 ((E04.trans E47).trans E8)
end
end Go.Proofs
namespace Go.Proofs
open Go Go.Sh
set_option linter.unusedVariables false
set_option maxRecDepth 100000
def MI (l : List MarkP) (N : Nat) : Prop := (l.map (·.1)).Nodup /\ ∀ y ∈ l, 0 <= y.1 /\ y.1 < (N : Int)
section
variable {l : List MarkP} {N N' : Nat}
theorem MI.nil (N : Nat) : MI [] N := ⟨by simp, fun y h => nomatch h⟩
theorem MI.mono (M : MI l N) (h : N <= N') : MI l N' := ⟨M.1, fun y hy => by have := M.2 y hy; omega⟩
theorem MI.erase (M : MI l N) (k : Nat) : MI (l.eraseIdx k) N := ⟨M.1.sublist ((List.eraseIdx_sublist _ _).map _), fun y hy => M.2 y (List.mem_of_mem_eraseIdx hy)⟩
theorem MI.fresh (M : MI l N) {z : Bs × List AttrP} : ∀ y ∈ l, y.1 ≠ ((N : Int), z).1 := fun y hy e => by
  have := M.2 y hy
  have e : y.1 = (N : Int) := e
  omega
theorem MI.set (M : MI l N) (k : Nat) (z : Bs × List AttrP) : MI (l.set k ((N : Int), z)) (N + 1) := ⟨nodup_set M.1 M.fresh, fun y hy => by
  rcases List.mem_or_eq_of_mem_set hy with h | h
  · have := M.2 y h; omega
  · subst h; exact ⟨by show (0 : Int) <= (N : Int); omega, by show (N : Int) < ((N + 1 : Nat) : Int); omega⟩⟩
theorem MI.ins (M : MI l N) (k : Nat) (z : Bs × List AttrP) : MI (insAt l k ((N : Int), z)) (N + 1) := ⟨insA_nodup M.1 M.fresh, fun y hy => by
  rcases insA_mem hy with h | h
  · have := M.2 y h; omega
  · subst h; exact ⟨by show (0 : Int) <= (N : Int); omega, by show (N : Int) < ((N + 1 : Nat) : Int); omega⟩⟩
theorem MI.push (M : MI l N) (z : Bs × List AttrP) : MI (pushP l ((N : Int), z)) (N + 1) := by
  have app : ∀ l', MI l' N -> MI (l' ++ [((N : Int), z)]) (N + 1) := fun l' M' => by
    have := M'.ins l'.length z
    unfold insAt at this
    rwa [List.take_length, List.drop_length] at this
  unfold pushP
  split
  · exact app _ M
  · exact app _ (M.erase _)
theorem MI.find (M : MI l N) {k : Nat} (hk : k < l.length) : findP l l[k].1 = (k : Int) := by
  have h0 := (M.2 _ (List.getElem_mem hk)).1
  have h1 := (findP_mem h0).2 ⟨l[k], List.getElem_mem hk, rfl⟩
  obtain ⟨_, hi, e⟩ := findP_yes h1
  have hp := List.pairwise_iff_getElem.1 M.1
  have : (findP l l[k].1).toNat = k := by
    have e2 : (l.map (·.1))[(findP l l[k].1).toNat]'(by simpa using hi) = (l.map (·.1))[k]'(by simpa using hk) := by simpa using e
    rcases Nat.lt_trichotomy (findP l l[k].1).toNat k with h | h | h
    · exact absurd e2 (hp _ _ (by simpa using hi) (by simpa using hk) h)
    · exact h
    · exact absurd e2.symm (hp _ _ (by simpa using hk) (by simpa using hi) h)
  omega
end
def MW (m : WM) : Prop := MI m.mks m.ns.length
section
variable {m : WM} {u v x j b q : Nat} {f blk : Int}
theorem MW.tree (M : MW m) {m' : WM} (hm : m'.mks = m.mks) (hl : m.ns.length <= m'.ns.length) : MW m' := by
  unfold MW
  rw [hm]
  exact MI.mono M hl
theorem MW.unmark (M : MW m) (k : Nat) : MW (unmark m k) := MI.erase M k
theorem MW.close (M : MW m) (n : Int) : MW (closeW m n) := M
theorem MW.drop (M : MW m) (id : Int) : MW (dropW m id) := M
theorem MW.insert (M : MW m) (G : GoodT m.ns) (sp : Int) (nm : Bs) (at' : List AttrP) : MW (insertM m sp nm at') := M.tree rfl (by rw [insert_lenR G]; omega)
theorem MW.write (M : MW m) (G : GoodT m.ns) (tx : Bs) : MW (writeW m tx) := M.tree rfl (write_lenL G _ _ _)
theorem MW.climb (blk : Int) : ∀ (q n : Nat) {m : WM} {u v x b : Nat} (last : Int), CI m u v x f j b q -> MW m -> MW (climbN blk f q n m last b).1
  | 0, n, m, u, v, x, b, last, C, M => absurd C.hj (by omega)
  | q + 1, n, m, u, v, x, b, last, C, M => by
    have hq : q < m.op.length := by have := C.hq; omega
    unfold climbN
    simp only []
    by_cases hf : (m.op.getD q noOpen).1 = f
    · rw [if_pos hf]; exact M
    · rw [if_neg hf]
      by_cases h1 : 0 <= findP m.mks (m.op.getD q noOpen).1 /\ n < 3
      · rw [if_pos h1]
        have C2 := C.copy hf h1.1 last (b' := if last = blk then (findP m.mks (m.op.getD q noOpen).1).toNat + 1 else b) (by split; exact .inl rfl; exact .inr rfl)
        refine MW.climb blk q (n + 1) _ C2 ?_
        have eg : m.op.getD q noOpen = m.op[q] := getD_get hq
        obtain ⟨A1, ec, hcl, _⟩ := C.A.copy (List.getElem_mem hq) (C.A.ne0 hq (C.pos hf))
        rw [<- eg] at A1 ec hcl
        unfold MW
        show MI (m.mks.set _ ((copyM m.ns (m.op.getD q noOpen).1).2, _)) (putM (copyM m.ns (m.op.getD q noOpen).1).1 _ _ _).1.length
        rw [put_len A1.D.G, hcl, ec]
        exact MI.set M _ _
      · rw [if_neg h1]
        by_cases h2 : 0 <= findP m.mks (m.op.getD q noOpen).1
        · rw [if_pos h2]
          have C1 := C.unmark hf h2
          exact MW.climb blk q (n + 1) last (C1.dropQ hf) (M.unmark _)
        · rw [if_neg h2]
          exact MW.climb blk q (n + 1) last (C.dropQ hf) M
theorem MW.renew (M : MW m) (C : CI m u v x f j b q) : MW (renewM m f blk b) := by
  have hjl : j < m.op.length := Nat.lt_of_lt_of_le C.hj C.hq
  have eg : m.op.getD j noOpen = m.op[j] := getD_get hjl
  have hfj : m.op[j].1 = f := by have := C.hf; rwa [eg] at this
  obtain ⟨A1, ec, hcl, _⟩ := C.A.copy (List.getElem_mem hjl) (C.A.ne0 hjl C.h0)
  rw [hfj] at A1 ec hcl
  have A2 := A1.move blk (copyM m.ns f).2
  unfold MW renewM
  show MI (insAt _ _ ((copyM m.ns f).2, _)) (putM (moveM (copyM m.ns f).1 blk (copyM m.ns f).2).1 blk (-1) (copyM m.ns f).2).1.length
  rw [put_len A2.D.G]
  show MI _ (moveM (copyM m.ns f).1 blk (copyM m.ns f).2).1.length
  rw [move_len, hcl, ec]
  exact MI.ins (MI.erase M _) _ _
theorem MW.over (M : MW m) (A : AI m u v x) {k : Nat} (hk : k < m.mks.length) (h0 : 0 <= (m.mks.getD k noMark).1) (hat : 0 <= atO m.op (m.mks.getD k noMark).1) {n : Nat} (hn : (atO m.op (m.mks.getD k noMark).1).toNat < n) (hn2 : n < m.op.length) :
    MW (overM m (m.mks.getD k noMark).1 k (atO m.op (m.mks.getD k noMark).1).toNat n) := by
  have C := A.begin hk h0 hat hn (Nat.le_of_lt hn2)
  have C2 := climb_inv (m.op.getD n noOpen).1 n 0 (m.op.getD n noOpen).1 C
  have M2 := MW.climb (m.op.getD n noOpen).1 n 0 (m.op.getD n noOpen).1 C M
  obtain ⟨R, hR⟩ : ∃ R, climbN (m.op.getD n noOpen).1 (m.mks.getD k noMark).1 n 0 m (m.op.getD n noOpen).1 k = R := ⟨_, rfl⟩
  rw [hR] at C2 M2
  unfold overM
  simp only [hR]
  exact MW.renew (MW.tree M2 (m' := { R.1 with ns := _ }) rfl (by show _ <= (putM _ _ _ _).1.length; rw [put_len C2.A.D.G]; omega)) (C2.put _ _ _)
theorem MW.round (M : MW m) (A : AI m u v x) {k : Nat} (hk : k < m.mks.length) (h0 : 0 <= (m.mks.getD k noMark).1) : MW (roundM m k).1 := by
  unfold roundM
  simp only []
  split
  · exact M.unmark k
  · rename_i hat
    split
    · exact M
    · split
      · exact (M.close _).unmark k
      · rename_i hs
        obtain ⟨hi, _, _⟩ := idxQ_yes (l := m.op.drop ((atO m.op (m.mks.getD k noMark).1).toNat + 1)) (p := specO) (by omega)
        rw [List.length_drop] at hi
        exact M.over A hk h0 (by omega) (by omega) (by omega)
theorem MW.rounds (s : Bs) : ∀ (r : Nat) {m : WM} {u : Nat}, AI m u v x -> MW m -> MW (roundsM s r m).1
  | 0, m, u, A, M => M
  | r + 1, m, u, A, M => by
    unfold roundsM
    split
    · exact M
    · rename_i hl
      obtain ⟨k, e, hk, h0⟩ := lastP_of (by omega : 0 <= lastP m.mks s)
      have hk2 : (lastP m.mks s).toNat = k := by rw [e]; rfl
      rw [hk2]
      have M2 := M.round A hk h0
      split
      · exact MW.rounds s r (A.round hk h0) M2
      · exact M2
theorem MW.run (M : MW m) (A : AI m u v x) (s : Bs) : MW (runM m s).1 := by
  unfold runM
  split
  · exact M.close _
  · exact MW.rounds s 8 A M
theorem MW.reb {v : Nat} : ∀ (k : Nat) {m : WM} {u x : Nat} (i : Nat), AI m u v x -> MW m -> i + k <= m.mks.length -> MW (rebN k m i)
  | 0, m, u, x, i, A, M, _ => M
  | k + 1, m, u, x, i, A, M, hik => by
    have hi : i < m.mks.length := by omega
    have hg : m.mks.getD i noMark = m.mks[i] := getD_get hi
    have hw := A.D.mw m.mks[i] (List.getElem_mem hi)
    have h1 := A.insert 0 (nm := (m.mks.getD i noMark).2.1) (by rw [hg]; exact hw.1) (m.mks.getD i noMark).2.2
    have h2 : AI { insertM m 0 (m.mks.getD i noMark).2.1 (m.mks.getD i noMark).2.2 with mks := m.mks.set i ((m.ns.length : Int), (m.mks.getD i noMark).2) } (u + 1) v x :=
      ⟨⟨h1.D.G, h1.D.B, h1.D.ne, h1.D.ids, h1.D.nd, h1.D.lo, h1.D.ln, by show (m.mks.set _ _).length <= v; rw [List.length_set]; exact A.D.ml, by rw [hg]; exact A.D.mw.set hi _, h1.D.tx⟩, h1.root, h1.kind, fun z hz => by
        rcases List.mem_or_eq_of_mem_set hz with h | h
        · exact A.mid z h
        · rw [h]
          have := A.pos
          exact fun e => by have e : (m.ns.length : Int) = 0 := e; omega, h1.nml⟩
    have hl : (insertM m 0 (m.mks.getD i noMark).2.1 (m.mks.getD i noMark).2.2).ns.length = m.ns.length + 1 := insert_lenR A.D.G
    exact MW.reb k (i + 1) h2 (by unfold MW; rw [hl]; exact MI.set M _ _) (by show i + 1 + k <= (m.mks.set _ _).length; rw [List.length_set]; omega)
theorem MW.rebuild (M : MW m) (A : AI m u v x) : MW (rebuildW m) := by
  have hr := lostTo_rng m.mks m.op m.mks.length
  have h1 : (lostP m.mks m.op).toNat <= m.mks.length := by have := hr.2; show (lostTo m.mks m.op m.mks.length).toNat <= _; omega
  exact MW.reb (m.mks.length - (lostP m.mks m.op).toNat) (lostP m.mks m.op).toNat A M (by omega)
theorem MW.zero : MW wm0 := MI.nil _
end
end Go.Proofs
namespace Go.Proofs
open Go Go.Sh
set_option linter.unusedVariables false
set_option maxRecDepth 100000
theorem idxQ_cons {α : Type} {a : α} {l : List α} {p : α -> Bool} : idxQ (a :: l) p = if p a = true then 0 else if idxQ l p < 0 then -1 else idxQ l p + 1 := by
  unfold idxQ
  rw [List.findIdx?_cons]
  by_cases h : p a = true
  · rw [if_pos h, if_pos h]; rfl
  · rw [if_neg h, if_neg h]
    cases l.findIdx? p with
    | none => rfl
    | some i =>
      show ((i + 1 : Nat) : Int) = if (i : Int) < 0 then (-1 : Int) else (i : Int) + 1
      rw [if_neg (by omega)]; rfl
def blkI (op : List OpenP) (s : Nat) : Int := if idxQ (op.drop s) specO < 0 then -1 else idxQ (op.drop s) specO + (s : Int)
theorem blkI_step {op : List OpenP} {i : Nat} (hi : i < op.length) : blkI op i = if specO op[i] = true then (i : Int) else blkI op (i + 1) := by
  unfold blkI
  rw [List.drop_eq_getElem_cons hi, idxQ_cons]
  by_cases h : specO op[i] = true
  · rw [if_pos h, if_pos h, if_neg (by decide)]; omega
  · rw [if_neg h, if_neg h]
    by_cases h2 : idxQ (op.drop (i + 1)) specO < 0
    · rw [if_pos h2, if_pos (by decide), if_pos h2]
    · rw [if_neg h2, if_neg (by omega), if_neg h2]; omega
theorem blkI_end {op : List OpenP} : blkI op op.length = -1 := by
  unfold blkI
  rw [List.drop_length]; rfl
section
variable {h h' : H} {K : Value -> H -> Prop} {col col' : Col} {w : Addr} {m : WM} {nm : Bs} {f : Int} {u v x j k n : Nat}
theorem block_loop {Kn : Sx.r14_Run.T9} {Ke1 : Sx.r14_Run.T4} {Ke0 : Sx.r14_Run.T3} {Kr : Sx.r14_Run.T0} {i0 : Nat} {x6 x7 x8 : Int} (p : RW h col w m) (hop : m.op.length <= 900000) (hk : ∀ h', KB h h' -> Kn (some w) nm x6 x7 x8 (i0 : Int) (blkI m.op (i0 + 1)) h') :
    ∀ (j : Nat) {h2 : H}, i0 + j < m.op.length -> KB h h2 -> Sx.r14_Run.n28_L Kn Kn Ke1 Ke0 Kr (j + 1) (some w) nm x6 x7 x8 (i0 : Int) (blkI m.op (i0 + j + 1)) ((i0 + j : Nat) : Int) h2
  | 0, h2, hj, k2 => by
    unfold Sx.r14_Run.n28_L LP Sx.r14_Run.n28_B
    exact splF (by omega) (hk h2 k2)
  | j + 1, h2, hj, k2 => by
    obtain ⟨t, T, W⟩ := p.ex
    obtain ⟨ob, oc, mb, mn, mc, v, o, om⟩ := (W.kb k2).ex
    unfold Sx.r14_Run.n28_L LP Sx.r14_Run.n28_B
    obtain ⟨i, hi⟩ : ∃ i, i0 + (j + 1) = i := ⟨_, rfl⟩
    rw [hi] at hj ⊢
    have e0 : ((i : Int) - (1 : Int)) = ((i0 + j : Nat) : Int) := by omega
    have hst := blkI_step hj
    refine splT (by omega) (vSomeMk ⟨_, _, _, v.cell 1 rfl, o.row.idxN hj rfl fun q hA => ⟨_, hA.snd.fst.int.1, vSomeMk ⟨_, _, _, v.cell 1 rfl, o.row.idxN hj rfl fun q2 hA2 => ?_⟩⟩⟩)
    refine ⟨_, (hA2.snd.sndAt (k := 2) rfl).fst.str.1, refSpecial_calls fun h3 k3 => vBool_mk (condB (fun hb => ⟨rng64 (by omega) (by omega), ?_⟩) fun hb => ⟨rng64 (by omega) (by omega), ?_⟩)⟩
    · have hb : specO m.op[i] = true := hb
      rw [if_pos hb] at hst
      have := block_loop (Ke1 := Ke1) (Ke0 := Ke0) (Kr := Kr) p hop hk j (h2 := h3) (by omega) (k2.trans k3)
      rw [show i0 + j + 1 = i by omega, hst] at this
      rw [e0]; exact this
    · have hb : specO m.op[i] = false := hb
      rw [if_neg (by rw [hb]; decide)] at hst
      have := block_loop (Ke1 := Ke1) (Ke0 := Ke0) (Kr := Kr) p hop hk j (h2 := h3) (by omega) (k2.trans k3)
      rw [show i0 + j + 1 = i by omega, hst] at this
      rw [e0]; exact this
theorem runR_loop {KE : Sx.r14_Run.T3} {Kr : Sx.r14_Run.T0} {R : WM × Bool} {h0 : H} {col0 : Col} (hE : ∀ h' col', RW h' col' w R.1 -> ExtP RA h0 col0 h' col' -> R.2 = true -> KE h')
    (hK : ∀ h' col', RW h' col' w R.1 -> ExtP RA h0 col0 h' col' -> Kr R.2 h') : ∀ (r i : Nat) {m : WM} {u : Nat} {h : H} {col : Col}, RW h col w m -> AI m u v x -> MW m ->
      u + 4 * r <= 900000 -> v <= 900000 -> r + i = 8 -> roundsM nm r m = R -> ExtP RA h0 col0 h col -> Sx.r14_Run.n8_L KE KE Kr (r + 1) (some w) nm (i : Int) h
  | 0, i, m, u, h, col, p, A, M, hu, hv, hi, hR, E0 => by
    unfold Sx.r14_Run.n8_L LP Sx.r14_Run.n8_B
    refine splF (by omega) ?_
    subst hR
    exact hE h col p E0 rfl
  | r + 1, i, m, u, h, col, p, A, M, hu, hv, hi, hR, E0 => by
    unfold Sx.r14_Run.n8_L LP Sx.r14_Run.n8_B
    refine splT (by omega) ?_
    obtain ⟨t, T, W⟩ := p.ex
    obtain ⟨ob, oc, mb, mn, mc, vw, o, om⟩ := W.ex
    have hlo := A.D.lo
    have hml := A.D.ml
    have hmn := om.len
    unfold roundsM at hR
    refine vSomeMk ⟨_, _, _, vw.cell 2 rfl, refLast_calls om.row (vIntMk ?_)⟩
    refine spl (fun hn => ?_) fun hn => ?_
    · rw [if_pos hn] at hR
      subst hR
      exact hK h col p E0
    rw [if_neg hn] at hR
    obtain ⟨k, ek, hkl, hk0⟩ := lastP_of (by omega : 0 <= lastP m.mks nm)
    have ekn : (lastP m.mks nm).toNat = k := by rw [ek]; rfl
    rw [ekn] at hR
    rw [ek]
    have A2 := A.round hkl hk0
    have M2 := M.round A hkl hk0
    have hgm : m.mks.getD k noMark = m.mks[k] := getD_get hkl
    obtain ⟨F, hF⟩ : ∃ F, (m.mks.getD k noMark).1 = F := ⟨_, rfl⟩
    have hFk : m.mks[k].1 = F := by rw [<- hgm]; exact hF
    have hfk : findP m.mks F = (k : Int) := by rw [<- hFk]; exact MI.find M hkl
    obtain ⟨S2, hS2⟩ : ∃ S2, roundM m k = S2 := ⟨_, rfl⟩
    rw [hS2] at A2 M2 hR
    unfold roundM at hS2
    simp only [] at hS2
    rw [hF] at hS2 hk0
    refine vSomeMk ⟨_, _, _, vw.cell 2 rfl, om.row.idxN (i := k) hkl rfl fun q hA => ⟨_, hA.fst.int.1, ?_⟩⟩
    rw [hFk]
    refine refPlace_calls p (by omega) (vIntMk ?_)
    refine spl (fun hneg => ?_) fun hneg => ?_
    · rw [if_pos hneg] at hS2
      subst hS2
      rw [if_neg (by simp)] at hR
      subst hR
      exact unmarkR_k p hkl (by omega) fun h4 c4 p4 E4 => hK h4 c4 p4 (E0.trans E4.ra)
    rw [if_neg hneg] at hS2
    obtain ⟨i1, ei⟩ := Int.eq_ofNat_of_zero_le (by omega : 0 <= atO m.op F)
    have ein : (atO m.op F).toNat = i1 := by rw [ei]; rfl
    rw [ein] at hS2
    rw [ei]
    have hil : i1 < m.op.length := by have := (idxQ_lt (l := m.op) (p := fun x => decide (x.1 = F))).1; have h2 : (idxQ m.op fun x => decide (x.1 = F)) = (i1 : Int) := ei; omega
    refine refScoped_calls p (by omega) (fun y hy => by have := A.nml y hy; omega) hil fun h4 k4 => vBool_mk (condB (fun hs => ?_) fun hs => ?_)
    rotate_left
    · rw [hs, if_pos rfl] at hS2
      subst hS2
      rw [if_neg (by simp)] at hR
      subst hR
      exact condF (hK h4 col (p.kb k4) (E0.trans (.kb k4)))
    rw [hs, if_neg (by simp)] at hS2
    refine condT ?_
    have p4 := p.kb k4
    have E4 := E0.trans (ExtP.kb (S := RA) (col := col) k4)
    obtain ⟨t4, T4, W4⟩ := p4.ex
    obtain ⟨ob4, oc4, mb4, mn4, mc4, vw4, o4, om4⟩ := W4.ex
    refine vSomeMk ⟨_, _, _, vw4.cell 1 rfl, rng64 (by omega) (by omega), m.op.length - 1 - i1 + 1, ?_⟩
    have e1 : ((m.op.length : Int) - (1 : Int)) = ((i1 + (m.op.length - 1 - i1) : Nat) : Int) := by omega
    rw [e1]
    have hend : blkI m.op (i1 + (m.op.length - 1 - i1) + 1) = -1 := by rw [show i1 + (m.op.length - 1 - i1) + 1 = m.op.length by omega]; exact blkI_end
    rw [<- hend]
    refine block_loop (Kn := fun z0 z1 z6 z7 z8 z9 z11 h => Sx.r14_Run.n22 z0 z1 z6 z7 z8 z9 z11 (fun z0 z1 z6 h => Sx.r14_Run.n11 z0 z1 z6 (Sx.r14_Run.n8_L KE KE Kr (r + 1)) KE Kr h) (fun z0 z1 z6 h => Sx.r14_Run.n11 z0 z1 z6 (Sx.r14_Run.n8_L KE KE Kr (r + 1)) KE Kr h) KE Kr h) p4 (by omega) (fun h5 k5 => ?_) (m.op.length - 1 - i1) (by omega) (KB.refl h4)
    have p5 := p4.kb k5
    have E5 := E4.trans (ExtP.kb (S := RA) (col := col) k5)
    by_cases hsn : idxQ (m.op.drop (i1 + 1)) specO < 0
    · rw [if_pos hsn] at hS2
      subst hS2
      rw [if_neg (by simp)] at hR
      subst hR
      have hb : blkI m.op (i1 + 1) = -1 := by unfold blkI; rw [if_pos hsn]
      rw [hb]
      refine splT (by decide) (condT (refClose_calls p5 fun h6 c6 p6 E6 => ?_))
      have hml6 : (closeW m (i1 : Int)).mks = m.mks := rfl
      exact unmarkR_k p6 (by rw [hml6]; exact hkl) (by rw [hml6]; omega) fun h7 c7 p7 E7 => hK h7 c7 p7 ((E5.trans E6.ra).trans E7.ra)
    · rw [if_neg hsn] at hS2
      subst hS2
      rw [if_pos rfl] at hR
      obtain ⟨hjl, hjs, _⟩ := idxQ_yes (l := m.op.drop (i1 + 1)) (p := specO) (by omega)
      rw [List.length_drop] at hjl
      obtain ⟨j, ej⟩ := Int.eq_ofNat_of_zero_le (by omega : 0 <= idxQ (m.op.drop (i1 + 1)) specO)
      have ejn : (idxQ (m.op.drop (i1 + 1)) specO).toNat = j := by rw [ej]; rfl
      rw [ejn] at hjl hR A2 M2
      obtain ⟨n, hn2⟩ : ∃ n, j + (i1 + 1) = n := ⟨_, rfl⟩
      rw [hn2] at hR A2 M2
      have hb : blkI m.op (i1 + 1) = (n : Int) := by unfold blkI; rw [if_neg hsn, ej]; omega
      rw [hb]
      have hnl : n < m.op.length := by omega
      have C : CI m u v x F i1 k n := by
        have := A.begin (n := n) hkl (by rw [hF]; exact hk0) (by rw [hF]; omega) (by rw [hF, ein]; omega) (by omega)
        rw [hF, ein] at this
        exact this
      have hi0 := C.h0
      refine splF (by omega) (condF ?_)
      obtain ⟨ob5, oc5, mb5, mn5, mc5, vw5, o5, om5⟩ := (W4.kb k5).ex
      have e3 : ((i1 : Int) - (1 : Int)) = ((i1 - 1 : Nat) : Int) := by omega
      have hi1 : i1 - 1 < m.op.length := by omega
      refine vSomeMk ⟨_, _, _, vw5.cell 1 rfl, rng64 (by omega) (by omega), ?_⟩
      rw [e3]
      refine o5.row.idxN (i := i1 - 1) hi1 rfl fun q hA => ldOpen hA fun ow => vSomeMk ⟨_, _, _, vw5.cell 1 rfl, o5.row.idxN (i := n) hnl rfl fun q2 hA2 => ldOpen hA2 fun ow2 => ?_⟩
      refine overlap_calls p5 C hfk hnl (by omega) hv (ah := m.op[i1 - 1]) (getD_get hi1) fun h6 c6 p6 E6 => ⟨rng64 (by omega) (by omega), ?_⟩
      have e4 : ((i : Int) + (1 : Int)) = ((i + 1 : Nat) : Int) := rfl
      rw [e4]
      exact runR_loop hE hK r (i + 1) p6 A2 M2 (by omega) hv (by omega) hR (E5.trans E6)
theorem refRun_calls (p : RW h col w m) (A : AI m u v x) (M : MW m) (hu : u + 32 <= 900000) (hv : v <= 900000) (hk : ∀ h' col', RW h' col' w (runM m nm).1 -> ExtP RA h col h' col' -> K (.bool (runM m nm).2) h') :
    HCalls Tryz.prog 16 ⟨[.pointer (some w), S nm]⟩ h K := by
  obtain ⟨t, T, W⟩ := p.ex
  have hlo := A.D.lo
  have hln := A.D.ln
  have hml := A.D.ml
  obtain ⟨R, hR⟩ : ∃ R, runM m nm = R := ⟨_, rfl⟩
  rw [hR] at hk
  refine Sx.r14_Run.ok _ _ _ _ (refCurrent_calls W A.D.ne (by omega) fun h1 k1 => agOpen (x := curM m.op) <| newx_var fun a2 h2 v2 k2 e2 s2 => stL_var0 v2 (by show 4 <= 4; omega) fun h3 v3 k3 s3 => ?_)
  have k03 : KB h h3 := k1.trans (KB.step k2 k3 (by omega))
  have p3 := p.kb k03
  have v3 : Var h3 a2 60 (cellsO (curM m.op)) := v3
  have rest : roundsM nm 8 m = R -> Sx.r14_Run.n4 (some w) nm (fun y h => K (.bool y) h) (fun y h => K (.bool y) h) h3 := fun hr =>
    ⟨9, runR_loop (fun h' c' p' E' e => by have := hk h' c' p' E'; rw [e] at this; exact this) (fun h' c' p' E' => hk h' c' p' E') 8 0 p3 A M (by omega) hv rfl hr (.kb k03)⟩
  obtain ⟨ob, oc, mb, mn, mc, vw, o, om⟩ := (W.kb k03).ex
  unfold runM at hR
  have no : (isN (curM m.op) nm = true -> 0 <= findP m.mks (curM m.op).1) -> roundsM nm 8 m = R := fun hc => by
    rw [if_neg (fun ⟨h1, h2⟩ => by have := hc h1; omega)] at hR
    exact hR
  have nn : ¬ (isN (curM m.op) nm = true) -> roundsM nm 8 m = R := fun hc => no fun h => absurd h hc
  refine ⟨_, v3.cell 1 rfl, spl (fun e1 => ⟨_, v3.cell 2 rfl, spl (fun e2 => vSomeMk ⟨_, _, _, vw.cell 2 rfl, _, v3.cell 0 rfl, refFind_calls om.row (vIntMk (spl (fun e3 => ?_) fun e3 => condF ?_))⟩) fun e2 => condF ?_⟩) fun e1 => condF ?_⟩
  · have hi : isN (curM m.op) nm = true := by unfold isN; rw [decide_eq_true e1, decide_eq_true e2]; rfl
    rw [if_pos ⟨hi, e3⟩] at hR
    refine condT (vSomeMk ⟨_, _, _, vw.cell 1 rfl, rng64 (by omega) (by omega), ?_⟩)
    subst hR
    exact refClose_calls p3 fun h5 c5 p5 E5 => hk h5 c5 p5 ((ExtP.kb k03).trans E5.ra)
  · exact rest (no fun _ => by omega)
  · exact rest (nn fun h => e2 (by unfold isN at h; simp only [Bool.and_eq_true, decide_eq_true_eq] at h; exact h.2))
  · exact rest (nn fun h => e1 (by unfold isN at h; simp only [Bool.and_eq_true, decide_eq_true_eq] at h; exact h.1))
end
end Go.Proofs
namespace Go.Proofs
open Go Go.Sh
set_option linter.unusedVariables false
set_option maxRecDepth 100000
def AA (s : Nat) : Prop := PA s ∨ RA s
section
variable {h h' : H} {K : Value -> H -> Prop} {col col' : Col} {w r : Addr} {m m' : WM} {u v x : Nat}
theorem PD.actA {h1 h2 : H} {c1 c2 : Col} (D : PD h col w r m) (P1 : PW h1 c1 w m') (E1 : ExtP PA h col h1 c1) (R2 : RW h2 c2 r m') (E2 : ExtP RA h1 c1 h2 c2) : PD h2 c2 w r m' /\ ExtP AA h col h2 c2 :=
  ⟨⟨P1.ext E2 (by unfold RA RS; omega) (by unfold RA RS; omega) R2.fresh, R2⟩, (E1.mono fun s hs => .inl hs).trans (E2.mono fun s hs => .inr hs)⟩
theorem RW.otherA {h1 : H} {c1 : Col} (R : RW h col r m) (E : ExtP PA h col h1 c1) (f : Fresh h1 c1) : RW h1 c1 r m := R.ext E (by unfold PA PS; omega) (by unfold PA PS; omega) f
theorem ExtP.aa (E : ExtP AS h col h' col') : ExtP AA h col h' col' := E.mono fun s hs => hs.imp .inl .inl
theorem alikeA_calls (D : PD h col w r m) (H : DI m u v x) (hk : ∀ h', KB h h' -> K (.bool true) h') : HCalls Tryz.prog 19 ⟨[.pointer (some w), .pointer (some r)]⟩ h K := by
  obtain ⟨t, ads, T, W⟩ := D.P.ex
  obtain ⟨t2, T2, W2⟩ := D.R.ex
  obtain ⟨ob, oc, mb, mn, mc, vw, o, om⟩ := W.ex
  obtain ⟨ob2, oc2, mb2, mn2, mc2, vr, o2, om2⟩ := W2.ex
  refine Sx.l14_alike.ok _ _ _ _ (vSomeMk ⟨_, _, _, vw.cell 1 rfl, vSomeMk ⟨_, _, _, vr.cell 1 rfl, sameOpen_calls o.row o2.row ?_⟩⟩)
  rw [decide_eq_true rfl]
  refine vBool_mk (condT (vSomeMk ⟨_, _, _, vw.cell 2 rfl, vSomeMk ⟨_, _, _, vr.cell 2 rfl, sameMarks_calls om.row om2.row ?_⟩⟩))
  rw [decide_eq_true rfl]
  obtain ⟨D1, hD1⟩ := H.G.deep
  refine vBool_mk (condT (vSomeMk ⟨_, vw.cell 0 rfl, vSomeMk ⟨_, vr.cell 0 rfl, ?_⟩⟩))
  refine whole_calls H.G D1 0 T (hD1 _ (Nat.le_refl _) 0) fun h3 b3 n3 c3 k3 o3 => vSliceMk ⟨k3.ext, ?_⟩
  refine whole_r H.G H.B D1 0 (T2.kb k3) (hD1 _ (Nat.le_refl _) 0) fun h4 b4 n4 c4 k4 o4 => vSliceMk ?_
  refine sameNodes_calls D1 (o3.kb k4).row o4.row fun h5 k5 => ?_
  rw [sameN_true rfl]
  exact vBool_mk (condT (hk h5 ((k3.trans k4).trans k5)))
theorem pushW_k (D : PD h col w r m) (hm : m.mks.length <= 1000000) {y : MarkP} {ab : Option Addr} {an ac : Nat} (hR : MarkR (Free col h) h y ab an ac) {Q : H -> Prop}
    (hk : ∀ h' col', PW h' col' w { m with mks := pushP m.mks y } -> RW h' col' r m -> ExtP AS h col h' col' -> Q h') :
    ∃ b n c, cell h (r.add 2) = some (.slice b n c) /\ (HCalls Tryz.prog 10 ⟨[.slice b n c, .agg ⟨[.int .i64 y.1, S y.2.1, .slice ab an ac]⟩]⟩ h fun v h1 => vSlice v fun b n c => vSome (some w) fun a => stL (a.add 2) [.slice b n c] 0 h1 Q) := by
  obtain ⟨t2, T2, W2⟩ := D.R.ex
  obtain ⟨ob2, oc2, mb2, mn2, mc2, vr, o2, om2⟩ := W2.ex
  obtain ⟨xs, he, hc, _⟩ := om2.parts
  obtain ⟨t, ads, T, W⟩ := D.P.ex
  have hl := om2.len
  refine ⟨_, _, _, vr.cell 2 rfl, refPush_calls om2.row he hc (fun k hk => hk.2) hR (by omega) fun b' n' c' h1 o1 k1 => vSliceMk (vSomeMk ?_)⟩
  refine setMarks_k W D.P.fresh k1 o1 fun h2 W2' E2 f2 _ => ?_
  exact hk h2 _ ⟨t, ads, T.otherP (S := fun k => k = 2) (by decide) E2 f2, W2'⟩ (D.R.ext (Z := fun k => k = 2) E2 (by decide) (by decide) f2) (E2.mono fun s hs => .inl (.inr hs))
theorem pushR_k (R : RW h col r m) (hm : m.mks.length <= 1000000) {y : MarkP} {ab : Option Addr} {an ac : Nat} (hR : MarkR (Free col h) h y ab an ac) {Q : H -> Prop}
    (hk : ∀ h' col', RW h' col' r { m with mks := pushP m.mks y } -> ExtP RS h col h' col' -> Q h') :
    ∃ b n c, cell h (r.add 2) = some (.slice b n c) /\ (HCalls Tryz.prog 10 ⟨[.slice b n c, .agg ⟨[.int .i64 y.1, S y.2.1, .slice ab an ac]⟩]⟩ h fun v h1 => vSlice v fun b n c => vSome (some r) fun a => stL (a.add 2) [.slice b n c] 0 h1 Q) := by
  obtain ⟨t2, T2, W2⟩ := R.ex
  obtain ⟨ob2, oc2, mb2, mn2, mc2, vr, o2, om2⟩ := W2.ex
  obtain ⟨xs, he, hc, _⟩ := om2.parts
  have hl := om2.len
  refine ⟨_, _, _, vr.cell 2 rfl, refPush_calls om2.row he hc (fun k hk => hk.2) hR (by omega) fun b' n' c' h1 o1 k1 => vSliceMk (vSomeMk ?_)⟩
  refine setMarks_k W2 R.fresh k1 o1 fun h2 W2' E2 f2 _ => ?_
  exact hk h2 _ ⟨t2, T2.otherP (Z := fun k => k = 3) (by decide) E2 f2, W2'⟩ (E2.mono fun s hs => .inr hs)
theorem ExtP.mark {Z : Nat -> Prop} (E : ExtP Z h col h' col') {y : MarkP} {ab : Option Addr} {an ac : Nat} (hR : MarkR (Free col h) h y ab an ac) : MarkR (Free col' h') h' y ab an ac := by
  have hi := hR.inv
  exact _root_.Go.Proofs.markR (E.row hi.1) hi.2.1 hi.2.2.1 hi.2.2.2
theorem pushBoth_k (D : PD h col w r m) (hm : m.mks.length <= 1000000) {y : MarkP} {ab : Option Addr} {an ac : Nat} (hR : MarkR (Free col h) h y ab an ac) {a : Addr} {ty : Nat} (va : Var h a ty [.int .i64 y.1, S y.2.1, .slice ab an ac]) (ha : col a.block = none) {Q : H -> Prop}
    (hk : ∀ h' col', PD h' col' w r { m with mks := pushP m.mks y } -> ExtP AS h col h' col' -> Q h') :
    vSome (some r) fun a196 => ∃ s197b s197n s197c, cell h (a196.add 2) = some (.slice s197b s197n s197c) /\ (∃ i198, cell h ((a).add 0) = some (.int .i64 i198) /\ (∃ s199, cell h ((a).add 1) = some (S s199) /\ (∃ s200b s200n s200c, cell h ((a).add 2) = some (.slice s200b s200n s200c) /\ (HCalls Tryz.prog 10 ⟨[(.slice s197b s197n s197c), (.agg ⟨[(.int .i64 i198), (S s199), (.slice s200b s200n s200c)]⟩)]⟩ h fun v201 h202 => vSlice v201 fun s203b s203n s203c => vSome (some w) fun a204 => stL (a204.add 2) [(.slice s203b s203n s203c)] 0 h202 fun h205 => vSome (some r) fun a206 => ∃ s207b s207n s207c, cell h205 (a206.add 2) = some (.slice s207b s207n s207c) /\ (∃ i208, cell h205 ((a).add 0) = some (.int .i64 i208) /\ (∃ s209, cell h205 ((a).add 1) = some (S s209) /\ (∃ s210b s210n s210c, cell h205 ((a).add 2) = some (.slice s210b s210n s210c) /\ (HCalls Tryz.prog 10 ⟨[(.slice s207b s207n s207c), (.agg ⟨[(.int .i64 i208), (S s209), (.slice s210b s210n s210c)]⟩)]⟩ h205 fun v211 h212 => vSlice v211 fun s213b s213n s213c => vSome (some r) fun a214 => stL (a214.add 2) [(.slice s213b s213n s213c)] 0 h212 Q)))))))) := by
  obtain ⟨b, n, c, e, H1⟩ := pushW_k (Q := fun h205 => vSome (some r) fun a206 => ∃ s207b s207n s207c, cell h205 (a206.add 2) = some (.slice s207b s207n s207c) /\ (∃ i208, cell h205 ((a).add 0) = some (.int .i64 i208) /\ (∃ s209, cell h205 ((a).add 1) = some (S s209) /\ (∃ s210b s210n s210c, cell h205 ((a).add 2) = some (.slice s210b s210n s210c) /\ (HCalls Tryz.prog 10 ⟨[(.slice s207b s207n s207c), (.agg ⟨[(.int .i64 i208), (S s209), (.slice s210b s210n s210c)]⟩)]⟩ h205 fun v211 h212 => vSlice v211 fun s213b s213n s213c => vSome (some r) fun a214 => stL (a214.add 2) [(.slice s213b s213n s213c)] 0 h212 Q))))) D hm hR fun h2 c2 P2 R2 E2 => by
    have va2 := va.keep E2.keepF ⟨ha, va.lt⟩
    obtain ⟨b, n, c, e, H2⟩ := pushR_k (Q := Q) R2 hm (E2.mark hR) fun h3 c3 R3 E3 => hk h3 c3 ⟨P2.otherR E3 R3.fresh, R3⟩ (E2.trans (E3.mono fun s hs => .inr hs))
    exact ⟨_, _, _, e, _, va2.cell 0 rfl, _, va2.cell 1 rfl, _, _, _, va2.cell 2 rfl, H2⟩
  exact ⟨_, _, _, e, _, va.cell 0 rfl, _, va.cell 1 rfl, _, _, _, va.cell 2 rfl, H1⟩
end
end Go.Proofs
namespace Go.Proofs
open Go Go.Sh
set_option linter.unusedVariables false
set_option maxRecDepth 100000
abbrev cellsA (o : OpA) (ab : Option Addr) (an ac : Nat) : List Value := [.int .u8 o.1, .int .u8 o.2.1, S o.2.2.1, .slice ab an ac]
abbrev cellsK (o : OpA) (ab : Option Addr) (an ac : Nat) : List Value := [.int .u8 0, S o.2.2.1, .slice ab an ac, .bool false, S []]
abbrev T5A := Sx.l14_AdoptDoes.T5
abbrev T4A := Sx.l14_AdoptDoes.T4
abbrev T0A := Sx.l14_AdoptDoes.T0
theorem rngA3 {x : Int} (h : Rng .u8 x) : Rng .u8 (Int.tmod x 3) := by
  obtain ⟨h1, h2⟩ := h
  have h3 : (0 : Int) <= x := h1
  rw [Int.tmod_eq_emod_of_nonneg h3]
  exact ⟨by show (0 : Int) <= _; omega, by show _ <= (255 : Int); omega⟩
structure CallA (h : H) (col : Col) (w r : Addr) (m : WM) (u v x : Nat) (o : OpA) (a : Addr) (ty : Nat) (ab : Option Addr) (an ac : Nat) : Prop where
  D : PD h col w r m
  A : AI m u v x
  M : MW m
  L : Lib0 h col
  va : Var h a ty (cellsA o ab an ac)
  ca : col a.block = none
  row : Row elAttr (Free col h) h ab an ac o.2.2.2
  nil : ab = none -> ac = 0
  r0 : Rng .u8 o.1
  r1 : Rng .u8 o.2.1
  rn : o.2.2.1.length <= 4000
  rl : o.2.2.2.length <= 500
  rv : ∀ y ∈ o.2.2.2, y.2.length <= 4000
  hu : u <= 100000
  hv : v <= 1000
  hx : x <= 1000000
section
variable {h : H} {K : Value -> H -> Prop} {col : Col} {w r : Addr} {m : WM} {u v x : Nat} {b : Option Addr} {n c : Nat} {i : Int} {o : OpA} {a a7 : Addr} {ab : Option Addr} {an ac ty ty7 : Nat}
theorem CallA.step (C : CallA h col w r m u v x o a ty ab an ac) {h1 : H} {c1 : Col} {m1 : WM} {u1 v1 x1 : Nat} {Z : Nat -> Prop} (D : PD h1 c1 w r m1) (A : AI m1 u1 v1 x1) (M : MW m1) (E : ExtP Z h col h1 c1) (hu : u1 <= 100000) (hv : v1 <= 1000) (hx : x1 <= 1000000) : CallA h1 c1 w r m1 u1 v1 x1 o a ty ab an ac :=
  ⟨D, A, M, C.L.ext E, C.va.keep E.keepF ⟨C.ca, C.va.lt⟩, by rw [E.cl _ C.va.lt]; exact C.ca, E.row C.row, C.nil, C.r0, C.r1, C.rn, C.rl, C.rv, hu, hv, hx⟩
theorem CallA.attrs (C : CallA h col w r m u v x o a ty ab an ac) : AttrsW o.2.2.2 := fun y hy => by have := C.rv y hy; omega
theorem doesMarkA (C : CallA h col w r m u v x o a ty ab an ac) {id : Int} (hid : Rng .i64 id) (h0 : id ≠ 0) (hmw : MW { m with mks := pushP m.mks (id, o.2.2.1, o.2.2.2) }) (Kn Ke2 Ke1 : T5A) (Ke0 : T4A) (Kr : T0A)
    (after : ∀ h' col' m', PD h' col' w r m' -> AI m' u (v + 1) x -> MW m' -> ExtP AA h col h' col' -> Kn b n c (some w) (some r) i h') :
    Sx.l14_AdoptDoes.n26 b n c (some w) (some r) i a id Kn Ke2 Ke1 Ke0 Kr h := by
  have hml := C.A.D.ml
  have hv := C.hv
  have both : Sx.l14_AdoptDoes.n27 b n c (some w) (some r) i a id true Kn Ke2 Ke1 Ke0 Kr h := by
    refine condT ⟨_, C.va.cell 2 rfl, _, _, _, C.va.cell 3 rfl, newx_var fun a6 h2 v2 k2 e2 s2 => stL_var0 v2 (by show 3 <= 3; omega) fun h3 v3 k3 s3 => ?_⟩
    have k23 : KB h h3 := KB.step k2 k3 (by omega)
    have R1 : Row elAttr (Free col h3) h3 ab an ac o.2.2.2 := (ExtP.kb (S := fun _ => False) k23).row C.row
    have hR : MarkR (Free col h3) h3 (id, o.2.2.1, o.2.2.2) ab an ac := markR (m := (id, o.2.2.1, o.2.2.2)) R1 C.nil hid (by show o.2.2.1.length <= maxLen; have := C.rn; simp only [maxLen]; omega)
    exact pushBoth_k (y := (id, o.2.2.1, o.2.2.2)) (C.D.kb k23) (by omega) hR v3 (C.D.P.fresh _ (by omega)) fun h4 c4 D4 E4 => after h4 c4 _ D4 (C.A.push ⟨C.rn, C.rl, C.rv⟩ h0) hmw ((ExtP.kb k23).trans E4.aa)
  refine ⟨_, C.va.cell 0 rfl, by decide, spl (fun _ => both) fun _ => ⟨_, C.va.cell 0 rfl, by decide, spl (fun _ => both) fun _ => condF (after h col m C.D (C.A.mono (Nat.le_refl _) (by omega) (Nat.le_refl _)) C.M (.refl _ _ _))⟩⟩
theorem doesInsA (C : CallA h col w r m u v x o a ty ab an ac) (hu2 : u <= 90000) (v7 : Var h a7 ty7 (cellsK o ab an ac)) (c7 : col a7.block = none) {sp : Int} (hsp : Rng .u8 sp) (Kn Ke2 Ke1 : T5A) (Ke0 : T4A) (Kr : T0A)
    (after : ∀ h' col' m', PD h' col' w r m' -> AI m' (u + 1) (v + 1) x -> MW m' -> ExtP AA h col h' col' -> Kn b n c (some w) (some r) i h') :
    Sx.l14_AdoptDoes.n24 b n c (some w) (some r) i a a7 sp Kn Ke2 Ke1 Ke0 Kr h := by
  have hlo := C.A.D.lo
  have hln := C.A.D.ln
  have hu := C.hu
  have hv := C.hv
  have hal := C.row.len
  have hrl := C.rl
  have hrn := C.rn
  refine ⟨_, v7.cell 0 rfl, _, v7.cell 1 rfl, _, _, _, v7.cell 2 rfl, _, v7.cell 3 rfl, _, v7.cell 4 rfl, ?_⟩
  refine insert_calls C.L C.D.P C.A.D.G C.A.D.ne (by omega) (by omega) C.row C.nil (by omega) C.attrs hsp ⟨by decide, by decide⟩ (by omega) fun h1 c1 P1 E1 => vIntMk ?_
  have va7 := v7.keep E1.keepF ⟨c7, v7.lt⟩
  have R1 := C.D.R.otherP E1 P1.fresh
  refine ⟨_, va7.cell 0 rfl, _, va7.cell 1 rfl, _, _, _, va7.cell 2 rfl, _, va7.cell 3 rfl, _, va7.cell 4 rfl, ?_⟩
  refine refInsert_calls R1 C.A.D.G C.A.D.ne (by omega) (by omega) (E1.row C.row) (by omega) C.attrs hsp ⟨by decide, by decide⟩ (by omega) fun h2 c2 R2 E2 => vIntMk (splT rfl ?_)
  obtain ⟨D2, EA⟩ := C.D.act P1 E1 R2 E2
  have hpos := C.A.pos
  have hl : (insertM m sp o.2.2.1 o.2.2.2).ns.length = m.ns.length + 1 := insert_lenR C.A.D.G
  refine doesMarkA (C.step D2 (C.A.insert sp C.rn o.2.2.2) (C.M.insert C.A.D.G sp o.2.2.1 o.2.2.2) EA (by omega) C.hv C.hx) (rng64 (by omega) (by omega)) (by omega) ?_ Kn Ke2 Ke1 Ke0 Kr fun h3 c3 m3 D3 A3 M3 E3 => after h3 c3 m3 D3 A3 M3 (EA.aa.trans E3)
  unfold MW
  show MI (pushP m.mks _) (insertM m sp o.2.2.1 o.2.2.2).ns.length
  rw [hl]
  exact MI.push C.M _
theorem closeBoth (C : CallA h col w r m u v x o a ty ab an ac) {Q : H -> Prop} (after : ∀ h' col' m', PD h' col' w r m' -> AI m' u v x -> MW m' -> ExtP AA h col h' col' -> Q h') :
    ∃ s79, cell h (a.add 2) = some (S s79) /\ (HCalls Tryz.prog 17 ⟨[(.pointer (some w)), (S s79)]⟩ h fun v80 h81 => ∃ s82, cell h81 (a.add 2) = some (S s82) /\ (HCalls Tryz.prog 18 ⟨[(.pointer (some r)), (S s82)]⟩ h81 fun v83 h84 => Q h84)) := by
  have hlo := C.A.D.lo
  have hu := C.hu
  refine ⟨_, C.va.cell 2 rfl, adClose_calls C.L C.D.P (by omega) (fun y hy => by have := C.A.nml y hy; omega) fun h1 c1 P1 E1 => ?_⟩
  have va1 := C.va.keep E1.keepF ⟨C.ca, C.va.lt⟩
  refine ⟨_, va1.cell 2 rfl, refAdClose_calls (C.D.R.otherP E1 P1.fresh) (by omega) fun h2 c2 R2 E2 => ?_⟩
  obtain ⟨D2, EA⟩ := C.D.act P1 E1 R2 E2
  exact after h2 c2 _ D2 (C.A.closeA _) (C.M.close _) EA.aa
theorem doesRunA (C : CallA h col w r m u v x o a ty ab an ac) (hu2 : u <= 90000) (Kn Ke2 Ke1 : T5A) (Ke0 : T4A) (Kr : T0A)
    (after : ∀ h' col' m', PD h' col' w r m' -> AI m' (u + 32) v x -> MW m' -> ExtP AA h col h' col' -> Kn b n c (some w) (some r) i h') :
    Sx.l14_AdoptDoes.n36 b n c (some w) (some r) i a Kn Ke2 Ke1 Ke0 Kr h := by
  have hv := C.hv
  refine ⟨_, C.va.cell 2 rfl, run_calls C.L C.D.P C.A (by omega) (by omega) fun h1 c1 P1 E1 => vBool_mk ?_⟩
  have va1 := C.va.keep E1.keepF ⟨C.ca, C.va.lt⟩
  have second : ∀ z, z = (runM m o.2.2.1).2 -> Sx.l14_AdoptDoes.n37 b n c (some w) (some r) i a z Kn Ke2 Ke1 Ke0 Kr h1 := fun z hz => by
    refine ⟨_, va1.cell 2 rfl, refRun_calls (C.D.R.otherA E1 P1.fresh) C.A C.M (by omega) (by omega) fun h2 c2 R2 E2 => vBool_mk ?_⟩
    obtain ⟨D2, EA⟩ := C.D.actA P1 E1 R2 E2
    have A2 := C.A.run o.2.2.1
    have M2 := C.M.run C.A o.2.2.1
    rw [<- hz]
    cases z with
    | true => exact condT (condT (condT (condT (after h2 c2 _ D2 A2 M2 EA))))
    | false =>
      refine condF (condF (condF (condF ?_)))
      exact closeBoth (C.step D2 A2 M2 EA (by omega) C.hv C.hx) fun h3 c3 m3 D3 A3 M3 E3 => after h3 c3 m3 D3 A3 M3 (EA.trans E3)
  exact condB (fun e => second true e.symm) fun e => second false e.symm
theorem doesRestA (C : CallA h col w r m u v x o a ty ab an ac) (hu2 : u <= 90000) (k : Int) (Kn Ke2 Ke1 : T5A) (Ke0 : T4A) (Kr : T0A)
    (after : ∀ h' col' m', PD h' col' w r m' -> AI m' (u + 32 + v) (v + 1) (x + 4000) -> MW m' -> ExtP AA h col h' col' -> Kn b n c (some w) (some r) i h') :
    Sx.l14_AdoptDoes.n28 b n c (some w) (some r) i a k Kn Ke2 Ke1 Ke0 Kr h := by
  have hlo := C.A.D.lo
  have hln := C.A.D.ln
  have hml := C.A.D.ml
  have hv := C.hv
  have hx := C.hx
  have hrn := C.rn
  have mk : ∀ {m' : WM} {u' v' x' : Nat}, AI m' u' v' x' -> u' <= u + 32 + v -> v' <= v + 1 -> x' <= x + 4000 -> AI m' (u + 32 + v) (v + 1) (x + 4000) := fun A h1 h2 h3 => A.mono h1 h2 h3
  have run : Sx.l14_AdoptDoes.n36 b n c (some w) (some r) i a Kn Ke2 Ke1 Ke0 Kr h := doesRunA C hu2 _ _ _ _ _ fun h' c' m' D' A' M' E' => after h' c' m' D' (mk A' (by omega) (by omega) (by omega)) M' E'
  refine spl (fun _ => condT ?_) fun _ => condF (spl (fun _ => condT ?_) fun _ => condF (spl (fun _ => condT run) fun _ => spl (fun _ => condT run) fun _ => condF ?_))
  · have hlen : ∀ (i : Nat) z, m.ns[i]? = some z -> z.text.length + o.2.2.1.length <= 9223372036854775807 := fun i z hz => by have := C.A.D.tx i z hz; omega
    refine ⟨_, C.va.cell 2 rfl, write_callsW C.D.P C.A.D.G C.A.D.ne (by omega) (by omega) hlen (by simp only [maxLen]; omega) fun h1 c1 P1 E1 => ?_⟩
    have va1 := C.va.keep E1.keepF ⟨C.ca, C.va.lt⟩
    refine ⟨_, va1.cell 2 rfl, refWrite_calls (C.D.R.otherP E1 P1.fresh) C.A.D.G C.A.D.ne (by omega) (by omega) hlen (by simp only [maxLen]; omega) fun h2 c2 R2 E2 => ?_⟩
    obtain ⟨D2, EA⟩ := C.D.act P1 E1 R2 E2
    exact after h2 c2 _ D2 (mk (C.A.write C.rn) (by omega) (by omega) (by omega)) (C.M.write C.A.D.G _) EA.aa
  · refine rebuild_callsW C.L C.D.P C.A.D.G C.A.D.ne (by omega) (by omega) C.A.D.mw.w fun h1 c1 P1 E1 => ?_
    refine refRebuild_calls (C.D.R.otherP E1 P1.fresh) C.A.D.G C.A.D.ne (by omega) (by omega) C.A.D.mw.w fun h2 c2 R2 E2 => ?_
    obtain ⟨D2, EA⟩ := C.D.act P1 E1 R2 E2
    exact after h2 c2 _ D2 (mk C.A.rebuild (by omega) (by omega) (by omega)) (C.M.rebuild C.A) EA.aa
  · exact closeBoth C fun h' c' m' D' A' M' E' => after h' c' m' D' (mk A' (by omega) (by omega) (by omega)) M' E'
end
end Go.Proofs
