import Derived.Test.YtakddeombdgdgaaGreatPcD
import Derived.Test.YtakddeombdgdgaaGreatMsK
import Derived.Test.YtakddeombdgdgaaGreatOpA
import Derived.Test.YtakddeombdgdgaaGreatTxD
namespace Go.Proofs
open Go Go.Sh
set_option linter.unusedVariables false
set_option maxRecDepth 100000
theorem cloneA_k {α : Type} {E : El α} {t e0 by' : Nat} (ap : Apd Tryz.prog E t e0 by') (hsl : isSlD (Tryz.prog.underlying t) = true) {A : Nat -> Prop} {h : H} {b : Option Addr} {n c : Nat} {l : List α} {xs : List Value} {x y : Operand} (hA : ∀ k, A k -> k < h.size)
    (he : Enc E A h l xs) (hc : Cells h b xs) (hl : l.length = n) (hcap : n <= c) (hz : b = none -> c = 0) (hn : n <= 1000000) (hb : by' <= 1000)
    {Kr : Option Addr -> Nat -> Nat -> H -> Prop} (hk : ∀ b' c' h', OwnA E A h' h.size e0 b' n c' l -> KB h h' -> Kr b' n c' h') :
    SemH Tryz.prog (binS .eql t x y (.slice b n c) (.slice none 0 0)) h fun v9 h10 => vBool v9 fun b11 => cond b11 (Kr none 0 0 h10) (newx h10 #[] e0 fun a12 h13 => SemH Tryz.prog (Builtin.append_ #[t, t] t ⟨[(.slice (some a12) 0 0), (.slice b n c)]⟩) h13 fun v14 h15 => vSlice v14 fun s16b s16n s16c => Kr s16b s16n s16c h15) := by
  refine (semR_slnil hsl ?_).h
  refine vBool_mk (condB (fun e => ?_) fun e => ?_)
  · have hb : b = none := by simpa using e
    have hc := hz hb
    have hn0 : n = 0 := by omega
    subst hn0
    have : l = [] := List.eq_nil_of_length_eq_zero hl
    subst this
    exact hk none 0 h (OwnA.none _ _ _ _) (KB.refl h)
  · refine newx_var (cs := []) fun a h1 v1 k1 e1 s1 => ?_
    have o1 : OwnA E A h1 h.size e0 (some a) 0 0 [] := ⟨OwnT.nil _ _ _ _ _, (fun q e => by cases e; omega), (fun q e => by cases e; exact v1.lt), fun e => by cases e⟩
    have hbb : (0 + n) * by' <= 140737488355328 := by
      have : (0 + n) * by' <= 1000000 * 1000 := Nat.mul_le_mul (by omega) hb
      omega
    refine OwnA.append ap o1 hA hl (he.keep ((KB.w k1).less fun k hk => hk.2) fun _ h _ => h) (fun j v hv => by
      obtain ⟨q, e, ec⟩ := hc j v hv
      exact ⟨q, e, (KB.w k1).cell (cell_lt ec) ec⟩) (by simp only [maxLen]; omega) hbb (by omega) fun b' c' h' o' g' => vSliceMk ?_
    rw [Nat.zero_add] at o' ⊢
    exact hk b' c' h' o' (g'.kb0 k1 fun q e => by cases e; omega)
theorem cloneM_calls {A : Nat -> Prop} {h : H} {K : Value -> H -> Prop} {b : Option Addr} {n c : Nat} {l : List MarkP} {xs : List Value} (hA : ∀ k, A k -> k < h.size) (he : Enc elMark A h l xs) (hc : Cells h b xs) (hl : l.length = n) (hcap : n <= c) (hz : b = none -> c = 0) (hn : n <= 1000000)
    (hk : ∀ b' c' h', OwnA elMark A h' h.size 36 b' n c' l -> KB h h' -> K (.slice b' n c') h') : HCalls Tryz.prog 39 ⟨[.slice b n c]⟩ h K :=
  Sx.slices_Clone_apiMark.ok _ _ _ _ _ (cloneA_k (Kr := fun b n c h => K (.slice b n c) h) apdMark (by kernel_rfl) hA he hc hl hcap hz hn (by decide) hk)
theorem cloneO_calls {h : H} {K : Value -> H -> Prop} {b : Option Addr} {n c : Nat} {l : List OpenP} {A0 : Nat -> Prop} {xs : List Value} (he : Enc elOpen A0 h l xs) (hc : Cells h b xs) (hl : l.length = n) (hcap : n <= c) (hz : b = none -> c = 0) (hn : n <= 1000000)
    (hk : ∀ b' c' h', OwnA elOpen Non h' h.size 60 b' n c' l -> KB h h' -> K (.slice b' n c') h') : HCalls Tryz.prog 127 ⟨[.slice b n c]⟩ h K :=
  Sx.slices_Clone_apiOpen.ok _ _ _ _ _ (cloneA_k (Kr := fun b n c h => K (.slice b n c) h) apdOpen (by kernel_rfl) (A := Non) (fun k hk => hk.elim) (Enc.flat flatOpen he) hc hl hcap hz hn (by decide) hk)
section
variable {h h1 : H} {K : Value -> H -> Prop} {col : Col} {s ty : Nat} {w t : Addr} {op : List OpenP} {mk : List MarkP} {fo : Bool} {hi : Int}
theorem notW (W : WorldW h col s ty w t op mk fo hi) {p k : Nat} {col' : Col} (hc : col' w.block = some (s, 0)) (hp : p ≠ 0) (h2 : col' k = none ∨ col' k = some (s, p)) : k ≠ w.block := fun e => by
  subst e
  rcases h2 with h2 | h2
  · rw [hc] at h2; cases h2
  · rw [hc] at h2; cases h2; exact hp rfl
theorem setMarks_k (W : WorldW h col s ty w t op mk fo hi) (f : Fresh h col) (k : KB h h1) {b : Option Addr} {n c : Nat} {mk' : List MarkP} (o' : OwnA elMark (Free col h) h1 h.size 36 b n c mk') {Q : H -> Prop}
    (hk : ∀ h', WorldW h' (putB col h b (s, 2)) s ty w t op mk' fo hi -> ExtP (fun k => k = s) h col h' (putB col h b (s, 2)) -> Fresh h' (putB col h b (s, 2)) -> cell h' (w.add 2) = some (.slice b n c) -> Q h') : stL (w.add 2) [.slice b n c] 0 h1 Q := by
  obtain ⟨ob, oc, mb, mn, mc, v, o, om⟩ := W.ex
  refine stL_var (m := 2) (i := 0) (v.kb k) (by show 2 + 0 + 1 <= 5; omega) fun h3 v3 k3 s3 => ?_
  have hc1 : ∀ q, q < h.size -> putB col h b (s, 2) q = col q := fun q hq => putB_old hq
  have hcw : putB col h b (s, 2) w.block = some (s, 0) := by rw [hc1 _ v.lt]; exact W.col
  have f1 : Fresh h1 (putB col h b (s, 2)) := f.putB k.1 o'.hi
  have hw1 : ∀ q, q < h1.size -> ∀ p, p ≠ 0 -> (putB col h b (s, 2) q = none ∨ putB col h b (s, 2) q = some (s, p)) -> q ≠ w.block := fun q hq p hp h2 => notW W hcw hp h2
  have o1 : OwnC elOpen h1 (putB col h b (s, 2)) (s, 1) 60 ob op.length oc op := o.keep k.w hc1 fun q hq _ => hq
  have o3 := o1.keep (h' := h3) (col' := putB col h b (s, 2)) k3.w (fun _ _ => rfl) fun q hq h2 => hw1 q hq 1 (by decide) h2
  have om1 : OwnC elMark h1 (putB col h b (s, 2)) (s, 2) 36 b n c mk' := o'.toC k.1
  have om3 := om1.keep (h' := h3) (col' := putB col h b (s, 2)) k3.w (fun _ _ => rfl) fun q hq h2 => hw1 q hq 2 (by decide) h2
  exact hk h3 ⟨⟨ob, oc, b, n, c, v3, o3, om3⟩, hcw, W.rh⟩
    ⟨(k.less fun q hq => hq.1).trans (k3.less fun q hq e => hq.2 s 0 rfl (by rw [e]; exact W.col)), hc1⟩ (fun q hq => f1 q (by rw [<- s3]; exact hq)) (v3.cell 2 rfl)
theorem setOpen_k (W : WorldW h col s ty w t op mk fo hi) (f : Fresh h col) (k : KB h h1) {b : Option Addr} {n c : Nat} {op' : List OpenP} (o' : OwnA elOpen Non h1 h.size 60 b n c op') {Q : H -> Prop}
    (hk : ∀ h', WorldW h' (putB col h b (s, 1)) s ty w t op' mk fo hi -> ExtP (fun k => k = s) h col h' (putB col h b (s, 1)) -> Fresh h' (putB col h b (s, 1)) -> cell h' (w.add 1) = some (.slice b n c) -> Q h') : stL (w.add 1) [.slice b n c] 0 h1 Q := by
  obtain ⟨ob, oc, mb, mn, mc, v, o, om⟩ := W.ex
  have hlen := o'.len
  refine stL_var (m := 1) (i := 0) (v.kb k) (by show 1 + 0 + 1 <= 5; omega) fun h3 v3 k3 s3 => ?_
  have hc1 : ∀ q, q < h.size -> putB col h b (s, 1) q = col q := fun q hq => putB_old hq
  have hcw : putB col h b (s, 1) w.block = some (s, 0) := by rw [hc1 _ v.lt]; exact W.col
  have f1 : Fresh h1 (putB col h b (s, 1)) := f.putB k.1 o'.hi
  have hw1 : ∀ q, q < h1.size -> ∀ p, p ≠ 0 -> (putB col h b (s, 1) q = none ∨ putB col h b (s, 1) q = some (s, p)) -> q ≠ w.block := fun q hq p hp h2 => notW W hcw hp h2
  have om1 : OwnC elMark h1 (putB col h b (s, 1)) (s, 2) 36 mb mn mc mk := om.keep k.w hc1 fun q hq _ => hq
  have om3 := om1.keep (h' := h3) (col' := putB col h b (s, 1)) k3.w (fun _ _ => rfl) fun q hq h2 => hw1 q hq 2 (by decide) h2
  have oA : OwnA elOpen (Free col h) h1 h.size 60 b n c op' := ⟨o'.own.flat flatOpen, o'.lo, o'.hi, o'.nil⟩
  have o1 : OwnC elOpen h1 (putB col h b (s, 1)) (s, 1) 60 b n c op' := oA.toC k.1
  have o3 := o1.keep (h' := h3) (col' := putB col h b (s, 1)) k3.w (fun _ _ => rfl) fun q hq h2 => hw1 q hq 1 (by decide) h2
  subst hlen
  exact hk h3 ⟨⟨b, c, mb, mn, mc, v3, o3, om3⟩, hcw, W.rh⟩
    ⟨(k.less fun q hq => hq.1).trans (k3.less fun q hq e => hq.2 s 0 rfl (by rw [e]; exact W.col)), hc1⟩ (fun q hq => f1 q (by rw [<- s3]; exact hq)) (v3.cell 1 rfl)
theorem setMarkId_k (W : WorldW h col s ty w t op mk fo hi) (f : Fresh h col) {a : Addr} {n c : Nat} (hc : cell h (w.add 2) = some (.slice (some a) n c)) {i : Nat} (hi1 : i < mk.length) {id : Int} (hid : Rng .i64 id) {Q : H -> Prop}
    (hk : ∀ h', WorldW h' col s ty w t op (mk.set i (id, mk[i].2)) fo hi -> ExtP (fun k => k = s) h col h' col -> Fresh h' col -> cell h' (w.add 2) = some (.slice (some a) n c) -> Q h') : stL ((a.add (i * 3)).add 0) [.int .i64 id] 0 h Q := by
  obtain ⟨ob, oc, mb, mn, mc, v, o, om⟩ := W.ex
  have e1 : some (Value.slice (some a) n c) = some (.slice mb mn mc) := hc.symm.trans (v.cell 2 rfl)
  cases e1
  obtain ⟨xs, ow, en⟩ := om.own.own
  have hl := om.len
  rcases ow.is with ⟨h0, _⟩ | ⟨g, cur, ea, hbg, hg, hcs, htk⟩
  · omega
  cases ea
  have hgl : g < h.size := (Array.getElem?_eq_some_iff.1 hg).1
  have hxl : xs.length = n * 3 := ow.len
  have hcs : cur.size = c * 3 := hcs
  have htk : cur.toList.take (n * 3) = xs := htk
  have hcap := ow.cap
  have hin : i * 3 < n * 3 := by omega
  have ha : ((((⟨g, 0, none⟩ : Addr).add (i * 3)).add 0).add 0) = ⟨g, i * 3, none⟩ := by rw [add_zero', add_zero', addG]
  have hin2 : i * 3 < cur.size := by omega
  unfold stL
  rw [ha]
  refine ⟨⟨cur[i * 3], by unfold cell; simp only [hg]; simp [hin2]⟩, by unfold iced; simp only [hg]; simp, ?_⟩
  show Q (setc h ⟨g, i * 3, none⟩ (.int .i64 id))
  have hst : setc h ⟨g, i * 3, none⟩ (.int .i64 id) = h.setIfInBounds g (.cells (cur.setIfInBounds (i * 3) (.int .i64 id)) 36 (0, 0)) := by
    unfold setc
    apply Array.ext_getElem?
    intro k
    rw [Array.getElem?_modify, Array.getElem?_setIfInBounds]
    by_cases hk : g = k
    · subst hk
      rw [if_pos rfl, if_pos rfl, if_pos hgl, hg]; rfl
    · rw [if_neg hk, if_neg hk]
  have hcg := om.col _ rfl
  have hcg : col g = some (s, 2) := hcg
  have kx : KX g h (setc h ⟨g, i * 3, none⟩ (.int .i64 id)) := ⟨by rw [hst]; simp, fun k hk => by rw [hst, Array.getElem?_setIfInBounds, if_neg (fun e => hk e.symm)]⟩
  have hs : (setc h ⟨g, i * 3, none⟩ (.int .i64 id)).size = h.size := by rw [hst]; simp
  have hwg : w.block ≠ g := fun e => by have := W.col; rw [e, hcg] at this; cases this
  have v' : Var (setc h ⟨g, i * 3, none⟩ (.int .i64 id)) w ty [.pointer (some t), .slice ob op.length oc, .slice (some ⟨g, 0, none⟩) n c, .bool fo, .int .i64 hi] := v.keep kx.w hwg
  have o' := o.keep (h' := setc h ⟨g, i * 3, none⟩ (.int .i64 id)) (col' := col) kx.w (fun _ _ => rfl) fun k hk h2 e => by
    subst e
    rcases h2 with h2 | h2
    · rw [hcg] at h2; cases h2
    · rw [hcg] at h2; cases h2
  have hx : mk[i]? = some mk[i] := List.getElem?_eq_getElem hi1
  have en2 : Enc elMark (Free col h) h (mk.set i (id, mk[i].2)) (xs.set (i * 3 + 0) (.int .i64 id)) := Enc.set en hx (by decide) fun cs hR => by
    obtain ⟨c1, c2, e, h1, h2⟩ := hR
    rw [h1.1] at e
    subst e
    exact ⟨[.int .i64 id], c2, rfl, ⟨rfl, hid⟩, h2⟩
  have en3 : Enc elMark (Free col (setc h ⟨g, i * 3, none⟩ (.int .i64 id))) (setc h ⟨g, i * 3, none⟩ (.int .i64 id)) (mk.set i (id, mk[i].2)) (xs.set (i * 3 + 0) (.int .i64 id)) :=
    en2.keep (kx.w.less fun k hk e => by have h9 : col k = none := hk.1.1; rw [e, hcg] at h9; cases h9) fun k hk _ => ⟨hk.1, by rw [hs]; exact hk.2⟩
  refine hk _ ⟨⟨ob, oc, some ⟨g, 0, none⟩, n, c, v', o', ⟨⟨by rw [List.length_set]; exact hl, xs.set (i * 3 + 0) (.int .i64 id), ⟨by rw [List.length_set]; exact ow.len, ow.cap, ow.max, .inr ⟨g, cur.setIfInBounds (i * 3) (.int .i64 id), rfl, hbg, ?_, ?_, ?_⟩⟩, en3⟩, om.col, fun q e => by rw [hs]; exact om.hi q e, om.nil⟩⟩, W.col, W.rh⟩
    (ExtP.kx kx hcg rfl) (fun k hk => f k (by rw [<- hs]; exact hk)) (v'.cell 2 rfl)
  · rw [hst, Array.getElem?_setIfInBounds, if_pos rfl, if_pos hgl]
  · rw [Array.size_setIfInBounds]; exact hcs
  · show (cur.setIfInBounds (i * 3) (.int .i64 id)).toList.take (n * 3) = _
    rw [Array.toList_setIfInBounds, set_take, htk]; rfl
end
theorem eqOpen (x y : OpenP) : eqAll (cellsO x) (cellsO y) = decide (x = y) := by
  obtain ⟨a, b, c, d⟩ := x
  obtain ⟨a', b', c', d'⟩ := y
  show ((a == a') && ((b == b') && ((c == c') && ((d == d') && true)))) = _
  rw [Bool.eq_iff_iff]
  simp [Prod.ext_iff]
section
variable {A B : Nat -> Prop} {h : H} {K : Value -> H -> Prop} {b b2 : Option Addr} {n c n2 c2 : Nat}
theorem sameOpen_calls {l l2 : List OpenP} (r : Row elOpen A h b n c l) (r2 : Row elOpen B h b2 n2 c2 l2) (hk : K (.bool (decide (l = l2))) h) :
    HCalls Tryz.prog 56 ⟨[.slice b n c, .slice b2 n2 c2]⟩ h K := by
  refine Sx.r00_SameOpen.ok _ _ _ _ _ _ _ _ ?_
  have hl := r.len
  have hl2 := r2.len
  have hm : n <= maxLen := Nat.le_trans r.cap r.max
  simp only [maxLen] at hm
  refine spl (fun hn => ⟨n + 1, ?_⟩) fun hn => ?_
  · have key : ∀ k i, i + k = n -> (∀ j (h1 : j < l.length) (h2 : j < l2.length), j < i -> l[j] = l2[j]) ->
        Sx.r00_SameOpen.n7_L (fun h => K (.bool true) h) (fun h => K (.bool true) h) (fun y4 h => K (.bool y4) h) (k + 1) b n c b2 n2 c2 (i : Int) h := by
      intro k
      induction k with
      | zero =>
        intro i hi hall
        refine splF (by omega) ?_
        have : l = l2 := list_eq_of (by omega) fun j h1 h2 => hall j h1 h2 (by omega)
        rw [decide_eq_true this] at hk
        exact hk
      | succ k ih =>
        intro i hi hall
        refine splT (by omega) (r.idxN (by omega) rfl fun a hA => ldOpen hA fun _ => r2.idxN (i := i) (by omega) rfl fun a2 hA2 => ldOpen hA2 fun _ => semR_neq (by kernel_rfl) (by rfl) (vBool_mk ?_))
        have e := eqOpen (l[i]'(by omega)) (l2[i]'(by omega))
        rw [e]
        refine condB (fun hd => ?_) fun hd => ⟨rng64 (by omega) (by omega), ih (i + 1) (by omega) fun j h1 h2 hj => ?_⟩
        · have : l ≠ l2 := fun e => by subst e; simp at hd
          rw [decide_eq_false this] at hk
          exact hk
        · by_cases e : j < i
          · exact hall j h1 h2 e
          · have : j = i := by omega
            subst this
            simpa using hd
    exact key n 0 (by omega) fun j _ _ hj => absurd hj (Nat.not_lt_zero _)
  · have : l ≠ l2 := fun e => hn (by rw [<- hl, <- hl2, e])
    rw [decide_eq_false this] at hk
    exact hk
end
theorem goodInsertR {m : WM} (G : GoodT m.ns) {sp : Int} {nm : Bs} {at' : List AttrP} : GoodT (insertM m sp nm at').ns := (G.addM _ _ _ _ _).putM _ _ _
theorem insert_lenR {m : WM} (G : GoodT m.ns) {sp : Int} {nm : Bs} {at' : List AttrP} : (insertM m sp nm at').ns.length = m.ns.length + 1 := by
  show (putM _ _ _ _).1.length = _
  rw [put_len (G.addM _ _ _ _ _)]
  show (m.ns ++ [_]).length = _
  simp
end Go.Proofs
namespace Go.Proofs
open Go Go.Sh
set_option linter.unusedVariables false
set_option maxRecDepth 100000
abbrev noMark : MarkP := (0, [], [])
theorem lostTo_rng (l : List MarkP) (o : List OpenP) : ∀ i : Nat, 0 <= lostTo l o i /\ lostTo l o i <= (i : Int)
  | 0 => ⟨Int.le_refl _, Int.le_refl _⟩
  | i + 1 => by
    unfold lostTo
    have := lostTo_rng l o i
    split
    · omega
    · omega
noncomputable def rebN : Nat -> WM -> Nat -> WM
  | 0, m, _ => m
  | k + 1, m, i => rebN k { insertM m 0 (m.mks.getD i noMark).2.1 (m.mks.getD i noMark).2.2 with mks := m.mks.set i ((m.ns.length : Int), (m.mks.getD i noMark).2) } (i + 1)
noncomputable def rebuildW (m : WM) : WM := rebN (m.mks.length - (lostP m.mks m.op).toNat) m (lostP m.mks m.op).toNat
def MarksW (l : List MarkP) : Prop := ∀ x ∈ l, x.2.1.length <= 1000000000 /\ x.2.2.length <= 1000000 /\ AttrsW x.2.2
theorem MarksW.set {l : List MarkP} (w : MarksW l) {i : Nat} (hi : i < l.length) (id : Int) : MarksW (l.set i (id, l[i].2)) := fun x hx => by
  rcases List.mem_or_eq_of_mem_set hx with h | h
  · exact w x h
  · rw [h]; exact w l[i] (List.getElem_mem hi)
def dropO (op : List OpenP) (id : Int) : List OpenP := if 0 < idxQ op (fun x => decide (x.1 = id)) then op.eraseIdx (idxQ op fun x => decide (x.1 = id)).toNat else op
def dropW (m : WM) (id : Int) : WM := { m with op := dropO m.op id }
theorem idxQ_lt {α : Type} {l : List α} {p : α -> Bool} : idxQ l p < l.length /\ -1 <= idxQ l p := by
  unfold idxQ
  cases h : l.findIdx? p with
  | none => exact ⟨by show (-1 : Int) < _; omega, Int.le_refl _⟩
  | some i =>
    obtain ⟨hi, _⟩ := List.findIdx?_eq_some_iff_getElem.1 h
    exact ⟨by show (i : Int) < _; omega, by show (-1 : Int) <= (i : Int); omega⟩
section
variable {A : Nat -> Prop} {h : H} {K : Value -> H -> Prop} {col : Col} {w : Addr} {m : WM} {b : Option Addr} {n c : Nat}
theorem rebuild_callsW (L : Lib0 h col) (p : PW h col w m) (G : GoodT m.ns) (hne : 0 < m.op.length) (hop : m.op.length + m.mks.length < 1000000) (hns : m.ns.length + m.mks.length < 1000000) (hm : MarksW m.mks)
    (hk : ∀ h' col', PW h' col' w (rebuildW m) -> ExtP PS h col h' col' -> K (.tuple ⟨[]⟩) h') :
    HCalls Tryz.prog 13 ⟨[.pointer (some w)]⟩ h K := by
  obtain ⟨t, ads, T, W⟩ := p.ex
  obtain ⟨ob, oc, mb, mn, mc, v, o, om⟩ := W.ex
  have hml := om.len
  have hrng := lostTo_rng m.mks m.op m.mks.length
  have hl0 : 0 <= lostP m.mks m.op := hrng.1
  have hl1 : lostP m.mks m.op <= (m.mks.length : Int) := hrng.2
  obtain ⟨f, hf⟩ := Int.eq_ofNat_of_zero_le hl0
  have hft : (lostP m.mks m.op).toNat = f := by rw [hf]; rfl
  refine Sx.place_World_Rebuild.ok _ _ _ (vSomeMk ⟨_, _, _, v.cell 2 rfl, vSomeMk ⟨_, _, _, v.cell 1 rfl, lost_calls (fun k hk => hk) om.row o.row fun h1 k1 => vIntMk ?_⟩⟩)
  rw [hf]
  obtain ⟨xs, he, hc, _⟩ := (om.kb k1).parts
  have hcap := om.cap
  refine vSomeMk ⟨_, _, _, (v.kb k1).cell 2 rfl, cloneM_calls (fun k hk => hk.2) he hc hml hcap.1 om.nil (by omega) fun b' c' h2 o2 k2 => vSliceMk (vSomeMk (setMarks_k (W.kb k1) (p.fresh.kb k1) k2 o2 fun h3 W3 E3 f3 hc3 => ?_))⟩
  have hcap2 := o2.own.cap
  have E03 : ExtP PS h col h3 (putB col h1 b' (2, 2)) := (ExtP.kb k1).trans (E3.mono fun s hs => .inr hs)
  have p3 : PW h3 (putB col h1 b' (2, 2)) w m := ⟨t, ads, (T.kb k1).otherP (S := fun k => k = 2) (by decide) E3 f3, W3⟩
  have hrw : rebN (m.mks.length - f) m f = rebuildW m := by unfold rebuildW; rw [hft]
  refine vSomeMk ⟨_, _, _, hc3, ⟨by omega, by omega, by omega⟩, ?_⟩
  have e28 : Int.toNat (mn : Int) - Int.toNat (f : Int) = m.mks.length - f := by rw [hml]; rfl
  rw [e28]
  refine ⟨m.mks.length - f + 1, ?_⟩
  have key : ∀ k j (mj : WM) hj cj, j + k = m.mks.length - f -> PW hj cj w mj -> GoodT mj.ns -> mj.op.length = m.op.length + j -> mj.ns.length = m.ns.length + j -> mj.mks.length = m.mks.length -> MarksW mj.mks -> rebN k mj (f + j) = rebuildW m -> ExtP PS h col hj cj ->
      cell hj (w.add 2) = some (.slice b' mn c') ->
      Sx.place_World_Rebuild.n5_L (fun h => K (.tuple ⟨[]⟩) h) (fun h => K (.tuple ⟨[]⟩) h) (fun h => K (.tuple ⟨[]⟩) h) (k + 1) (some w) (f : Int) ((m.mks.length - f : Nat) : Int) (j : Int) hj := by
    intro k
    induction k with
    | zero =>
      intro j mj hj cj hjk pj Gj lo ln lm hmj hr Ej hcj
      refine splF (by omega) ?_
      have hr : mj = rebuildW m := hr
      exact hk hj cj (by rw [<- hr]; exact pj) Ej
    | succ k ih =>
      intro j mj hj cj hjk pj Gj lo ln lm hmj hr Ej hcj
      have hfj : f + j < mj.mks.length := by omega
      have ej : ((f : Int) + (j : Int)) = ((f + j : Nat) : Int) := rfl
      obtain ⟨tj, adsj, Tj, Wj⟩ := pj.ex
      obtain ⟨obj, ocj, mbj, mnj, mcj, vj, oj, omj⟩ := Wj.ex
      have ec : some (Value.slice mbj mnj mcj) = some (.slice b' mn c') := (vj.cell 2 rfl).symm.trans hcj
      cases ec
      obtain ⟨xsj, hej, hccj, _⟩ := omj.parts
      obtain ⟨a, b2, n2, c2, eb, m0, m1, m2, mR⟩ := markPart hej hccj hfj
      subst eb
      have hw := hmj mj.mks[f + j] (List.getElem_mem hfj)
      have hi2 := mR.inv
      have hn2 := hi2.1.len
      refine splT (by omega) (vSomeMk ⟨_, _, _, hcj, ?_⟩)
      rw [ej]
      refine ⟨rng64 (by omega) (by omega), ⟨by omega, by omega⟩, vSomeMk ?_⟩
      rw [Int.toNat_natCast]
      refine ⟨_, m1, _, _, _, m2, ?_⟩
      refine insert_callsM (L.ext Ej) pj Gj (by omega) (by omega) (by omega) hi2.1 hi2.2.1 (by omega) hw.2.2 ⟨by decide, by decide⟩ ⟨by decide, by decide⟩ hw.1 fun h5 c5 p5 E5 m5 => vIntMk ?_
      obtain ⟨t5, ads5, T5, W5⟩ := p5.ex
      have hc5 := m5 _ hcj
      refine setMarkId_k W5 p5.fresh hc5 (i := f + j) hfj (rng64 (by omega) (by omega)) fun h6 W6 E6 f6 hc6 => ⟨rng64 (by omega) (by omega), ?_⟩
      have hg : mj.mks.getD (f + j) noMark = mj.mks[f + j] := getD_get hfj
      have hr : rebN k { insertM mj 0 (mj.mks.getD (f + j) noMark).2.1 (mj.mks.getD (f + j) noMark).2.2 with mks := mj.mks.set (f + j) ((mj.ns.length : Int), (mj.mks.getD (f + j) noMark).2) } (f + j + 1) = rebuildW m := hr
      rw [hg] at hr
      have := ih (j + 1) { insertM mj 0 mj.mks[f + j].2.1 mj.mks[f + j].2.2 with mks := mj.mks.set (f + j) ((mj.ns.length : Int), mj.mks[f + j].2) } h6 c5 (by omega) ⟨t5, ads5, T5.otherP (S := fun k => k = 2) (by decide) E6 f6, W6⟩
        (goodInsertR Gj) (by show (mj.op ++ [_]).length = _; rw [List.length_append]; show mj.op.length + 1 = _; omega) (by rw [insert_lenR Gj]; omega) (by show (mj.mks.set _ _).length = _; rw [List.length_set]; exact lm) (hmj.set hfj _) hr ((Ej.trans E5).trans (E6.mono fun s hs => .inr hs)) hc6
      exact this
  exact key (m.mks.length - f) 0 m h3 _ (by omega) p3 G rfl rfl rfl hm hrw E03 hc3
theorem deleteO_calls {base i : Nat} {l : List OpenP} (o : OwnA elOpen Non h base 60 b n c l) (hi : i < n) (hk : ∀ h', OwnA elOpen Non h' base 60 b (n - 1) c (l.eraseIdx i) -> Grow h h' b -> K (.slice b (n - 1) c) h') :
    HCalls Tryz.prog 126 ⟨[.slice b n c, .int .i64 (i : Int), .int .i64 ((i + 1 : Nat) : Int)]⟩ h K := by
  have hcap := o.own.cap
  refine Sx.slices_Delete_apiOpen.ok _ _ _ _ _ _ _ ⟨⟨by omega, by omega, by omega, by omega⟩, splF (by omega) ⟨⟨by omega, by omega, by omega⟩, ⟨by omega, by omega, by omega⟩, ?_⟩⟩
  have e0 : (if c = Int.toNat (0 : Int) then b else Option.map (fun q => q.add (Int.toNat (0 : Int) * 4)) b) = b := by
    split
    · rfl
    · cases b with
      | none => rfl
      | some q => rfl
  rw [e0]
  exact delRow_k apdOpen (by kernel_rfl) o (fun k hk => hk.elim) hi (K := fun sb sn sc h => K (.slice sb sn sc) h) fun h' o' g' _ => hk h' o' g'
theorem drop_callsW (p : PW h col w m) {id : Int} (hl : m.op.length < 1000000) (hk : ∀ h' col', PW h' col' w (dropW m id) -> ExtP PS h col h' col' -> (0 < idxQ m.op (fun x => decide (x.1 = id)) -> ∃ b c, cell h' (w.add 1) = some (.slice b (dropO m.op id).length c) /\ (dropO m.op id).length + 1 <= c) -> K (.tuple ⟨[]⟩) h') :
    HCalls Tryz.prog 114 ⟨[.pointer (some w), .int .i64 id]⟩ h K := by
  obtain ⟨t, ads, T, W⟩ := p.ex
  obtain ⟨ob, oc, mb, mn, mc, v, o, om⟩ := W.ex
  refine Sx.place_World_Drop.ok _ _ _ _ (newx_var fun a1 h1 v1 k1 e1 s1 => vSomeMk ⟨_, _, _, (v.kb k1).cell 1 rfl, ?_⟩)
  refine indexFuncOpen_calls (p := fun x => decide (x.1 = id)) (o.kb k1).row (fun x h2 next hx k2 hR hn => ?_) fun h2 k2 => vIntMk ?_
  · have e : CallV Tryz.prog 4 (.func (.func 125) ⟨[]⟩ ⟨[.pointer (some a1)]⟩) ⟨[.agg ⟨[.int .i64 x.1, .int .u8 x.2.1, S x.2.2.1, .int .u8 x.2.2.2]⟩]⟩ h2 next =
        HCalls Tryz.prog 125 ⟨[.agg ⟨[.int .i64 x.1, .int .u8 x.2.1, S x.2.2.1, .int .u8 x.2.2.2]⟩, .pointer (some a1)]⟩ h2 fun v h' => vBool v fun b => cond b (next (.bool true) h') (next (.bool false) h') := by kernel_rfl
    rw [e]
    refine Sx.place_World_Drop_1.ok _ _ _ _ _ _ _ (newx_var fun a8 h8 v8 k8 e8 _ => ⟨_, v8.cell 0 rfl, _, ((v1.kb k2).kb k8).cell0 rfl, ?_⟩)
    have := hn h8 k8
    refine spl (fun e => ?_) fun e => ?_
    · rw [decide_eq_true e] at this; exact this
    · rw [decide_eq_false e] at this; exact this
  · have k02 := k1.trans k2
    have hlt := idxQ_lt (l := m.op) (p := fun x => decide (x.1 = id))
    refine spl (fun hp => condT ?_) fun hp => condF ?_
    · obtain ⟨k, ek⟩ := Int.eq_ofNat_of_zero_le (Int.le_of_lt hp)
      have hkl : k < m.op.length := by have := hlt.1; rw [ek] at this; exact Int.ofNat_lt.1 this
      rw [ek]
      obtain ⟨xs, he, hc, _⟩ := (o.kb k02).parts
      refine vSomeMk ⟨_, _, _, (v.kb k02).cell 1 rfl, cloneO_calls he hc rfl o.cap.1 o.nil (by omega) fun b' c' h3 o3 k3 => vSliceMk ⟨rng64 (by show _ <= (k : Int) + 1; omega) (by show (k : Int) + 1 <= _; omega), ?_⟩⟩
      have e1 : ((k : Int) + (1 : Int)) = ((k + 1 : Nat) : Int) := rfl
      rw [e1]
      refine deleteO_calls o3 hkl fun h4 o4 g4 => vSliceMk (vSomeMk (setOpen_k (W.kb k02) (p.fresh.kb k02) (g4.kb0 k3 o3.lo) o4 fun h5 W5 E5 f5 c5 => ?_))
      have hd : dropO m.op id = m.op.eraseIdx k := by unfold dropO; rw [if_pos hp, ek]; rfl
      refine hk h5 _ ⟨t, ads, (T.kb k02).otherP (S := fun k => k = 2) (by decide) E5 f5, ?_⟩ ((ExtP.kb k02).trans (E5.mono fun s hs => .inr hs)) fun _ => ?_
      rotate_left
      · have hcap := o3.own.cap
        have hl5 : (dropO m.op id).length = m.op.length - 1 := by rw [hd, List.length_eraseIdx, if_pos hkl]
        rw [hl5]
        exact ⟨_, _, c5, by omega⟩
      show WorldW _ _ _ _ _ _ (dropO m.op id) _ _ _
      rw [hd]; exact W5
    · have hd : dropO m.op id = m.op := by unfold dropO; rw [if_neg hp]
      refine hk h2 col ?_ (.kb k02) fun h => absurd h hp
      have p2 := p.kb k02
      have e2 : dropW m id = m := by unfold dropW; rw [hd]
      rw [e2]; exact p2
end
end Go.Proofs
namespace Go.Proofs
open Go Go.Sh
set_option linter.unusedVariables false
set_option maxRecDepth 100000
structure RawN where
  x : NodeM
  ab : Option Addr
  an : Nat
  ac : Nat
  kb : Option Addr
  kn : Nat
  kc : Nat
def rawC (r : RawN) : List Value := nodeC r.x r.ab r.an r.ac r.kb r.kn r.kc
def elRaw : El RawN where
  sz := 8
  R := fun _ _ r cs => cs = rawC r
  len := fun _ _ _ _ h => by rw [h]; rfl
  one := fun _ _ _ _ h v hv => by
    rw [h] at hv
    simp only [rawC, nodeC, List.mem_cons, List.not_mem_nil, or_false] at hv
    rcases hv with rfl | rfl | rfl | rfl | rfl | rfl | rfl | rfl <;> rfl
  keep := fun _ _ _ _ _ _ h _ _ => h
  pos := by decide
theorem flatRaw : Flat elRaw := fun _ _ _ _ _ _ h => h
theorem apdRaw : Apd Tryz.prog elRaw 106 105 120 := apd_of (sz := 8) (by kernel_rfl) rfl
structure RawAt (h : H) (col : Col) (s i : Nat) (r : RawN) : Prop where
  ra : Row elAttr (Free col h) h r.ab r.an r.ac r.x.attrs
  az : r.ab = none -> r.ac = 0
  ok : OwnI h r.kb r.kn r.kc r.x.kids
  hkc : ∀ q, r.kb = some q -> col q.block = some (s, 2 * i + 3)
  rk : Rng .u8 r.x.kind
  rs : Rng .u8 r.x.space
  rp : Rng .i64 r.x.parent
  fa : r.x.attrs.length <= 1000000
  fn : r.x.name.length <= maxLen
  ft : r.x.text.length <= maxLen
structure RefC (h : H) (col : Col) (s : Nat) (t : Addr) (lb : Option Addr) (lc : Nat) (rs : List RawN) : Prop where
  v : Var h t 108 [.slice lb rs.length lc]
  o : OwnF elRaw h 0 105 lb rs.length lc rs
  hl : ∀ q, lb = some q -> col q.block = some (s, 1)
  nodes : ∀ (i : Nat) r, rs[i]? = some r -> RawAt h col s i r
  colt : col t.block = some (s, 0)
  fresh : ∀ k, h.size <= k -> col k = none
  few : rs.length <= 1000000
def RefP (h : H) (col : Col) (s : Nat) (t : Addr) (ns : List NodeM) : Prop := ∃ lb lc rs, RefC h col s t lb lc rs /\ rs.map (·.x) = ns
section
variable {h h' : H} {K : Value -> H -> Prop} {col col' : Col} {s i p : Nat} {t a : Addr} {ns : List NodeM} {x y : NodeM} {lb : Option Addr} {lc : Nat} {rs : List RawN} {r : RawN}
theorem RawAt.keep (N : RawAt h col s i r) {B : Nat -> Prop} (k : Keep B h h') (hc : ∀ k, k < h.size -> col' k = col k) (hB : ∀ k, k < h.size -> (col k = none ∨ col k = some (s, 2 * i + 3)) -> B k) : RawAt h' col' s i r :=
  ⟨N.ra.keep (k.less fun q hq => hB q hq.1.2 (.inl hq.1.1)) (fun q hq hs => ⟨by rw [hc q hs]; exact hq.1, Nat.lt_of_lt_of_le hs k.1⟩), N.az, N.ok.keep k fun q e => hB _ (N.ok.hi q e) (.inr (N.hkc q e)), fun q e => by rw [hc _ (N.ok.hi q e)]; exact N.hkc q e, N.rk, N.rs, N.rp, N.fa, N.fn, N.ft⟩
theorem RefC.keep (T : RefC h col s t lb lc rs) {B : Nat -> Prop} (k : Keep B h h') (hc : ∀ k, k < h.size -> col' k = col k) (hf : ∀ k, h'.size <= k -> col' k = none) (hB : ∀ k, k < h.size -> (col k = none ∨ ∃ p, col k = some (s, p)) -> B k) : RefC h' col' s t lb lc rs := by
  refine ⟨T.v.keep k (hB _ T.v.lt (.inr ⟨_, T.colt⟩)), ?_, fun q e => by rw [hc _ (T.o.hi q e)]; exact T.hl q e, fun i r hr => (T.nodes i r hr).keep k hc fun q hq hor => hB q hq (by rcases hor with h | h; exact .inl h; exact .inr ⟨_, h⟩), by rw [hc _ T.v.lt]; exact T.colt, hf, T.few⟩
  refine ⟨?_, T.o.lo, fun q e => Nat.lt_of_lt_of_le (T.o.hi q e) k.1, T.o.nil⟩
  obtain ⟨xs, h1, h2⟩ := T.o.own.own
  exact ⟨T.o.own.len, xs, h1.keep k fun g e _ hg => hB _ hg (.inr ⟨_, T.hl _ e⟩), Enc.flat flatRaw h2⟩
theorem RefC.kw (T : RefC h col s t lb lc rs) (k : KW h h') : RefC h' col s t lb lc rs := T.keep k (fun _ _ => rfl) (fun k' hk => T.fresh k' (Nat.le_trans k.1 hk)) fun k hk _ => hk
theorem RefC.kb (T : RefC h col s t lb lc rs) (k : KB h h') : RefC h' col s t lb lc rs := T.kw (KB.w k)
theorem RefC.other {s' : Nat} (T : RefC h col s t lb lc rs) (hs : s ≠ s') (e : Ext s' h col h' col') (hf : ∀ k, h'.size <= k -> col' k = none) : RefC h' col' s t lb lc rs :=
  T.keep e.sk.w e.cl hf fun k hk hor => ⟨hk, fun p e => by
    rcases hor with h | ⟨q, h⟩
    · rw [h] at e; cases e
    · rw [h] at e; cases e; exact hs rfl⟩
theorem RefP.kb (T : RefP h col s t ns) (k : KB h h') : RefP h' col s t ns := by
  obtain ⟨lb, lc, rs, C, e⟩ := T
  exact ⟨lb, lc, rs, C.kb k, e⟩
theorem RefP.other {s' : Nat} (T : RefP h col s t ns) (hs : s ≠ s') (e : Ext s' h col h' col') (hf : ∀ k, h'.size <= k -> col' k = none) : RefP h' col' s t ns := by
  obtain ⟨lb, lc, rs, C, e2⟩ := T
  exact ⟨lb, lc, rs, C.other hs e hf, e2⟩
theorem RefP.few (T : RefP h col s t ns) : ns.length <= 1000000 := by
  obtain ⟨lb, lc, rs, C, rfl⟩ := T
  rw [List.length_map]; exact C.few
theorem RefP.fresh (T : RefP h col s t ns) : ∀ k, h.size <= k -> col k = none := by
  obtain ⟨lb, lc, rs, C, rfl⟩ := T
  exact C.fresh
theorem RefC.upd (T : RefC h col s t lb lc rs) {r' : RawN} (o : OwnF elRaw h' 0 105 lb rs.length lc (rs.set i r')) (k : SK (fun k => k < h.size /\ ∀ p, col k = some (s, p) -> p ≠ 1 /\ p ≠ 2 * i + 3) h h') (hc : ∀ k, k < h.size -> col' k = col k) (hf : ∀ k, h'.size <= k -> col' k = none) (hn : RawAt h' col' s i r') :
    RefC h' col' s t lb lc (rs.set i r') := by
  have kp := k.w
  refine ⟨by rw [List.length_set]; exact T.v.keep kp ⟨T.v.lt, fun p e => by rw [T.colt] at e; cases e; omega⟩, by rw [List.length_set]; exact o, fun q e => by rw [hc _ (T.o.hi q e)]; exact T.hl q e, fun j r hr => ?_, by rw [hc _ T.v.lt]; exact T.colt, hf, by rw [List.length_set]; exact T.few⟩
  by_cases hij : i = j
  · subst hij
    by_cases hlt : i < rs.length
    · rw [List.getElem?_set_self hlt] at hr; cases hr
      exact hn
    · have := getI hr
      rw [List.length_set] at this
      omega
  · rw [List.getElem?_set_ne hij] at hr
    exact (T.nodes j r hr).keep kp hc fun q hq hor => ⟨hq, fun p e => by
      rcases hor with h | h
      · rw [h] at e; cases e
      · rw [h] at e; cases e; omega⟩
theorem map_get (e : rs.map (·.x) = ns) (hx : ns[i]? = some x) : ∃ r, rs[i]? = some r /\ r.x = x := by
  subst e
  rw [List.getElem?_map] at hx
  cases hr : rs[i]? with
  | none => rw [hr] at hx; cases hx
  | some r => rw [hr] at hx; cases hx; exact ⟨r, rfl, rfl⟩
theorem rf_el (C : RefC h col s t lb lc rs) (hr : rs[i]? = some r) {Q : Addr -> Prop} (hq : ∀ a, (∀ (j : Nat) v, (rawC r)[j]? = some v -> cell h ((a.add (Int.toNat (i : Int) * 8)).add j) = some v) -> Q a) :
    (0 <= (i : Int) /\ (i : Int) < (rs.length : Int)) /\ vSome lb Q := by
  have hi := getI hr
  have hg : rs[i]'hi = r := Option.some.inj ((List.getElem?_eq_getElem hi).symm.trans hr)
  exact (C.o.rowAt flatRaw (Keep.refl (fun _ => True) h) (fun _ _ => trivial)).idxN hi rfl fun a hA => hq a fun j v hj => by
    obtain ⟨_, cs, hR, hc⟩ := hA
    have hR : cs = rawC rs[i] := hR
    rw [hg] at hR
    exact hc j v (by rw [hR]; exact hj)
theorem rf_rd (C : RefC h col s t lb lc rs) (hr : rs[i]? = some r) {Q : Addr -> Prop} (hq : ∀ a, (∀ (j : Nat) v, (rawC r)[j]? = some v -> cell h ((a.add (Int.toNat (i : Int) * 8)).add j) = some v) -> Q a) :
    vSome (some t) fun a => ∃ b n c, cell h (a.add 0) = some (.slice b n c) /\ ((0 <= (i : Int) /\ (i : Int) < (n : Int)) /\ vSome b Q) := vSomeMk ⟨_, _, _, C.v.cell 0 rfl, rf_el C hr hq⟩
theorem there_r (T : RefP h col s t ns) {id : Int} (hk : K (.bool (decide (0 <= id /\ id < ns.length))) h) : HCalls Tryz.prog 75 ⟨[.pointer (some t), .int .i64 id]⟩ h K := by
  obtain ⟨lb, lc, rs, C, rfl⟩ := T
  rw [List.length_map] at hk
  refine Sx.r10_Tree_there.ok _ _ _ _ (spl (fun e => vSomeMk ⟨_, _, _, C.v.cell 0 rfl, spl (fun e2 => ?_) fun e2 => ?_⟩) fun e => ?_)
  · rw [decide_eq_true ⟨e, e2⟩] at hk; exact hk
  · rw [decide_eq_false (fun h => e2 h.2)] at hk; exact hk
  · rw [decide_eq_false (fun h => e h.1)] at hk; exact hk
theorem holds_r (T : RefP h col s t ns) {id : Int} (hk : K (.bool (holdB ns id)) h) : HCalls Tryz.prog 74 ⟨[.pointer (some t), .int .i64 id]⟩ h K := by
  refine Sx.r10_Tree_holds.ok _ _ _ _ (there_r T (vBool_mk (condB (fun e => ?_) fun e => ?_)))
  · have e := of_decide_eq_true e
    obtain ⟨i, rfl⟩ := Int.eq_ofNat_of_zero_le e.1
    have hx : ns[i]? = some (ns[i]'(by omega)) := List.getElem?_eq_getElem (by omega)
    have eh : holdB ns (i : Int) = decide ((i : Int) = 0 ∨ (ns[i]'(by omega)).kind = 1) := by
      unfold holdB
      rw [decide_eq_true e, Int.toNat_natCast, hx]
      rfl
    have hk : K (.bool (holdB ns (i : Int))) h := hk
    rw [eh] at hk
    obtain ⟨lb, lc, rs, C, em⟩ := T
    obtain ⟨r, hr, ex⟩ := map_get em hx
    refine spl (fun e0 => ?_) fun e0 => rf_rd C hr fun a hc => ⟨_, hc 0 _ rfl, spl (fun e1 => ?_) fun e1 => ?_⟩
    · rw [decide_eq_true (Or.inl e0)] at hk; exact hk
    · rw [decide_eq_true (Or.inr (by rw [<- ex]; exact e1))] at hk; exact hk
    · rw [decide_eq_false (fun hh => hh.elim e0 fun h2 => e1 (by rw [ex]; exact h2))] at hk; exact hk
  · have e := of_decide_eq_false e
    unfold holdB at hk
    rw [decide_eq_false e] at hk
    exact hk
theorem place_r (T : RefP h col s t ns) (hy : ns[p]? = some y) {kid : Int} (hk : K (.int .i64 (plcP y.kids kid)) h) : HCalls Tryz.prog 77 ⟨[.pointer (some t), .int .i64 (p : Int), .int .i64 kid]⟩ h K := by
  obtain ⟨lb, lc, rs, C, em⟩ := T
  obtain ⟨r, hr, rfl⟩ := map_get em hy
  have N := C.nodes p r hr
  have hl := N.ok.len
  have hm := N.ok.own.cap
  have hm2 := N.ok.own.max
  simp only [maxLen] at hm2
  refine Sx.r10_Tree_place.ok _ _ _ _ _ (rf_rd C hr fun a hc => ⟨_, _, _, hc 7 _ rfl, spl (fun e => ?_) fun e => ⟨r.kn + 1, ?_⟩⟩)
  · unfold plcP at hk
    rw [if_pos e, hl] at hk
    exact hk
  · unfold plcP idxP at hk
    rw [if_neg e] at hk
    have R := N.ok.row (A := fun _ => True) fun _ _ => trivial
    have key : ∀ N i, i + N = r.kn -> kid ∉ r.x.kids.take i -> Sx.r10_Tree_place.n8_L (fun h => Sx.r10_Tree_place.n5 (fun y6 h => K (.int .i64 y6) h) (fun y6 h => K (.int .i64 y6) h) h) (fun h => Sx.r10_Tree_place.n5 (fun y6 h => K (.int .i64 y6) h) (fun y6 h => K (.int .i64 y6) h) h) (fun y6 h => K (.int .i64 y6) h) (N + 1) kid r.kb r.kn r.kc (i : Int) h := by
      intro N
      induction N with
      | zero =>
        intro i hi hn
        unfold Sx.r10_Tree_place.n8_L
        refine splF (by omega) ?_
        rw [List.take_of_length_le (by omega)] at hn
        rw [if_neg hn] at hk
        exact hk
      | succ N ih =>
        intro i hi hn
        have hil : i < r.x.kids.length := by omega
        unfold Sx.r10_Tree_place.n8_L
        refine splT (by omega) (R.idxN hil rfl fun q hA => ldI hA fun _ => spl (fun e2 => ?_) fun e2 => ⟨rngI (by omega) (by omega), ih (i + 1) (by omega) ?_⟩)
        · have hmem : kid ∈ r.x.kids := by rw [<- e2]; exact List.getElem_mem hil
          rw [if_pos hmem, idxN_at hn (by rw [<- e2]; exact List.getElem?_eq_getElem hil)] at hk
          exact hk
        · rw [List.take_add_one, List.getElem?_eq_getElem hil]
          intro hm
          rcases List.mem_append.1 hm with hm | hm
          · exact hn hm
          · simp at hm
            exact e2 hm.symm
    exact key r.kn 0 (by omega) (by simp)
theorem within_r (T : RefP h col s t ns) (G : GoodT ns) {id of : Int} (hid : id < ns.length) (hk : K (.bool (withinP ns id of)) h) : HCalls Tryz.prog 76 ⟨[.pointer (some t), .int .i64 id, .int .i64 of]⟩ h K := by
  obtain ⟨M, hM⟩ := G.end_ex id
  obtain ⟨lb, lc, rs, C, em⟩ := T
  have hT : ∀ {b : Bool}, (InC ns id of ↔ b = true) -> withinP ns id of = b := fun {b} hb => by
    unfold withinP
    cases b with
    | true => exact @decide_eq_true _ (Classical.propDecidable _) (hb.2 rfl)
    | false => exact @decide_eq_false _ (Classical.propDecidable _) fun h => by have := hb.1 h; cases this
  refine Sx.r10_Tree_within.ok _ _ _ _ _ ⟨M + 1, ?_⟩
  have key : ∀ N (i : Int), i < ns.length -> endP ns N i -> (InC ns id of ↔ InC ns i of) -> Sx.r10_Tree_within.n5_L (fun h => Sx.r10_Tree_within.n3 (fun y6 h => K (.bool y6) h) (fun y6 h => K (.bool y6) h) h) (fun h => Sx.r10_Tree_within.n3 (fun y6 h => K (.bool y6) h) (fun y6 h => K (.bool y6) h) h) (fun y6 h => K (.bool y6) h) (N + 1) (some t) i of h := by
    intro N
    induction N with
    | zero =>
      intro i hi he hiff
      unfold Sx.r10_Tree_within.n5_L
      have he : i < 0 := he
      refine splF (by omega) ?_
      rw [hT (b := false) (hiff.trans ⟨fun h => absurd h (inC_neg he), fun h => by cases h⟩)] at hk
      exact hk
    | succ N ih =>
      intro i hi he hiff
      unfold Sx.r10_Tree_within.n5_L
      refine spl (fun h0 => ?_) fun h0 => ?_
      · obtain ⟨j, rfl⟩ := Int.eq_ofNat_of_zero_le (show 0 <= i by omega)
        have hj : ns[j]? = some (ns[j]'(by omega)) := List.getElem?_eq_getElem (by omega)
        obtain ⟨r, hr, ex⟩ := map_get em hj
        refine spl (fun e => ?_) fun e => rf_rd C hr fun a hc => ⟨_, hc 6 _ rfl, ih r.x.parent ?_ ?_ ?_⟩
        · rw [hT (b := true) (hiff.trans ⟨fun _ => rfl, fun _ => inC_step.2 (.inl e.symm)⟩)] at hk
          exact hk
        · rw [ex]
          rcases G.par j _ hj with h1 | h1 <;> omega
        · rcases he with he | he
          · have : ((Int.ofNat j : Int)) < 0 := he
            omega
          · have he : endP ns N (parI ns (j : Int)) := he
            rw [parI_some hj] at he
            rw [ex]
            exact he
        · refine hiff.trans ((inC_step (j := j)).trans ⟨fun h => ?_, fun h => Or.inr ?_⟩)
          · rcases h with h | h
            · exact absurd h.symm e
            · rw [parI_some hj] at h; rw [ex]; exact h
          · rw [parI_some hj, <- ex]; exact h
      · rw [hT (b := false) (hiff.trans ⟨fun h => absurd h (inC_neg (by omega)), fun h => by cases h⟩)] at hk
        exact hk
  exact key M id hid hM Iff.rfl
theorem parent_r (T : RefP h col s t ns) {id : Int} (hk : K (.int .i64 (parI ns id)) h) (hneg : id < 0 -> parI ns id = -1) : HCalls Tryz.prog 72 ⟨[.pointer (some t), .int .i64 id]⟩ h K := by
  refine Sx.r10_Tree_Parent.ok _ _ _ _ (there_r T (vBool_mk (condB (fun e => ?_) fun e => ?_)))
  · have e := of_decide_eq_true e
    obtain ⟨i, rfl⟩ := Int.eq_ofNat_of_zero_le e.1
    have hx : ns[i]? = some (ns[i]'(by omega)) := List.getElem?_eq_getElem (by omega)
    obtain ⟨lb, lc, rs, C, em⟩ := T
    obtain ⟨r, hr, ex⟩ := map_get em hx
    refine rf_rd C hr fun a hc => ⟨_, hc 6 _ rfl, ?_⟩
    have hk : K (.int .i64 (parI ns (i : Int))) h := hk
    rw [parI_some hx, <- ex] at hk
    exact hk
  · have e := of_decide_eq_false e
    by_cases h0 : id < 0
    · rw [hneg h0] at hk; exact hk
    · have : parI ns id = -1 := by
        unfold parI
        rw [List.getElem?_eq_none (by omega)]
        rfl
      rw [this] at hk
      exact hk
end
end Go.Proofs
namespace Go.Proofs
open Go Go.Sh
set_option linter.unusedVariables false
set_option maxRecDepth 100000
theorem ints_enc : ∀ {A : Nat -> Prop} {h : H} {l : List Int} {xs : List Value}, Enc (elInt .i64) A h l xs -> xs = l.map (Value.int .i64) /\ ∀ x ∈ l, Rng .i64 x
  | A, h, [], xs, e => by
    have e : xs = [] := e
    subst e; exact ⟨rfl, fun x hx => by cases hx⟩
  | A, h, x :: l, xs, e => by
    obtain ⟨c1, c2, rfl, ⟨rfl, hr⟩, e2⟩ := e
    obtain ⟨rfl, h2⟩ := ints_enc e2
    exact ⟨rfl, fun y hy => by
      rcases List.mem_cons.1 hy with rfl | hy
      · exact hr
      · exact h2 y hy⟩
theorem ownI_of {h : H} {base n c : Nat} {b : Option Addr} {l : List Int} (o : OwnF (elInt .i64) h base 3 b n c l) : OwnI h b n c l := by
  obtain ⟨xs, h1, h2⟩ := o.own.own
  obtain ⟨rfl, hr⟩ := ints_enc h2
  exact ⟨⟨h1.len, h1.cap, h1.max, h1.is.imp id fun ⟨g, cur, e1, _, e3⟩ => ⟨g, cur, e1, Nat.zero_le _, e3⟩⟩, hr, o.nil, o.hi⟩
theorem app_new {α : Type} {E : El α} {t ty e by' : Nat} (ap : Apd Tryz.prog E t e by') {h0 h : H} {b b2 : Option Addr} {n c m k : Nat} {l l2 : List α} {K : Value -> H -> Prop} (kb : KB h0 h) (o : OwnF E h h0.size e b n c l) (r : Row E (Bel h0.size) h b2 m k l2) (hn : n + m <= 2000000) (hb : by' <= 1000)
    (hk : ∀ b' c' h', OwnF E h' h0.size e b' (n + m) c' (l ++ l2) -> KB h0 h' -> K (.slice b' (n + m) c') h') : SemH Tryz.prog (Builtin.append_ #[t, t] ty ⟨[.slice b n c, .slice b2 m k]⟩) h K := by
  have k1 := kb.1
  refine OwnF.append ap o (r.keep (Keep.refl _ _) fun q hq hs => ⟨hs, fun x hx => ?_⟩) (by simp only [maxLen]; omega) ?_ k1 fun b' c' h' o' g' => hk b' c' h' o' (g'.kb0 kb fun q e => o.lo q e)
  · have := o.lo x hx
    have hq : q < h0.size := hq
    omega
  · have : (n + m) * by' <= 2000000 * 1000 := Nat.mul_le_mul hn hb
    omega
theorem ownRaw_keep {h h' : H} {B : Nat -> Prop} {b : Option Addr} {n c : Nat} {rs : List RawN} (o : OwnF elRaw h 0 105 b n c rs) (k : Keep B h h') (hB : ∀ q, b = some q -> B q.block) : OwnF elRaw h' 0 105 b n c rs := by
  refine ⟨?_, o.lo, fun q e => Nat.lt_of_lt_of_le (o.hi q e) k.1, o.nil⟩
  obtain ⟨xs, h1, h2⟩ := o.own.own
  exact ⟨o.own.len, xs, h1.keep k fun g e _ hg => hB _ e, Enc.flat flatRaw h2⟩
section
variable {h h' : H} {K : Value -> H -> Prop} {col col' : Col} {s i p : Nat} {t a : Addr} {ns : List NodeM} {x y : NodeM} {lb : Option Addr} {lc : Nat} {rs : List RawN} {r : RawN}
theorem ref_field (C : RefC h col s t lb lc rs) (hr : rs[i]? = some r) {f : Nat} {v : Value} {r' : RawN} (hf : f < 8) (hv : oneC v = true) (hw : (rawC r).set f v = rawC r')
    (same : r'.ab = r.ab /\ r'.an = r.an /\ r'.ac = r.ac /\ r'.kb = r.kb /\ r'.kn = r.kn /\ r'.kc = r.kc /\ r'.x.attrs = r.x.attrs /\ r'.x.kids = r.x.kids)
    (good : Rng .u8 r'.x.kind /\ Rng .u8 r'.x.space /\ Rng .i64 r'.x.parent /\ r'.x.name.length <= maxLen /\ r'.x.text.length <= maxLen) {Q : H -> Prop}
    (hk : ∀ h', RefC h' col s t lb lc (rs.set i r') -> Ext s h col h' col -> SK (fun k => col k ≠ some (s, 1)) h h' -> Q h') :
    (0 <= (i : Int) /\ (i : Int) < (rs.length : Int)) /\ vSome lb fun a => stL ((a.add (Int.toNat (i : Int) * 8)).add f) [v] 0 h Q := by
  have N := C.nodes i r hr
  refine ownF_setF flatRaw C.o hr (z := 8) rfl hf hv (x' := r') (fun A h cs e => by have e : cs = rawC r := e; subst e; exact hw) fun a h2 ea o2 k2 s2 hb => ?_
  have hla : col a.block = some (s, 1) := C.hl a ea
  have sk : SK (fun k => col k ≠ some (s, 1)) h h2 := k2.less fun k hk e => hk (by rw [e]; exact hla)
  refine hk h2 (C.upd o2 (k2.less fun k hk e => (hk.2 1 (by rw [e]; exact hla)).1 rfl) (fun _ _ => rfl) (fun k hk => C.fresh k (by omega)) ?_) ⟨k2.less fun k hk e => hk.2 1 (by rw [e]; exact hla), fun _ _ => rfl⟩ sk
  obtain ⟨x', ab, an, ac, kb, kn, kc⟩ := r'
  obtain ⟨rfl, rfl, rfl, rfl, rfl, rfl, e7, e8⟩ := same
  obtain ⟨g1, g2, g3, g4, g5⟩ := good
  refine ⟨?_, N.az, ?_, N.hkc, g1, g2, g3, ?_, g4, g5⟩
  · show Row elAttr (Free col h2) h2 r.ab r.an r.ac x'.attrs
    have e7 : x'.attrs = r.x.attrs := e7
    rw [e7]
    exact N.ra.keep (k2.w.less fun k hk e => by have h1 := hk.1.1; rw [e, hla] at h1; cases h1) fun k hk hs => ⟨hk.1, by omega⟩
  · show OwnI h2 r.kb r.kn r.kc x'.kids
    have e8 : x'.kids = r.x.kids := e8
    rw [e8]
    exact N.ok.keep k2.w fun q e e2 => by
      have h1 := N.hkc q e
      rw [e2, hla] at h1
      have := (Prod.mk.inj (Option.some.inj h1)).2
      omega
  · have e7 : x'.attrs = r.x.attrs := e7
    show x'.attrs.length <= _
    rw [e7]; exact N.fa
theorem map_set (em : rs.map (·.x) = ns) {r' : RawN} : (rs.set i r').map (·.x) = ns.set i r'.x := by rw [List.map_set, em]
theorem ref_par (T : RefP h col s t ns) (hx : ns[i]? = some x) {q : Int} (hq : Rng .i64 q) {Q : H -> Prop}
    (hk : ∀ h', RefP h' col s t (ns.set i { x with parent := q }) -> Ext s h col h' col -> SK (fun k => col k ≠ some (s, 1)) h h' -> Q h') :
    vSome (some t) fun a => ∃ b n c, cell h (a.add 0) = some (.slice b n c) /\ ((0 <= (i : Int) /\ (i : Int) < (n : Int)) /\ vSome b fun a' => stL ((a'.add (Int.toNat (i : Int) * 8)).add 6) [.int .i64 q] 0 h Q) := by
  obtain ⟨lb, lc, rs, C, em⟩ := T
  obtain ⟨r, hr, rfl⟩ := map_get em hx
  have N := C.nodes i r hr
  exact vSomeMk ⟨_, _, _, C.v.cell 0 rfl, ref_field C hr (f := 6) (r' := { r with x := { r.x with parent := q } }) (by omega) rfl rfl ⟨rfl, rfl, rfl, rfl, rfl, rfl, rfl, rfl⟩ ⟨N.rk, N.rs, hq, N.fn, N.ft⟩ fun h' C' E' k' => hk h' ⟨lb, lc, _, C', map_set em⟩ E' k'⟩
theorem ref_kids (C : RefC h col s t lb lc rs) (hr : rs[i]? = some r) {h1 : H} (g : Grow h h1 r.kb) {b' : Option Addr} {n' c' : Nat} {l' : List Int} (o : OwnI h1 b' n' c' l') (nb : NewB h r.kb b') {Q : H -> Prop}
    (hk : ∀ h' col', RefC h' col' s t lb lc (rs.set i ⟨{ r.x with kids := l' }, r.ab, r.an, r.ac, b', n', c'⟩) -> Ext s h col h' col' -> SK (fun k => k < h1.size /\ col k ≠ some (s, 1)) h1 h' -> Q h') :
    (0 <= (i : Int) /\ (i : Int) < (rs.length : Int)) /\ vSome lb fun a => stL ((a.add (Int.toNat (i : Int) * 8)).add 7) [.slice b' n' c'] 0 h1 Q := by
  have N := C.nodes i r hr
  have hsz := g.size
  have hka : ∀ q, r.kb = some q -> ∀ q', lb = some q' -> q.block ≠ q'.block := fun q e q' e' e2 => by
    have h1 := N.hkc q e
    rw [e2, C.hl q' e'] at h1
    have := (Prod.mk.inj (Option.some.inj h1)).2
    omega
  have o1 : OwnF elRaw h1 0 105 lb rs.length lc rs := ownRaw_keep C.o g.keep.w fun q e => ⟨C.o.hi q e, fun q' e' => hka q' e' q e⟩
  refine ownF_setF flatRaw o1 hr (z := 8) rfl (show 7 < 8 by decide) rfl (x' := ⟨{ r.x with kids := l' }, r.ab, r.an, r.ac, b', n', c'⟩) (fun A h cs e => by have e : cs = rawC r := e; subst e; rfl) fun a h2 ea o2 k2 s2 hb => ?_
  have hla : col a.block = some (s, 1) := C.hl a ea
  have hal := C.o.hi a ea
  have hcol : ∀ k, k < h.size -> putB col h b' (s, 2 * i + 3) k = col k := fun k hk => putB_old hk
  have kk : ∀ k, k < h.size -> k ≠ a.block -> (∀ q, r.kb = some q -> q.block ≠ k) -> h2[k]? = h[k]? := fun k h1 h2' h3 => (k2.2 k h2').trans (g.old k h1 h3)
  have hfar : ∀ k, h2.size <= k -> putB col h b' (s, 2 * i + 3) k = none := fun k hk => by
    rw [putB_far (h' := h1) (fun q e => o.hi q e) (by omega)]; exact C.fresh k (by omega)
  refine hk h2 (putB col h b' (s, 2 * i + 3)) (C.upd o2 ⟨by omega, fun k hk => ?_⟩ hcol hfar ⟨?_, N.az, o.keep k2.w fun q e e2 => ?_, fun q e => ?_, N.rk, N.rs, N.rp, N.fa, N.fn, N.ft⟩) ⟨⟨by omega, fun k hk => ?_⟩, hcol⟩ (k2.less fun k hk e => hk.2 (by rw [e]; exact hla))
  · exact kk k hk.1 (fun e => (hk.2 _ (by rw [e]; exact hla)).1 rfl) fun q e e2 => (hk.2 _ (by rw [<- e2]; exact N.hkc q e)).2 rfl
  · refine N.ra.keep ⟨by omega, fun k hk o e hl => ?_⟩ fun k hk hs => ⟨by rw [hcol k hs]; exact hk.1, by omega⟩
    have hk : col k = none /\ k < h.size := hk.1
    rw [kk k hk.2 (fun e2 => by rw [e2, hla] at hk; cases hk.1) (fun q e2 e3 => by have := N.hkc q e2; rw [e3, hk.1] at this; cases this)]; exact e
  · rcases nb q e with h1 | h1
    · exact hka q h1 a ea e2
    · omega
  · refine putB_at e fun hlt => ?_
    rcases nb q e with h1 | h1
    · exact N.hkc q h1
    · omega
  · exact kk k hk.1 (fun e => hk.2 _ (by rw [e]; exact hla)) fun q e e2 => hk.2 _ (by rw [<- e2]; exact N.hkc q e)
end
end Go.Proofs
namespace Go.Proofs
open Go Go.Sh
set_option linter.unusedVariables false
set_option maxRecDepth 100000
theorem aggN {a b : Int} {c d : Bs} {e1 f1 : Option Addr} {e2 e3 f2 f3 : Nat} {k : Int -> Int -> Bs -> Option Addr -> Nat -> Nat -> Bs -> Option Addr -> Nat -> Nat -> Prop} (h : k a b c e1 e2 e3 d f1 f2 f3) :
    vAgg (.agg ⟨[.int .u8 a, .int .u8 b, S c, .slice e1 e2 e3, S d, .slice f1 f2 f3]⟩) fun l76 => uncons l76 fun e77 l78 => vInt .u8 e77 fun i79 => uncons l78 fun e80 l81 => vInt .u8 e80 fun i82 => uncons l81 fun e83 l84 => vStr e83 fun s85 => uncons l84 fun e86 l87 => vSlice e86 fun s88b s88n s88c => uncons l87 fun e89 l90 => vStr e89 fun s91 => uncons l90 fun e92 l93 => vSlice e92 fun s94b s94n s94c => unnil l93 (k i79 i82 s85 s88b s88n s88c s91 s94b s94n s94c) := h
section
variable {h h' : H} {K : Value -> H -> Prop} {col col' : Col} {s i p : Nat} {t a : Addr} {ns : List NodeM} {x y : NodeM} {lb : Option Addr} {lc : Nat} {rs : List RawN} {r : RawN}
theorem hcZ {q : Addr} {cs : List Value} (hc : ∀ (j : Nat) v, cs[j]? = some v -> cell h (q.add j) = some v) (j : Nat) {v : Value} (e : cs[j]? = some v) : cell h ((q.add 0).add j) = some v := by rw [add_zero']; exact hc j v e
theorem new_r (hf : ∀ k, h.size <= k -> col k = none) (hk : ∀ t h' col', RefP h' col' s t [rootM] -> Ext s h col h' col' -> K (.pointer (some t)) h') : HCalls Tryz.prog 23 ⟨[]⟩ h K := by
  refine Sx.r10_New.ok _ _ (newx_var fun a1 h1 v1 k1 e1 s1 => newx_var fun a2 h2 v2 k2 e2 s2 => ?_)
  have o2 : OwnF elRaw h2 0 105 (some a1) 1 1 [⟨rootM, none, 0, 0, none, 0, 0⟩] := (v1.kb k2).ownF1 fun _ => rfl
  refine hk a2 h2 (fun k => if k = h.size then some (s, 1) else if k = h.size + 1 then some (s, 0) else col k) ⟨some a1, 1, [⟨rootM, none, 0, 0, none, 0, 0⟩], ⟨v2, o2, fun q e => by cases e; rw [if_pos e1], fun i r hr => ?_, by rw [if_neg (by omega), if_pos (by omega)], fun k hk => ?_, by decide⟩, rfl⟩ ⟨SK.less (k1.trans k2) fun k hk => hk.1, fun k hk => ?_⟩
  · cases i with
    | succ i => simp at hr
    | zero =>
      simp at hr
      subst hr
      exact ⟨⟨rfl, Nat.le_refl _, Nat.zero_le _, fun i x hx => by simp [rootM] at hx⟩, fun _ => rfl, OwnI.none _, (fun q e => by cases e), ⟨by decide, by decide⟩, ⟨by decide, by decide⟩, ⟨by decide, by decide⟩, by decide, Nat.zero_le _, Nat.zero_le _⟩
  · show (if _ then _ else _) = _
    rw [if_neg (by omega), if_neg (by omega)]; exact hf k (by omega)
  · show (if _ then _ else _) = _
    rw [if_neg (by omega), if_neg (by omega)]
theorem bare_r {kd sp : Int} {nm tx : Bs} {ab kb : Option Addr} {an ac kn kc : Nat} {attrs : List AttrP} {A : Nat -> Prop} (r : Row elAttr A h ab an ac attrs) (han : an <= 1000000)
    (h1 : kd = 1 -> ∀ b' c' h', OwnF elAttr h' h.size 94 b' an c' attrs -> KB h h' -> K (.agg ⟨[.int .u8 kd, .int .u8 sp, S nm, .slice b' an c', S [], .slice none 0 0]⟩) h')
    (h2 : kd ≠ 1 -> ∀ h', KB h h' -> K (.agg ⟨[.int .u8 kd, .int .u8 0, S [], .slice none 0 0, S tx, .slice none 0 0]⟩) h') :
    HCalls Tryz.prog 73 ⟨[.agg ⟨[.int .u8 kd, .int .u8 sp, S nm, .slice ab an ac, S tx, .slice kb kn kc]⟩]⟩ h K := by
  refine Sx.r10_bare.ok _ _ _ _ _ _ _ _ _ _ _ _ (newx_var fun x1 g1 v1 k1 e1 s1 => newx_var fun x2 g2 v2 k2 e2 s2 => ?_)
  have v1' := v1.kb k2
  have k12 : KB h g2 := k1.trans k2
  have hs1 := k1.1
  have hs2 := k2.1
  refine ⟨_, v1'.cell 0 rfl, spl (fun e => ⟨_, _, _, v1'.cell 3 rfl, ?_⟩) fun e => ⟨_, v1'.cell 0 rfl, _, v1'.cell 4 rfl, stL_var0 v2 (Nat.le_refl 6) fun g3 v3 k3 s3 => ?_⟩⟩
  · have on : OwnF elAttr g2 g2.size 94 none 0 0 [] := OwnF.none _ _ _
    refine app_new apdAttr (KB.refl g2) on (r.bel.keep ((KB.w k12).less fun k hk => hk.2) fun k hk hs => by show k < g2.size; omega) (by omega) (by decide) fun b' c' g3 o3 k3 => vSliceMk ?_
    have o3 : OwnF elAttr g3 g2.size 94 b' an c' attrs := by
      rw [Nat.zero_add] at o3; exact o3
    rw [Nat.zero_add]
    have v1'' := v1'.kb k3
    refine ⟨_, v1''.cell 0 rfl, _, v1''.cell 1 rfl, _, v1''.cell 2 rfl, stL_var0 (v2.kb k3) (Nat.le_refl 6) fun g4 v4 k4 s4 => ?_⟩
    have kk : KB h g4 := KB.step (k12.trans k3) k4 (by omega)
    have o4 : OwnF elAttr g4 g2.size 94 b' an c' attrs := o3.flatK k4 flatAttr fun g hg => by have := v2.lt; omega
    exact ⟨_, v4.cell 0 rfl, _, v4.cell 1 rfl, _, v4.cell 2 rfl, _, _, _, v4.cell 3 rfl, _, v4.cell 4 rfl, _, _, _, v4.cell 5 rfl, h1 e b' c' g4 (o4.lower (by omega)) kk⟩
  · have kk : KB h g3 := KB.step k12 k3 (by omega)
    exact ⟨_, v3.cell 0 rfl, _, v3.cell 1 rfl, _, v3.cell 2 rfl, _, _, _, v3.cell 3 rfl, _, v3.cell 4 rfl, _, _, _, v3.cell 5 rfl, h2 e g3 kk⟩
theorem push_r (C : RefC h col s t lb lc rs) (hx : Rng .u8 x.kind /\ Rng .u8 x.space) (hpar : x.parent = -1) (hkids : x.kids = []) (hfa : x.attrs.length <= 1000000) (hfn : x.name.length <= maxLen) (hft : x.text.length <= maxLen) (hfew : rs.length < 1000000)
    {ab : Option Addr} {an ac : Nat} (ra : Row elAttr (Free col h) h ab an ac x.attrs) (hz : ab = none -> ac = 0) {Q : Int -> H -> Prop}
    (hk : ∀ h' col', RefP h' col' s t ((rs.map (·.x)) ++ [x]) -> Ext s h col h' col' -> Q (rs.length : Int) h') :
    newx h #[.int .u8 x.kind, .int .u8 x.space, S x.name, .slice ab an ac, S x.text, .slice none 0 0, .int .i64 (-1), .slice none 0 0] 105 fun a95 h96 => ExtH h h96 /\ (SemH Tryz.prog (Builtin.append_ #[106, 106] 106 ⟨[.slice lb rs.length lc, .slice (some a95) 1 1]⟩) h96 fun v97 h98 => vSlice v97 fun b n c => vSome (some t) fun a100 => stL (a100.add 0) [.slice b n c] 0 h98 fun h101 => vSome (some t) fun a102 => ∃ b n c, cell h101 (a102.add 0) = some (.slice b n c) /\ (Rng .i64 ((n : Int) - 1) /\ Q ((n : Int) - 1) h101)) := by
  refine newx_var fun a1 h1 v1 k1 e1 s1 => ⟨k1.ext, ?_⟩
  have hlo := C.o.hi
  have o1 := C.o.kb k1
  have hlen : rs.length = rs.length := rfl
  have r1 : Row elRaw (But h1 lb) h1 (some a1) 1 1 [⟨x, ab, an, ac, none, 0, 0⟩] := v1.row1 (x := ⟨x, ab, an, ac, none, 0, 0⟩) (E := elRaw) (A := But h1 lb) (by
    show _ = rawC _
    unfold rawC nodeC
    rw [hpar]) ⟨v1.lt, fun q e => by have := hlo q e; omega⟩
  refine OwnF.appendN apdRaw o1 r1 (by simp only [maxLen]; omega) (by omega) (Nat.zero_le _) fun b3 c3 h3 o3 g3 nb => vSliceMk ?_
  have hlb : ∀ q, lb = some q -> col q.block = some (s, 1) := C.hl
  have vt1 := C.v.kb k1
  have vt3 : Var h3 t 108 [.slice lb rs.length lc] := vt1.keep g3.keep.w ⟨vt1.lt, fun q e e2 => by have h1 := hlb q e; rw [e2, C.colt] at h1; cases h1⟩
  have sz3 := g3.size
  refine vSomeMk (stL_var (m := 0) (i := 0) vt3 (by show 0 + 0 + 1 <= 1; omega) fun h4 v4 k4 s4 => vSomeMk ⟨_, _, _, v4.cell 0 rfl, rngI (by omega) (by omega), ?_⟩)
  have en : (((rs.length + 1 : Nat) : Int) - 1) = (rs.length : Int) := by omega
  rw [en]
  have hb3 : ∀ q, b3 = some q -> q.block < h3.size := o3.hi
  have ht3 : ∀ q, b3 = some q -> q.block ≠ t.block := fun q e e2 => by
    rcases nb q e with h1 | h1
    · have := hlb q h1; rw [e2, C.colt] at this; cases this
    · have := C.v.lt; omega
  have hcol : ∀ k, k < h.size -> putB col h b3 (s, 1) k = col k := fun k hk => putB_old hk
  have kk : ∀ k, k < h1.size -> k ≠ t.block -> (∀ q, lb = some q -> q.block ≠ k) -> h4[k]? = h1[k]? := fun k h1 h2' h3' => (k4.2 k h2').trans (g3.old k h1 h3')
  have hb3c : ∀ q, b3 = some q -> putB col h b3 (s, 1) q.block = some (s, 1) := fun q e => putB_at e fun hlt => by
    rcases nb q e with h1 | h1
    · exact hlb q h1
    · omega
  have kp : Keep (fun k => k < h.size /\ k ≠ t.block /\ ∀ q, lb = some q -> q.block ≠ k) h h4 := ⟨by omega, fun k hk o e hlp => by
    rw [kk k (by omega) hk.2.1 hk.2.2, k1.2 k hk.1]; exact e⟩
  refine hk h4 (putB col h b3 (s, 1)) ⟨b3, c3, rs ++ [⟨x, ab, an, ac, none, 0, 0⟩], ⟨?_, ?_, hb3c, fun j z hz2 => ?_, (hcol _ C.v.lt).trans C.colt, fun k hk => ?_, by simp; omega⟩, by rw [List.map_append]; rfl⟩ ⟨⟨by omega, fun k hk => ?_⟩, hcol⟩
  · rw [List.length_append]; exact v4
  · rw [List.length_append]
    exact ownRaw_keep o3 k4.w fun q e => ht3 q e
  · by_cases hj : j < rs.length
    · rw [List.getElem?_append_left hj] at hz2
      refine (C.nodes j z hz2).keep kp hcol fun k hk hor => ⟨hk, fun e => ?_, fun q e e2 => ?_⟩
      · rw [e, C.colt] at hor; rcases hor with h1 | h1 <;> cases h1
      · have := hlb q e; rw [e2] at this; rw [this] at hor
        rcases hor with h1 | h1
        · cases h1
        · have := (Prod.mk.inj (Option.some.inj h1)).2; omega
    · have hjn : j = rs.length := by
        have := getI hz2
        simp at this; omega
      subst hjn
      rw [List.getElem?_append_right (Nat.le_refl _), Nat.sub_self] at hz2
      simp at hz2
      subst hz2
      refine ⟨ra.keep (kp.less fun k hk => ⟨hk.1.2, fun e2 => (by have := hk.1.1; rw [e2, C.colt] at this; cases this), fun q e2 e3 => by have h1 := hlb q e2; rw [e3, hk.1.1] at h1; cases h1⟩) fun k hk hs => ⟨by rw [hcol k hs]; exact hk.1, by omega⟩, hz, ?_, (fun q e => by cases e), hx.1, hx.2, ?_, hfa, hfn, hft⟩
      · show OwnI h4 none 0 0 x.kids
        rw [hkids]; exact OwnI.none _
      · show Rng .i64 x.parent
        rw [hpar]; exact ⟨by decide, by decide⟩
  · rw [putB_far (h' := h3) hb3 (by omega)]; exact C.fresh k (by omega)
  · obtain ⟨hk1, hk2⟩ := hk
    rw [kk k (by omega) (fun e => hk2 0 (by rw [e]; exact C.colt)) (fun q e e2 => hk2 1 (by rw [<- e2]; exact hlb q e))]
    exact k1.2 k hk1
theorem make_r (T : RefP h col s t ns) {kd sp : Int} {nm tx : Bs} {ab kb : Option Addr} {an ac kn kc : Nat} {attrs : List AttrP} {A : Nat -> Prop} (r : Row elAttr A h ab an ac attrs) (han : an <= 1000000) (hkd : Rng .u8 kd) (hsp : Rng .u8 sp) (hxn : nm.length <= maxLen) (hxt : tx.length <= maxLen) (hfew : ns.length < 1000000)
    (hk : ∀ h' col', RefP h' col' s t (addM ns (bareM kd sp nm attrs tx)).1 -> Ext s h col h' col' -> K (.int .i64 (addM ns (bareM kd sp nm attrs tx)).2) h') :
    HCalls Tryz.prog 31 ⟨[.pointer (some t), .agg ⟨[.int .u8 kd, .int .u8 sp, S nm, .slice ab an ac, S tx, .slice kb kn kc]⟩]⟩ h K := by
  obtain ⟨lb, lc, rs, C, em⟩ := T
  have hl := r.len
  have hnl : ns.length = rs.length := by rw [<- em, List.length_map]
  have none' : ¬ (kd = 1 ∨ kd = 2 ∨ kd = 3) -> ∀ h', KB h h' -> K (.int .i64 (-1)) h' := fun hn h' k => by
    have eb : bareM kd sp nm attrs tx = none := by unfold bareM; rw [if_neg (by omega), if_neg (by omega)]
    rw [eb] at hk
    exact hk h' col ⟨lb, lc, rs, C.kb k, em⟩ (Ext.kb k)
  refine Sx.r10_Tree_Make.ok _ _ _ _ _ _ _ _ _ _ _ _ _ (newx_var fun x3 h1 v1 k1 e1 s1 => ⟨_, v1.cell 0 rfl, spl (fun e => none' (by omega) h1 k1) fun e => ⟨_, v1.cell 0 rfl, spl (fun e2 => none' (by omega) h1 k1) fun e2 => ?_⟩⟩)
  have C1 := C.kb k1
  refine vSomeMk ⟨_, _, _, C1.v.cell 0 rfl, _, v1.cell 0 rfl, _, v1.cell 1 rfl, _, v1.cell 2 rfl, _, _, _, v1.cell 3 rfl, _, v1.cell 4 rfl, _, _, _, v1.cell 5 rfl, ?_⟩
  refine bare_r (r.bel.keep ((KB.w k1).less fun k hk => hk.2) (B' := fun _ => True) fun _ _ _ => trivial) han (fun e3 b' c' h2 o2 k2 => ?_) fun e3 h2 k2 => ?_
  · have eb : bareM kd sp nm attrs tx = some ⟨kd, sp, nm, attrs, [], -1, []⟩ := by unfold bareM; rw [if_pos e3]
    rw [eb] at hk
    have ra := free_own (col := col) o2 fun k hk => C.fresh k (by omega)
    refine aggN ⟨k2.ext, ?_⟩
    refine push_r (Q := fun y h => K (.int .i64 y) h) (x := ⟨kd, sp, nm, attrs, [], -1, []⟩) (C1.kb k2) ⟨hkd, hsp⟩ rfl rfl (by show attrs.length <= _; omega) hxn (Nat.zero_le _) (by omega) ra o2.nil fun h' col' T' E' => ?_
    rw [em] at T'
    have := hk h' col' T' ((Ext.kb (k1.trans k2)).trans E')
    rw [<- hnl]; exact this
  · have eb : bareM kd sp nm attrs tx = some ⟨kd, 0, [], [], tx, -1, []⟩ := by unfold bareM; rw [if_neg e3, if_pos (by omega)]
    rw [eb] at hk
    refine aggN ⟨k2.ext, ?_⟩
    refine push_r (Q := fun y h => K (.int .i64 y) h) (x := ⟨kd, 0, [], [], tx, -1, []⟩) (C1.kb k2) ⟨hkd, (show Rng .u8 0 from ⟨by decide, by decide⟩)⟩ rfl rfl (Nat.zero_le _) (Nat.zero_le _) hxt (by omega) ⟨rfl, Nat.le_refl _, Nat.zero_le _, fun i x hx => by simp at hx⟩ (fun _ => rfl) fun h' col' T' E' => ?_
    rw [em] at T'
    have := hk h' col' T' ((Ext.kb (k1.trans k2)).trans E')
    rw [<- hnl]; exact this
end
end Go.Proofs
namespace Go.Proofs
open Go Go.Sh
set_option linter.unusedVariables false
set_option maxRecDepth 100000
theorem grow_kb {h h' : H} (k : KB h h') (b : Option Addr) : Grow h h' b := ⟨k.1, fun q hq _ => k.2 q hq⟩
section
variable {h h' : H} {K : Value -> H -> Prop} {col col' : Col} {s i p : Nat} {t a : Addr} {ns : List NodeM} {x y : NodeM} {lb : Option Addr} {lc : Nat} {rs : List RawN} {r : RawN}
theorem cut_r (T : RefP h col s t ns) (G : GoodT ns) {id : Int} (hk : ∀ h' col', RefP h' col' s t (cutM ns id).1 -> Ext s h col h' col' -> K (.bool (cutM ns id).2) h') :
    HCalls Tryz.prog 78 ⟨[.pointer (some t), .int .i64 id]⟩ h K := by
  refine Sx.r10_Tree_Cut.ok _ _ _ _ (there_r T (vBool_mk (condB (fun e => ?_) fun e => ?_)))
  · have e := of_decide_eq_true e
    obtain ⟨i, rfl⟩ := Int.eq_ofNat_of_zero_le e.1
    have hk : ∀ h' col', RefP h' col' s t (cutM ns (i : Int)).1 -> Ext s h col h' col' -> K (.bool (cutM ns (i : Int)).2) h' := hk
    have hx : ns[i]? = some (ns[i]'(by omega)) := List.getElem?_eq_getElem (by omega)
    generalize ns[i]'(by omega) = x at hx
    have ec : cutM ns (i : Int) = if x.parent < 0 then (ns, false) else match ns[x.parent.toNat]? with | none => (ns, false) | some y => (cutAt ns i x x.parent.toNat y, true) := by
      unfold cutM
      rw [if_pos e, Int.toNat_natCast, hx]
      rfl
    have hfew := T.few
    have T0 := T
    obtain ⟨lb, lc, rs, C, em⟩ := T
    obtain ⟨r, hr, rfl⟩ := map_get em hx
    refine rf_rd C hr fun a hc => ⟨_, hc 6 _ rfl, spl (fun e2 => ?_) fun e2 => rf_rd C hr fun a hc => ⟨_, hc 6 _ rfl, ?_⟩⟩
    · rw [ec, if_pos e2] at hk
      exact hk h col T0 (Ext.refl _ _ _)
    · rcases G.par i _ hx with h1 | ⟨h1, h2⟩
      · omega
      obtain ⟨p, hp⟩ := Int.eq_ofNat_of_zero_le h1
      have hp : r.x.parent = (p : Int) := hp
      have hpl : p < ns.length := by omega
      have hy : ns[p]? = some ns[p] := List.getElem?_eq_getElem hpl
      generalize ns[p] = y at hy
      rw [ec, if_neg e2, hp, Int.toNat_natCast, hy] at hk
      have hne := G.ne_par hx hp
      have hmem : (i : Int) ∈ y.kids := (G.kid p _ _ hy).2 ⟨i, _, rfl, hx, hp⟩
      have hil := idxN_lt hmem
      have hyf := G.few hy
      obtain ⟨q, hq, rfl⟩ := map_get em hy
      have Np := C.nodes p q hq
      have hkl := Np.ok.len
      have hkc := Np.ok.own.cap
      rw [hp]
      refine place_r T0 hy (vIntMk (rf_rd C hq fun a2 hc2 => ⟨_, _, _, hc2 7 _ rfl, ?_⟩))
      rw [plc_kid hmem]
      have rk := Np.ok.row (A := Bel h.size) Np.ok.hi
      refine ⟨by omega, app_new apdInt (KB.refl h) (OwnF.none _ _ _) (rk.sub (lo := 0) (hi := idxN (i : Int) q.x.kids) (z := 1) (by omega) (by omega) rfl) (by omega) (by decide) fun b3 c3 h3 o3 k3 => vSliceMk (rf_rd (C.kb k3) hq fun a3 hc3 => ⟨_, _, _, hc3 7 _ rfl, ?_⟩)⟩
      have ei : ((idxN (i : Int) q.x.kids : Int) + 1) = ((idxN (i : Int) q.x.kids + 1 : Nat) : Int) := by omega
      rw [ei]
      refine ⟨rngI (by omega) (by omega), by omega, app_new apdInt k3 o3 ((rk.kb k3).sub (lo := idxN (i : Int) q.x.kids + 1) (hi := q.kn) (z := 1) (by omega) (by omega) rfl) (by omega) (by decide) fun b4 c4 h4 o4 k4 => vSliceMk (vSomeMk ⟨_, _, _, (C.kb k4).v.cell 0 rfl, ?_⟩)⟩
      have el : ([] ++ (q.x.kids.take (idxN (i : Int) q.x.kids)).drop 0) ++ (q.x.kids.take q.kn).drop (idxN (i : Int) q.x.kids + 1) = q.x.kids.eraseIdx (idxN (i : Int) q.x.kids) := by
        rw [List.nil_append, List.drop_zero, List.take_of_length_le (l := q.x.kids) (i := q.kn) (by omega), List.eraseIdx_eq_take_drop_succ]
      rw [el] at o4
      refine ref_kids C hq (grow_kb k4 _) (ownI_of o4) (fun z ez => .inr (o4.lo z ez)) fun h5 col5 C5 E5 _ => ?_
      exact ref_par ⟨_, _, _, C5, map_set em⟩ (by rw [List.getElem?_set_ne (Ne.symm hne)]; exact hx) ⟨by decide, by decide⟩ fun h6 T6 E6 _ => hk h6 col5 T6 (E5.trans E6)
  · have e := of_decide_eq_false e
    have : cutM ns id = (ns, false) := by unfold cutM; rw [if_neg e]
    rw [this] at hk
    exact hk h col T (Ext.refl _ _ _)
theorem put_r (T : RefP h col s t ns) (G : GoodT ns) {parent before id : Int} (hk : ∀ h' col', RefP h' col' s t (putM ns parent before id).1 -> Ext s h col h' col' -> K (.bool (putM ns parent before id).2) h') :
    HCalls Tryz.prog 32 ⟨[.pointer (some t), .int .i64 parent, .int .i64 before, .int .i64 id]⟩ h K := by
  have no : ¬ (holdB ns parent = true /\ (0 <= id /\ id < ns.length) /\ id ≠ 0 /\ before ≠ id /\ 0 <= plcP (((ns[parent.toNat]?).map (·.kids)).getD []) before /\ withinP ns parent id = false) -> K (.bool false) h := fun hn => by
    have : putM ns parent before id = (ns, false) := by unfold putM; rw [if_neg hn]
    rw [this] at hk
    exact hk h col T (Ext.refl _ _ _)
  refine Sx.r10_Tree_Put.ok _ _ _ _ _ _ (holds_r T (vBool_mk (condB (fun hh => ?_) fun hh => there_r T (vBool_mk (condB (fun _ => no fun hy => by rw [hh] at hy; cases hy.1) fun _ => no fun hy => by rw [hh] at hy; cases hy.1)))))
  refine there_r T (vBool_mk (condB (fun hid => ?_) fun hid => no fun hy => of_decide_eq_false hid hy.2.1))
  have hid := of_decide_eq_true hid
  obtain ⟨p, y, ep, hy, hor⟩ := holdB_nat hh
  obtain ⟨i, ei⟩ := Int.eq_ofNat_of_zero_le hid.1
  have ei : id = (i : Int) := ei
  have hpl := getI hy
  have hx : ns[i]? = some (ns[i]'(by omega)) := List.getElem?_eq_getElem (by omega)
  generalize ns[i]'(by omega) = x at hx
  have ekids : (((ns[parent.toNat]?).map (·.kids)).getD []) = y.kids := by rw [ep, Int.toNat_natCast, hy]; rfl
  refine spl (fun e => no (fun hh => hh.2.2.1 e)) fun h0 => spl (fun e => no (fun hh => hh.2.2.2.1 e)) fun hb => within_r T G (by omega) (vBool_mk (condB (fun e => no (fun hh => by rw [e] at hh; cases hh.2.2.2.2.2)) fun hw => ?_))
  rw [ep]
  refine condF (place_r T hy (vIntMk (spl (fun e => no (fun hh => by have := hh.2.2.2.2.1; rw [ekids] at this; omega)) fun hplc => ?_)))
  have hyes : holdB ns parent = true /\ (0 <= id /\ id < ns.length) /\ id ≠ 0 /\ before ≠ id /\ 0 <= plcP (((ns[parent.toNat]?).map (·.kids)).getD []) before /\ withinP ns parent id = false :=
    ⟨hh, hid, h0, hb, by rw [ekids]; omega, hw⟩
  have epm : putM ns parent before id = (putAt (cutM ns id).1 parent.toNat before id.toNat, true) := by unfold putM; rw [if_pos hyes]
  rw [epm, ep, ei, Int.toNat_natCast, Int.toNat_natCast, <- ei] at hk
  have G1 := G.cutM id
  obtain ⟨y1, hy1, _, _, _, _, _, hmem, _, _⟩ := cutM_get G (id := id) hy
  obtain ⟨x1, hx1, _, _, _, _, _, _, _, _⟩ := cutM_get G (id := id) hx
  have hnw : ¬ InC ns parent id := fun hh => by
    unfold withinP at hw
    rw [@decide_eq_true (InC ns parent id) (Classical.propDecidable _) hh] at hw; cases hw
  have hne : i ≠ p := fun e => hnw (by rw [ep, ei, <- e]; exact inC_step.2 (.inl rfl))
  obtain ⟨hp1, hp2⟩ := plc_nn hmem hb (by omega)
  obtain ⟨k, hkk⟩ := Int.eq_ofNat_of_zero_le hp1
  have hkk : plcP y1.kids before = (k : Int) := hkk
  have hres : putAt (cutM ns id).1 p before i = (((cutM ns id).1.set p { y1 with kids := y1.kids.take k ++ (i : Int) :: y1.kids.drop k }).set i { x1 with parent := (p : Int) }) := by
    unfold putAt
    rw [hy1]
    dsimp only
    rw [hkk, Int.toNat_natCast, List.getElem?_set_ne (Ne.symm hne), hx1]
  rw [hres] at hk
  have tail : ∀ h2 col2, RefP h2 col2 s t (cutM ns id).1 -> Ext s h col h2 col2 -> Sx.r10_Tree_Put.n8 (some t) (p : Int) before id (fun y8 h => K (.bool y8) h) (fun y8 h => K (.bool y8) h) h2 := by
    intro h2 col2 T2 E2
    have hyf := G1.few hy1
    have hf2 := T2.few
    have T20 := T2
    obtain ⟨lb, lc, rs, C, em⟩ := T2
    obtain ⟨q, hq, rfl⟩ := map_get em hy1
    have Np := C.nodes p q hq
    have hkl := Np.ok.len
    have hkc := Np.ok.own.cap
    have rk := Np.ok.row (A := Bel h2.size) Np.ok.hi
    have hri := getI hx1
    have hrp := getI hy1
    refine place_r T20 hy1 (vIntMk (rf_rd C hq fun a2 hc2 => ⟨_, _, _, hc2 7 _ rfl, ?_⟩))
    rw [hkk, ei]
    refine ⟨by omega, app_new apdInt (KB.refl h2) (OwnF.none _ _ _) (rk.sub (lo := 0) (hi := k) (z := 1) (by omega) (by omega) rfl) (by omega) (by decide) fun b3 c3 h3 o3 k3 => vSliceMk ?_⟩
    refine one_app apdInt (x := (i : Int)) (fun A h => ⟨rfl, rngI (by omega) (by omega)⟩) o3 k3.1 (by simp only [maxLen]; omega) (by omega) fun b4 c4 h4 o4 k4 => vSliceMk ?_
    have k24 : KB h2 h4 := ⟨Nat.le_trans k3.1 k4.1, fun q hq => (k4.2 q hq).trans (k3.2 q hq)⟩
    refine rf_rd (C.kb k24) hq fun a3 hc3 => ⟨_, _, _, hc3 7 _ rfl, by omega, app_new apdInt k24 o4 ((rk.kb k24).sub (lo := k) (hi := q.kn) (z := 1) (by omega) (by omega) rfl) (by omega) (by decide) fun b5 c5 h5 o5 k5 => vSliceMk (vSomeMk ⟨_, _, _, (C.kb k5).v.cell 0 rfl, ?_⟩)⟩
    have el : (([] ++ (q.x.kids.take k).drop 0) ++ [(i : Int)]) ++ (q.x.kids.take q.kn).drop k = q.x.kids.take k ++ (i : Int) :: q.x.kids.drop k := by
      rw [List.nil_append, List.drop_zero, List.take_of_length_le (l := q.x.kids) (i := q.kn) (by omega), List.append_assoc]; rfl
    rw [el] at o5
    refine ref_kids C hq (grow_kb k5 _) (ownI_of o5) (fun z ez => .inr (o5.lo z ez)) fun h6 col6 C6 E6 _ => ?_
    exact ref_par ⟨_, _, _, C6, map_set em⟩ (by rw [List.getElem?_set_ne (Ne.symm hne)]; exact hx1) (rngI (by omega) (by omega)) fun h7 T7 E7 _ => hk h7 col6 T7 ((E2.trans E6).trans E7)
  exact cut_r T G fun h2 col2 T2 E2 => vBool_mk (condB (fun _ => tail h2 col2 T2 E2) fun _ => tail h2 col2 T2 E2)
end
end Go.Proofs
namespace Go.Proofs
open Go Go.Sh
set_option linter.unusedVariables false
set_option maxRecDepth 100000
section
variable {h h' : H} {K : Value -> H -> Prop} {col col' : Col} {s i p : Nat} {t a : Addr} {ns : List NodeM} {x y : NodeM} {lb : Option Addr} {lc : Nat} {rs : List RawN} {r : RawN}
theorem write_r (T : RefP h col s t ns) (G : GoodT ns) {parent before : Int} {tx : Bs} (hlen : ∀ (i : Nat) x, ns[i]? = some x -> x.text.length + tx.length <= 9223372036854775807) (htx : tx.length <= maxLen) (hfew : ns.length < 1000000)
    (hk : ∀ h' col', RefP h' col' s t (writeM ns parent before tx).1 -> Ext s h col h' col' -> K (.bool (writeM ns parent before tx).2) h') :
    HCalls Tryz.prog 37 ⟨[.pointer (some t), .int .i64 parent, .int .i64 before, S tx]⟩ h K := by
  refine Sx.r10_Tree_Write.ok _ _ _ _ _ _ (holds_r T (vBool_mk (condB (fun hh => ?_) fun hh => ?_)))
  · obtain ⟨p, y, ep, hy, hor⟩ := holdB_nat hh
    have hpl := getI hy
    have ekids : (((ns[parent.toNat]?).map (·.kids)).getD []) = y.kids := by rw [ep, Int.toNat_natCast, hy]; rfl
    unfold writeM at hk
    rw [ekids] at hk
    have T0 := T
    have hft := T.few
    have hfk := G.few hy
    rw [ep]
    refine condT (place_r T hy (vIntMk (spl (fun e => ?_) fun e => ?_)))
    · rw [if_pos (fun hh2 => by have := hh2.2; omega)] at hk
      exact hk h col T (Ext.refl _ _ _)
    · rw [if_neg (fun hn => hn ⟨hh, by omega⟩)] at hk
      refine spl (fun e2 => ?_) fun e2 => ?_
      · rw [if_pos e2] at hk
        exact hk h col T (Ext.refl _ _ _)
      · rw [if_neg e2] at hk
        obtain ⟨k, hkk⟩ := Int.eq_ofNat_of_zero_le (show 0 <= plcP y.kids before by omega)
        have hkk : plcP y.kids before = (k : Int) := hkk
        rw [hkk, Int.toNat_natCast, ep] at hk
        have other : ((y.kids[k - 1]?).bind (fun q : Int => if 0 < (k : Int) then (ns[q.toNat]?).bind fun z => if z.kind = 2 then some (q.toNat, z) else none else none)) = none -> Sx.r10_Tree_Write.n8 (some t) (p : Int) before tx (fun y8 h => K (.bool y8) h) (fun y8 h => K (.bool y8) h) h := fun hnone => by
          rw [hnone] at hk
          refine make_r T (A := fun _ => True) (attrs := []) ⟨rfl, Nat.le_refl _, Nat.zero_le _, fun i x hx => by simp at hx⟩ (by omega) ⟨by decide, by decide⟩ ⟨by decide, by decide⟩ (Nat.zero_le _) htx hfew fun h2 col2 T2 E2 => vIntMk ?_
          exact put_r T2 (G.addM _ _ _ _ _) fun h3 col3 T3 E3 => vBool_mk (condB (fun eb => by have := hk h3 col3 T3 (E2.trans E3); rw [eb] at this; exact this) fun eb => by have := hk h3 col3 T3 (E2.trans E3); rw [eb] at this; exact this)
        rw [hkk]
        refine spl (fun e3 => ?_) fun e3 => other (by
          have e4 : ¬ 0 < (k : Int) := e3
          simp only [if_neg e4]
          cases y.kids[k - 1]? <;> rfl)
        obtain ⟨lb, lc, rs, C, em⟩ := T
        obtain ⟨q, hq, rfl⟩ := map_get em hy
        have N := C.nodes p q hq
        have hkl := N.ok.len
        have hkn : k <= q.x.kids.length := by
          have := hkk
          unfold plcP idxP at this
          by_cases eb : before = -1
          · rw [if_pos eb] at this; omega
          · rw [if_neg eb] at this
            by_cases em : before ∈ q.x.kids
            · rw [if_pos em] at this; have := idxN_lt em; omega
            · rw [if_neg em] at this; omega
        have ek : ((k : Int) - 1) = ((k - 1 : Nat) : Int) := by omega
        refine condT (rf_rd C hq fun a hc => ⟨_, _, _, hc 7 _ rfl, rngI (by omega) (by omega), ?_⟩)
        rw [ek]
        have hil : k - 1 < q.x.kids.length := by omega
        refine (N.ok.row (A := fun _ => True) fun _ _ => trivial).idxN hil rfl fun a hA => ldI hA fun _ => ?_
        obtain ⟨j, z, ej, hz', hpz⟩ := (G.kid p _ _ hy).1 (List.getElem_mem hil)
        have hjl := getI hz'
        rw [ej]
        obtain ⟨w, hw, rfl⟩ := map_get em hz'
        have Nw := C.nodes j w hw
        have ebind : ((q.x.kids[k - 1]?).bind (fun q : Int => if 0 < (k : Int) then (ns[q.toNat]?).bind fun z => if z.kind = 2 then some (q.toNat, z) else none else none)) = if w.x.kind = 2 then some (j, w.x) else none := by
          rw [List.getElem?_eq_getElem hil, ej]
          show (if 0 < (k : Int) then (ns[((j : Nat) : Int).toNat]?).bind _ else none) = _
          rw [if_pos (by omega), Int.toNat_natCast, hz']
          rfl
        refine rf_rd C hw fun a2 hc2 => ⟨_, hcZ hc2 0 rfl, spl (fun e4 => ?_) fun e4 => condF (other (by rw [ebind, if_neg e4]))⟩
        rw [ebind, if_pos e4] at hk
        have hlz := hlen j _ hz'
        refine condT (vSomeMk ⟨_, _, _, C.v.cell 0 rfl, rf_rd C hw fun a3 hc3 => ⟨_, hcZ hc3 4 rfl, ?_, ?_⟩⟩)
        · show ((w.x.text.length + tx.length : Nat) : Int) <= 9223372036854775807
          omega
        · refine ref_field C hw (f := 4) (r' := { w with x := { w.x with text := w.x.text ++ tx } }) (by omega) rfl rfl ⟨rfl, rfl, rfl, rfl, rfl, rfl, rfl, rfl⟩ ⟨Nw.rk, Nw.rs, Nw.rp, Nw.fn, ?_⟩ fun h2 C2 E2 _ => hk h2 col ⟨_, _, _, C2, map_set em⟩ E2
          show (w.x.text ++ tx).length <= _
          rw [List.length_append]; simp only [maxLen]; omega
  · have : writeM ns parent before tx = (ns, false) := by
      unfold writeM
      rw [if_pos (fun hy => by rw [hh] at hy; cases hy.1)]
    rw [this] at hk
    exact hk h col T (Ext.refl _ _ _)
end
end Go.Proofs
namespace Go.Proofs
open Go Go.Sh
set_option linter.unusedVariables false
set_option maxRecDepth 100000
theorem _root_.Go.Sh.OwnF.flatNe {α : Type} {E : El α} {h h' : H} {base e n c g : Nat} {b : Option Addr} {l : List α} (o : OwnF E h base e b n c l) (k : KX g h h') (hf : Flat E) (hne : ∀ q, b = some q -> q.block ≠ g) : OwnF E h' base e b n c l :=
  ⟨o.own.flatK k.w hf fun g e _ _ => hne _ e, o.lo, fun a ea => Nat.lt_of_lt_of_le (o.hi a ea) k.1, o.nil⟩
section
variable {h h' : H} {K : Value -> H -> Prop} {col col' : Col} {s i p : Nat} {t a : Addr} {ns : List NodeM} {x y z : NodeM} {lb : Option Addr} {lc : Nat} {rs : List RawN} {r : RawN}
theorem bare_n (B : BareN z) {ab kb : Option Addr} {an ac kn kc : Nat} {A : Nat -> Prop} (r : Row elAttr A h ab an ac z.attrs) (han : an <= 1000000)
    (hk : ∀ b' n' c' h', OwnF elAttr h' h.size 94 b' n' c' z.attrs -> KB h h' -> K (.agg ⟨[.int .u8 z.kind, .int .u8 z.space, S z.name, .slice b' n' c', S z.text, .slice none 0 0]⟩) h') :
    HCalls Tryz.prog 73 ⟨[.agg ⟨[.int .u8 z.kind, .int .u8 z.space, S z.name, .slice ab an ac, S z.text, .slice kb kn kc]⟩]⟩ h K := by
  refine bare_r r han (fun e b' c' h' o k => ?_) fun e h' k => ?_
  · rcases B with ⟨_, et⟩ | ⟨e2, _⟩
    · have := hk b' an c' h' o k
      rw [et] at this
      exact this
    · exact absurd e e2
  · rcases B with ⟨e2, _⟩ | ⟨_, e1, e2, e3⟩
    · exact absurd e2 e
    · have := hk none 0 0 h' (by rw [e3]; exact OwnF.none _ _ _) k
      rw [e1, e2] at this
      exact this
theorem whole_r (G : GoodT ns) (B : BareT ns) : ∀ (d : Nat) (id : Int) {h : H} {K : Value -> H -> Prop} (T : RefP h col s t ns) (hd : Deep d ns id)
    (hk : ∀ h' b n c, KB h h' -> OwnR (elNode d) h' h.size 57 b n c (wholeL d ns id) -> K (.slice b n c) h'),
    HCalls Tryz.prog 59 ⟨[.pointer (some t), .int .i64 id]⟩ h K := by
  intro d
  induction d with
  | zero => intro id h K T hd; exact hd.elim
  | succ d ihd =>
    intro id h K T hd hk
    have hft := T.few
    refine Sx.r10_Tree_Whole.ok _ _ _ _ (there_r T (vBool_mk (condB (fun e => ?_) fun e => ?_)))
    · have e := of_decide_eq_true e
      obtain ⟨i, rfl⟩ := Int.eq_ofNat_of_zero_le e.1
      have hx : ns[i]? = some (ns[i]'(by omega)) := List.getElem?_eq_getElem (by omega)
      generalize ns[i]'(by omega) = x at hx
      have T0 := T
      have hfx := G.few hx
      obtain ⟨lb, lc, rs, C, em⟩ := T
      obtain ⟨r, hr, rfl⟩ := map_get em hx
      have N := C.nodes i r hr
      have hkl := N.ok.len
      have ew : wholeL (d + 1) ns (i : Int) = r.x.kids.map fun k => nodeVI ns k (wholeL d ns k) := by
        show (kidsI ns (i : Int)).map _ = _
        rw [kidsI_some hx]
      have hdk : ∀ k ∈ r.x.kids, Deep d ns k := by
        have := hd
        intro k hk2
        exact this k (by rw [kidsI_some hx]; exact hk2)
      have hk : ∀ h' b n c, KB h h' -> OwnR (elNode (d + 1)) h' h.size 57 b n c (wholeL (d + 1) ns (i : Int)) -> K (.slice b n c) h' := hk
      rw [ew] at hk
      refine condT (rf_rd C hr fun a hc => ⟨_, _, _, hc 7 _ rfl, r.kn + 1, ?_⟩)
      have key : ∀ N' m h2 ob oc (out : List NodeV), m + N' = r.kn -> KB h h2 -> OwnR (elNode (d + 1)) h2 h.size 57 ob m oc out -> out = (r.x.kids.take m).map (fun k => nodeVI ns k (wholeL d ns k)) ->
          Sx.r10_Tree_Whole.n10_L (fun z6b z6n z6c h => Sx.r10_Tree_Whole.n7 z6b z6n z6c (fun y4b y4n y4c h => K (.slice y4b y4n y4c) h) (fun y4b y4n y4c h => K (.slice y4b y4n y4c) h) h) (fun z6b z6n z6c h => Sx.r10_Tree_Whole.n7 z6b z6n z6c (fun y4b y4n y4c h => K (.slice y4b y4n y4c) h) (fun y4b y4n y4c h => K (.slice y4b y4n y4c) h) h) (fun y4b y4n y4c h => K (.slice y4b y4n y4c) h) (N' + 1) (some t) ob m oc r.kb r.kn r.kc (m : Int) h2 := by
        intro N'
        induction N' with
        | zero =>
          intro m h2 ob oc out hmN k2 o2 eo
          unfold Sx.r10_Tree_Whole.n10_L
          refine splF (by omega) ?_
          rw [List.take_of_length_le (by omega)] at eo
          rw [eo] at o2
          exact hk h2 ob m oc k2 o2
        | succ N' ih =>
          intro m h2 ob oc out hmN k2 o2 eo
          have hml : m < r.x.kids.length := by omega
          have ok2 : OwnI h2 r.kb r.kn r.kc r.x.kids := N.ok.keep (KB.w k2) fun q e => N.ok.hi q e
          obtain ⟨j, z, ej, hz', hpz⟩ := (G.kid i _ _ hx).1 (List.getElem_mem hml)
          have hjl := getI hz'
          obtain ⟨w, hw, rfl⟩ := map_get em hz'
          have C2 := C.kb k2
          have Nw := C2.nodes j w hw
          have Bw := B.all j _ hz'
          have hal2 := Nw.ra.len
          have hfa := Nw.fa
          have hdj : Deep d ns (j : Int) := by rw [<- ej]; exact hdk _ (List.getElem_mem hml)
          have hs2 := k2.1
          have hob := o2.hi
          have rdI : ∀ (h3 : H) (Q : Int -> Prop), KB h2 h3 -> Q (j : Int) -> (0 <= (m : Int) /\ (m : Int) < (r.kn : Int)) /\ vSome r.kb fun a => ∃ i, cell h3 (a.add (Int.toNat (m : Int) * 1)) = some (.int .i64 i) /\ Q i := fun h3 Q k3 hq => by
            have ok3 : OwnI h3 r.kb r.kn r.kc r.x.kids := ok2.keep (KB.w k3) fun q e => ok2.hi q e
            refine (ok3.row (A := fun _ => True) fun _ _ => trivial).idxN hml rfl fun q hA => ldI hA fun _ => ?_
            rw [ej]; exact hq
          have tail : ∀ (a3 : Addr) (h4 : H) (b5 : Option Addr) (n5 c5 base : Nat), KB h2 h4 -> Var h4 a3 57 [.int .u8 w.x.kind, .int .u8 w.x.space, S w.x.name, .slice b5 n5 c5, S w.x.text, .slice none 0 0] -> h2.size <= a3.block -> h2.size <= base -> OwnF elAttr h4 base 94 b5 n5 c5 w.x.attrs -> (∀ q, b5 = some q -> q.block ≠ a3.block) ->
              ((0 <= (m : Int) /\ (m : Int) < (r.kn : Int)) /\ (vSome r.kb fun a104 => ∃ i105, cell h4 (a104.add (Int.toNat (m : Int) * 1)) = some (.int .i64 i105) /\ (HCalls Tryz.prog 59 ⟨[(.pointer (some t)), (.int .i64 i105)]⟩ h4 fun v106 h107 => vSlice v106 fun s108b s108n s108c => stL (a3.add 5) [(.slice s108b s108n s108c)] 0 h107 fun h109 => ∃ i110, cell h109 ((a3).add 0) = some (.int .u8 i110) /\ (∃ i111, cell h109 ((a3).add 1) = some (.int .u8 i111) /\ (∃ s112, cell h109 ((a3).add 2) = some (S s112) /\ (∃ s113b s113n s113c, cell h109 ((a3).add 3) = some (.slice s113b s113n s113c) /\ (∃ s114, cell h109 ((a3).add 4) = some (S s114) /\ (∃ s115b s115n s115c, cell h109 ((a3).add 5) = some (.slice s115b s115n s115c) /\ (newx h109 #[(.int .u8 i110), (.int .u8 i111), (S s112), (.slice s113b s113n s113c), (S s114), (.slice s115b s115n s115c)] 57 fun a116 h117 => SemH Tryz.prog (Builtin.append_ #[54, 54] 54 ⟨[(.slice ob m oc), (.slice (some a116) 1 1)]⟩) h117 fun v118 h119 => vSlice v118 fun s120b s120n s120c => Rng .i64 ((m : Int) + (1 : Int)) /\ (Sx.r10_Tree_Whole.n10_L (fun z6b z6n z6c h => Sx.r10_Tree_Whole.n7 z6b z6n z6c (fun y4b y4n y4c h => K (.slice y4b y4n y4c) h) (fun y4b y4n y4c h => K (.slice y4b y4n y4c) h) h) (fun z6b z6n z6c h => Sx.r10_Tree_Whole.n7 z6b z6n z6c (fun y4b y4n y4c h => K (.slice y4b y4n y4c) h) (fun y4b y4n y4c h => K (.slice y4b y4n y4c) h) h) (fun y4b y4n y4c h => K (.slice y4b y4n y4c) h) (N' + 1) (some t) s120b s120n s120c r.kb r.kn r.kc ((m : Int) + (1 : Int)) h119)))))))))) := by
            intro a3 h4 b5 n5 c5 base k24 v4 ha3 hbase o5 hne
            have hs4 := k24.1
            refine rdI h4 _ k24 (ihd (j : Int) (T0.kb (k2.trans k24)) hdj fun h6 b6 n6 c6 k6 o6 => vSliceMk ?_)
            have hs6 := k6.1
            have hv4 := v4.lt
            refine stL_var (m := 5) (i := 0) (v4.kb k6) (by show 5 + 0 + 1 <= 6; omega) fun h8 v8 k8 s8 => ?_
            have v8 : Var h8 a3 57 [.int .u8 w.x.kind, .int .u8 w.x.space, S w.x.name, .slice b5 n5 c5, S w.x.text, .slice b6 n6 c6] := v8
            refine ⟨_, v8.cell 0 rfl, _, v8.cell 1 rfl, _, v8.cell 2 rfl, _, _, _, v8.cell 3 rfl, _, v8.cell 4 rfl, _, _, _, v8.cell 5 rfl, newx_var fun a9 h9 v9 k9 e9 s9 => ?_⟩
            have k28 : KB h2 h8 := KB.step (k24.trans k6) k8 (by omega)
            have o9 : OwnR (elNode (d + 1)) h9 h.size 57 ob m oc out := (o2.kb k28).kb k9
            have oa : OwnF elAttr h9 base 94 b5 n5 c5 w.x.attrs := ((o5.kb k6).flatNe k8 flatAttr hne).kb k9
            have okk : OwnR (elNode d) h9 h4.size 57 b6 n6 c6 (wholeL d ns j) := (o6.kw (k8.w.less fun g (hg : h4.size <= g) => by omega)).kb k9
            have hR : nodeR (d + 1) (fun k => h.size <= k /\ But h9 ob k) h9 (.mk w.x.kind w.x.space w.x.name w.x.attrs w.x.text (wholeL d ns j)) [.int .u8 w.x.kind, .int .u8 w.x.space, S w.x.name, .slice b5 n5 c5, S w.x.text, .slice b6 n6 c6] :=
              nodeR_mk (x := .mk w.x.kind w.x.space w.x.name w.x.attrs w.x.text (wholeL d ns j)) (oa.behind flatAttr fun k h1 h2' => ⟨by omega, h2', fun q e => by have := hob q e; omega⟩) oa.nil
                (okk.row.keep (Keep.refl _ _) fun k hk hs => ⟨by have := hk.1; omega, hs, fun q e => by have := hob q e; have := hk.1; omega⟩) okk.nil Nw.rk Nw.rs Nw.fn Nw.ft
            have r9 : Row (elNode (d + 1)) (fun k => h.size <= k /\ But h9 ob k) h9 (some a9) 1 1 [.mk w.x.kind w.x.space w.x.name w.x.attrs w.x.text (wholeL d ns j)] := v9.row1 hR ⟨by omega, v9.lt, fun q e => by have := hob q e; omega⟩
            refine OwnR.append (apdNode (d + 1)) o9 r9 (by simp only [maxLen]; omega) (by omega) (by omega) fun b10 c10 h10 o10 g10 => vSliceMk ⟨rngI (by omega) (by omega), ?_⟩
            refine ih (m + 1) h10 b10 c10 _ (by omega) ?_ o10 ?_
            · exact g10.kb0 ((k2.trans k28).trans k9) fun q e => o2.lo q e
            · rw [eo, List.take_add_one, List.getElem?_eq_getElem hml, List.map_append, ej]
              congr 1
              show [_] = [nodeVI ns (j : Int) _]
              unfold nodeVI
              rw [Int.toNat_natCast, hz']
          unfold Sx.r10_Tree_Whole.n10_L
          refine splT (by omega) ⟨vSomeMk ⟨_, _, _, C2.v.cell 0 rfl, rdI h2 _ (KB.refl h2) (rf_el C2 hw fun a2 hc2 => ?_)⟩, vSomeMk ⟨_, _, _, C2.v.cell 0 rfl, rdI h2 _ (KB.refl h2) (rf_el C2 hw fun a2 hc2 => ?_)⟩⟩
          · refine ⟨_, hcZ hc2 0 rfl, _, hcZ hc2 1 rfl, _, hcZ hc2 2 rfl, _, _, _, hcZ hc2 3 rfl, _, hcZ hc2 4 rfl, _, _, _, hcZ hc2 5 rfl, bare_n Bw Nw.ra (by omega) fun b5 n5 c5 h3 o3 k3 => aggN (newx_var fun a4 h4 v4 k4 e4 s4 => stL_var0 v4 (Nat.le_refl 6) fun h5 v5 k5 s5 => ?_)⟩
            have hs3 := k3.1
            exact tail a4 h5 b5 n5 c5 h2.size (KB.step (k3.trans k4) k5 (by omega)) v5 (by omega) (Nat.le_refl _) ((o3.kb k4).flatNe k5 flatAttr fun q e => by have := o3.hi q e; omega) fun q e => by have := o3.hi q e; omega
          · refine ⟨_, hcZ hc2 0 rfl, _, hcZ hc2 1 rfl, _, hcZ hc2 2 rfl, _, _, _, hcZ hc2 3 rfl, _, hcZ hc2 4 rfl, _, _, _, hcZ hc2 5 rfl, newx_var fun a4 h4 v4 k4 e4 s4 => ⟨k4.ext, ?_⟩⟩
            refine bare_n Bw ((C2.kb k4).nodes j w hw).ra (by omega) fun b5 n5 c5 h3 o3 k3 => aggN (stL_var0 (v4.kb k3) (Nat.le_refl 6) fun h5 v5 k5 s5 => ?_)
            have hs3 := k3.1
            exact tail a4 h5 b5 n5 c5 h4.size (KB.step (k4.trans k3) k5 (by omega)) v5 (by omega) (by omega) (o3.flatNe k5 flatAttr fun q e => by have := o3.lo q e; omega) fun q e => by have := o3.lo q e; omega
      exact key r.kn 0 h none 0 [] (by omega) (KB.refl h) (OwnR.none _ _ _) rfl
    · have e0 := of_decide_eq_false e
      have e : wholeL (d + 1) ns id = [] := by
        unfold wholeL kidsI
        by_cases h0 : 0 <= id
        · rw [if_pos h0, List.getElem?_eq_none (by omega)]; rfl
        · rw [if_neg h0]; rfl
      rw [e] at hk
      exact hk h none 0 0 (KB.refl h) (OwnR.none _ _ _)
end
end Go.Proofs
