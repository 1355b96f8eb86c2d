/- place: a World's rows are replaced; copies of rows; lists of open elements that are the same; Note. No condition. -/
import Derived.Test.YtmnjhhgdhlgjfaaGreatPcD
import Derived.Test.YtmnjhhgdhlgjfaaGreatMsH
import Derived.Test.YtmnjhhgdhlgjfaaGreatMsK
namespace Go.Proofs
open Go Go.Sh
set_option linter.unusedVariables false
set_option maxRecDepth 100000
/-! ### a copy of a row -/
theorem cloneA_k {α : Type} {E : El α} {t e0 by' : Nat} (ap : Apd Tryz.prog E t e0 by') (hsl : isSlD (Tryz.prog.underlying t) = true) {A : Nat → Prop} {h : H} {b : Option Addr} {n c : Nat} {l : List α} {xs : List Value} {x y : Operand} (hA : ∀ k, A k → k < h.size)
    (he : Enc E A h l xs) (hc : Cells h b xs) (hl : l.length = n) (hcap : n ≤ c) (hz : b = none → c = 0) (hn : n ≤ 1000000) (hb : by' ≤ 1000)
    {Kr : Option Addr → Nat → Nat → H → Prop} (hk : ∀ b' c' h', OwnA E A h' h.size e0 b' n c' l → KB h h' → Kr b' n c' h') :
    SemH Tryz.prog (binS .eql t x y (.slice b n c) (.slice none 0 0)) h fun v9 h10 => vBool v9 fun b11 => cond b11 (Kr none 0 0 h10) (newx h10 #[] e0 fun a12 h13 => SemH Tryz.prog (Builtin.append_ #[t, t] t ⟨[(.slice (some a12) 0 0), (.slice b n c)]⟩) h13 fun v14 h15 => vSlice v14 fun s16b s16n s16c => Kr s16b s16n s16c h15) := by
  refine (semR_slnil hsl ?_).h
  refine vBool_mk (condB (fun e => ?_) fun e => ?_)
  · have hb : b = none := by simpa using e
    have hc := hz hb
    have hn0 : n = 0 := by omega
    subst hn0
    have : l = [] := List.eq_nil_of_length_eq_zero hl
    subst this
    exact hk none 0 h (OwnA.none _ _ _ _) (KB.refl h)
  · refine newx_var (cs := []) fun a h1 v1 k1 e1 s1 => ?_
    have o1 : OwnA E A h1 h.size e0 (some a) 0 0 [] := ⟨OwnT.nil _ _ _ _ _, (fun q e => by cases e; omega), (fun q e => by cases e; exact v1.lt), fun e => by cases e⟩
    have hbb : (0 + n) * by' ≤ 140737488355328 := by
      have : (0 + n) * by' ≤ 1000000 * 1000 := Nat.mul_le_mul (by omega) hb
      omega
    refine OwnA.append ap o1 hA hl (he.keep ((KB.w k1).less fun k hk => hk.2) fun _ h _ => h) (fun j v hv => by
      obtain ⟨q, e, ec⟩ := hc j v hv
      exact ⟨q, e, (KB.w k1).cell (cell_lt ec) ec⟩) (by simp only [maxLen]; omega) hbb (by omega) fun b' c' h' o' g' => vSliceMk ?_
    rw [Nat.zero_add] at o' ⊢
    exact hk b' c' h' o' (g'.kb0 k1 fun q e => by cases e; omega)
theorem cloneM_calls {A : Nat → Prop} {h : H} {K : Value → H → Prop} {b : Option Addr} {n c : Nat} {l : List MarkP} {xs : List Value} (hA : ∀ k, A k → k < h.size) (he : Enc elMark A h l xs) (hc : Cells h b xs) (hl : l.length = n) (hcap : n ≤ c) (hz : b = none → c = 0) (hn : n ≤ 1000000)
    (hk : ∀ b' c' h', OwnA elMark A h' h.size 39 b' n c' l → KB h h' → K (.slice b' n c') h') : HCalls Tryz.prog 41 ⟨[.slice b n c]⟩ h K :=
  Sx.slices_Clone_apiMark.ok _ _ _ _ _ (cloneA_k (Kr := fun b n c h => K (.slice b n c) h) apdMark (by kernel_rfl) hA he hc hl hcap hz hn (by decide) hk)
theorem encOpen : ∀ {A : Nat → Prop} {h : H} {l : List OpenP}, (∀ x ∈ l, OpenW x) → Enc elOpen A h l (l.flatMap cellsO)
  | _, _, [], _ => rfl
  | A, h, x :: l, hw => ⟨cellsO x, l.flatMap cellsO, by rw [List.flatMap_cons], (hw x (by simp)).r, encOpen fun y hy => hw y (by simp [hy])⟩
theorem cloneO_calls {h : H} {K : Value → H → Prop} {b : Option Addr} {n c : Nat} {l : List OpenP} {A0 : Nat → Prop} {xs : List Value} (he : Enc elOpen A0 h l xs) (hc : Cells h b xs) (hl : l.length = n) (hcap : n ≤ c) (hz : b = none → c = 0) (hn : n ≤ 1000000)
    (hk : ∀ b' c' h', OwnA elOpen Non h' h.size 36 b' n c' l → KB h h' → K (.slice b' n c') h') : HCalls Tryz.prog 46 ⟨[.slice b n c]⟩ h K :=
  Sx.slices_Clone_apiOpen.ok _ _ _ _ _ (cloneA_k (Kr := fun b n c h => K (.slice b n c) h) apdOpen (by kernel_rfl) (A := Non) (fun k hk => hk.elim) (Enc.flat flatOpen he) hc hl hcap hz hn (by decide) hk)
/-! ### a World's own parts are replaced -/
section
variable {h h1 : H} {K : Value → H → Prop} {col : Col} {s ty : Nat} {w t : Addr} {op : List OpenP} {mk : List MarkP} {fo : Bool} {hi : Int}
theorem notW (W : WorldW h col s ty w t op mk fo hi) {p k : Nat} {col' : Col} (hc : col' w.block = some (s, 0)) (hp : p ≠ 0) (h2 : col' k = none ∨ col' k = some (s, p)) : k ≠ w.block := fun e => by
  subst e
  rcases h2 with h2 | h2
  · rw [hc] at h2; cases h2
  · rw [hc] at h2; cases h2; exact hp rfl
theorem setMarks_k (W : WorldW h col s ty w t op mk fo hi) (f : Fresh h col) (k : KB h h1) {b : Option Addr} {n c : Nat} {mk' : List MarkP} (o' : OwnA elMark (Free col h) h1 h.size 39 b n c mk') {Q : H → Prop}
    (hk : ∀ h', WorldW h' (putB col h b (s, 2)) s ty w t op mk' fo hi → ExtP (fun k => k = s) h col h' (putB col h b (s, 2)) → Fresh h' (putB col h b (s, 2)) → cell h' (w.add 2) = some (.slice b n c) → Q h') : stL (w.add 2) [.slice b n c] 0 h1 Q := by
  obtain ⟨ob, oc, mb, mn, mc, v, o, om⟩ := W.ex
  refine stL_var (m := 2) (i := 0) (v.kb k) (by show 2 + 0 + 1 ≤ 5; omega) fun h3 v3 k3 s3 => ?_
  have hc1 : ∀ q, q < h.size → putB col h b (s, 2) q = col q := fun q hq => putB_old hq
  have hcw : putB col h b (s, 2) w.block = some (s, 0) := by rw [hc1 _ v.lt]; exact W.col
  have f1 : Fresh h1 (putB col h b (s, 2)) := f.putB k.1 o'.hi
  have hw1 : ∀ q, q < h1.size → ∀ p, p ≠ 0 → (putB col h b (s, 2) q = none ∨ putB col h b (s, 2) q = some (s, p)) → q ≠ w.block := fun q hq p hp h2 => notW W hcw hp h2
  have o1 : OwnC elOpen h1 (putB col h b (s, 2)) (s, 1) 36 ob op.length oc op := o.keep k.w hc1 fun q hq _ => hq
  have o3 := o1.keep (h' := h3) (col' := putB col h b (s, 2)) k3.w (fun _ _ => rfl) fun q hq h2 => hw1 q hq 1 (by decide) h2
  have om1 : OwnC elMark h1 (putB col h b (s, 2)) (s, 2) 39 b n c mk' := o'.toC k.1
  have om3 := om1.keep (h' := h3) (col' := putB col h b (s, 2)) k3.w (fun _ _ => rfl) fun q hq h2 => hw1 q hq 2 (by decide) h2
  exact hk h3 ⟨⟨ob, oc, b, n, c, v3, o3, om3⟩, hcw, W.rh⟩
    ⟨(k.less fun q hq => hq.1).trans (k3.less fun q hq e => hq.2 s 0 rfl (by rw [e]; exact W.col)), hc1⟩ (fun q hq => f1 q (by rw [← s3]; exact hq)) (v3.cell 2 rfl)
theorem setOpen_k (W : WorldW h col s ty w t op mk fo hi) (f : Fresh h col) (k : KB h h1) {b : Option Addr} {n c : Nat} {op' : List OpenP} (o' : OwnA elOpen Non h1 h.size 36 b n c op') {Q : H → Prop}
    (hk : ∀ h', WorldW h' (putB col h b (s, 1)) s ty w t op' mk fo hi → ExtP (fun k => k = s) h col h' (putB col h b (s, 1)) → Fresh h' (putB col h b (s, 1)) → Q h') : stL (w.add 1) [.slice b n c] 0 h1 Q := by
  obtain ⟨ob, oc, mb, mn, mc, v, o, om⟩ := W.ex
  have hlen := o'.len
  refine stL_var (m := 1) (i := 0) (v.kb k) (by show 1 + 0 + 1 ≤ 5; omega) fun h3 v3 k3 s3 => ?_
  have hc1 : ∀ q, q < h.size → putB col h b (s, 1) q = col q := fun q hq => putB_old hq
  have hcw : putB col h b (s, 1) w.block = some (s, 0) := by rw [hc1 _ v.lt]; exact W.col
  have f1 : Fresh h1 (putB col h b (s, 1)) := f.putB k.1 o'.hi
  have hw1 : ∀ q, q < h1.size → ∀ p, p ≠ 0 → (putB col h b (s, 1) q = none ∨ putB col h b (s, 1) q = some (s, p)) → q ≠ w.block := fun q hq p hp h2 => notW W hcw hp h2
  have om1 : OwnC elMark h1 (putB col h b (s, 1)) (s, 2) 39 mb mn mc mk := om.keep k.w hc1 fun q hq _ => hq
  have om3 := om1.keep (h' := h3) (col' := putB col h b (s, 1)) k3.w (fun _ _ => rfl) fun q hq h2 => hw1 q hq 2 (by decide) h2
  have oA : OwnA elOpen (Free col h) h1 h.size 36 b n c op' := ⟨o'.own.flat flatOpen, o'.lo, o'.hi, o'.nil⟩
  have o1 : OwnC elOpen h1 (putB col h b (s, 1)) (s, 1) 36 b n c op' := oA.toC k.1
  have o3 := o1.keep (h' := h3) (col' := putB col h b (s, 1)) k3.w (fun _ _ => rfl) fun q hq h2 => hw1 q hq 1 (by decide) h2
  subst hlen
  exact hk h3 ⟨⟨b, c, mb, mn, mc, v3, o3, om3⟩, hcw, W.rh⟩
    ⟨(k.less fun q hq => hq.1).trans (k3.less fun q hq e => hq.2 s 0 rfl (by rw [e]; exact W.col)), hc1⟩ fun q hq => f1 q (by rw [← s3]; exact hq)
/-- a mark is of another element now -/
theorem setMarkId_k (W : WorldW h col s ty w t op mk fo hi) (f : Fresh h col) {a : Addr} {n c : Nat} (hc : cell h (w.add 2) = some (.slice (some a) n c)) {i : Nat} (hi1 : i < mk.length) {id : Int} (hid : Rng .i64 id) {Q : H → Prop}
    (hk : ∀ h', WorldW h' col s ty w t op (mk.set i (id, mk[i].2)) fo hi → ExtP (fun k => k = s) h col h' col → Fresh h' col → cell h' (w.add 2) = some (.slice (some a) n c) → Q h') : stL ((a.add (i * 3)).add 0) [.int .i64 id] 0 h Q := by
  obtain ⟨ob, oc, mb, mn, mc, v, o, om⟩ := W.ex
  have e1 : some (Value.slice (some a) n c) = some (.slice mb mn mc) := hc.symm.trans (v.cell 2 rfl)
  cases e1
  obtain ⟨xs, ow, en⟩ := om.own.own
  have hl := om.len
  rcases ow.is with ⟨h0, _⟩ | ⟨g, cur, ea, hbg, hg, hcs, htk⟩
  · omega
  cases ea
  have hgl : g < h.size := (Array.getElem?_eq_some_iff.1 hg).1
  have hxl : xs.length = n * 3 := ow.len
  have hcs : cur.size = c * 3 := hcs
  have htk : cur.toList.take (n * 3) = xs := htk
  have hcap := ow.cap
  have hin : i * 3 < n * 3 := by omega
  have ha : ((((⟨g, 0, none⟩ : Addr).add (i * 3)).add 0).add 0) = ⟨g, i * 3, none⟩ := by rw [add_zero', add_zero', addG]
  have hin2 : i * 3 < cur.size := by omega
  unfold stL
  rw [ha]
  refine ⟨⟨cur[i * 3], by unfold cell; simp only [hg]; simp [hin2]⟩, by unfold iced; simp only [hg]; simp, ?_⟩
  show Q (setc h ⟨g, i * 3, none⟩ (.int .i64 id))
  have hst : setc h ⟨g, i * 3, none⟩ (.int .i64 id) = h.setIfInBounds g (.cells (cur.setIfInBounds (i * 3) (.int .i64 id)) 39 (0, 0)) := by
    unfold setc
    apply Array.ext_getElem?
    intro k
    rw [Array.getElem?_modify, Array.getElem?_setIfInBounds]
    by_cases hk : g = k
    · subst hk
      rw [if_pos rfl, if_pos rfl, if_pos hgl, hg]; rfl
    · rw [if_neg hk, if_neg hk]
  have hcg := om.col _ rfl
  have hcg : col g = some (s, 2) := hcg
  have kx : KX g h (setc h ⟨g, i * 3, none⟩ (.int .i64 id)) := ⟨by rw [hst]; simp, fun k hk => by rw [hst, Array.getElem?_setIfInBounds, if_neg (fun e => hk e.symm)]⟩
  have hs : (setc h ⟨g, i * 3, none⟩ (.int .i64 id)).size = h.size := by rw [hst]; simp
  have hwg : w.block ≠ g := fun e => by have := W.col; rw [e, hcg] at this; cases this
  have v' : Var (setc h ⟨g, i * 3, none⟩ (.int .i64 id)) w ty [.pointer (some t), .slice ob op.length oc, .slice (some ⟨g, 0, none⟩) n c, .bool fo, .int .i64 hi] := v.keep kx.w hwg
  have o' := o.keep (h' := setc h ⟨g, i * 3, none⟩ (.int .i64 id)) (col' := col) kx.w (fun _ _ => rfl) fun k hk h2 e => by
    subst e
    rcases h2 with h2 | h2
    · rw [hcg] at h2; cases h2
    · rw [hcg] at h2; cases h2
  have hx : mk[i]? = some mk[i] := List.getElem?_eq_getElem hi1
  have en2 : Enc elMark (Free col h) h (mk.set i (id, mk[i].2)) (xs.set (i * 3 + 0) (.int .i64 id)) := Enc.set en hx (by decide) fun cs hR => by
    obtain ⟨c1, c2, e, h1, h2⟩ := hR
    rw [h1.1] at e
    subst e
    exact ⟨[.int .i64 id], c2, rfl, ⟨rfl, hid⟩, h2⟩
  have en3 : Enc elMark (Free col (setc h ⟨g, i * 3, none⟩ (.int .i64 id))) (setc h ⟨g, i * 3, none⟩ (.int .i64 id)) (mk.set i (id, mk[i].2)) (xs.set (i * 3 + 0) (.int .i64 id)) :=
    en2.keep (kx.w.less fun k hk e => by have h9 : col k = none := hk.1.1; rw [e, hcg] at h9; cases h9) fun k hk _ => ⟨hk.1, by rw [hs]; exact hk.2⟩
  refine hk _ ⟨⟨ob, oc, some ⟨g, 0, none⟩, n, c, v', o', ⟨⟨by rw [List.length_set]; exact hl, xs.set (i * 3 + 0) (.int .i64 id), ⟨by rw [List.length_set]; exact ow.len, ow.cap, ow.max, .inr ⟨g, cur.setIfInBounds (i * 3) (.int .i64 id), rfl, hbg, ?_, ?_, ?_⟩⟩, en3⟩, om.col, fun q e => by rw [hs]; exact om.hi q e, om.nil⟩⟩, W.col, W.rh⟩
    (ExtP.kx kx hcg rfl) (fun k hk => f k (by rw [← hs]; exact hk)) (v'.cell 2 rfl)
  · rw [hst, Array.getElem?_setIfInBounds, if_pos rfl, if_pos hgl]
  · rw [Array.size_setIfInBounds]; exact hcs
  · show (cur.setIfInBounds (i * 3) (.int .i64 id)).toList.take (n * 3) = _
    rw [Array.toList_setIfInBounds, set_take, htk]; rfl
end
/-! ### lists of open elements -/
theorem eqOpen (x y : OpenP) : eqAll (cellsO x) (cellsO y) = decide (x = y) := by
  obtain ⟨a, b, c, d⟩ := x
  obtain ⟨a', b', c', d'⟩ := y
  show ((a == a') && ((b == b') && ((c == c') && ((d == d') && true)))) = _
  rw [Bool.eq_iff_iff]
  simp [Prod.ext_iff]
section
variable {A B : Nat → Prop} {h : H} {K : Value → H → Prop} {b b2 : Option Addr} {n c n2 c2 : Nat}
theorem sameOpen_calls {l l2 : List OpenP} (r : Row elOpen A h b n c l) (r2 : Row elOpen B h b2 n2 c2 l2) (hk : K (.bool (decide (l = l2))) h) :
    HCalls Tryz.prog 47 ⟨[.slice b n c, .slice b2 n2 c2]⟩ h K := by
  refine Sx.r00_SameOpen.ok _ _ _ _ _ _ _ _ ?_
  have hl := r.len
  have hl2 := r2.len
  have hm : n ≤ maxLen := Nat.le_trans r.cap r.max
  simp only [maxLen] at hm
  refine spl (fun hn => ⟨n + 1, ?_⟩) fun hn => ?_
  · have key : ∀ k i, i + k = n → (∀ j (h1 : j < l.length) (h2 : j < l2.length), j < i → l[j] = l2[j]) →
        Sx.r00_SameOpen.n7_L (fun h => K (.bool true) h) (fun h => K (.bool true) h) (fun y4 h => K (.bool y4) h) (k + 1) b n c b2 n2 c2 (i : Int) h := by
      intro k
      induction k with
      | zero =>
        intro i hi hall
        refine splF (by omega) ?_
        have : l = l2 := list_eq_of (by omega) fun j h1 h2 => hall j h1 h2 (by omega)
        rw [decide_eq_true this] at hk
        exact hk
      | succ k ih =>
        intro i hi hall
        refine splT (by omega) (r.idxN (by omega) rfl fun a hA => ldOpen hA fun _ => r2.idxN (i := i) (by omega) rfl fun a2 hA2 => ldOpen hA2 fun _ => semR_neq (by kernel_rfl) (by rfl) (vBool_mk ?_))
        have e := eqOpen (l[i]'(by omega)) (l2[i]'(by omega))
        rw [e]
        refine condB (fun hd => ?_) fun hd => ⟨rng64 (by omega) (by omega), ih (i + 1) (by omega) fun j h1 h2 hj => ?_⟩
        · have : l ≠ l2 := fun e => by subst e; simp at hd
          rw [decide_eq_false this] at hk
          exact hk
        · by_cases e : j < i
          · exact hall j h1 h2 e
          · have : j = i := by omega
            subst this
            simpa using hd
    exact key n 0 (by omega) fun j _ _ hj => absurd hj (Nat.not_lt_zero _)
  · have : l ≠ l2 := fun e => hn (by rw [← hl, ← hl2, e])
    rw [decide_eq_false this] at hk
    exact hk
end
theorem goodInsertR {m : WM} (G : GoodT m.ns) {sp : Int} {nm : Bs} {at' : List AttrP} : GoodT (insertM m sp nm at').ns := (G.addM _ _ _ _ _).putM _ _ _
theorem insert_lenR {m : WM} (G : GoodT m.ns) {sp : Int} {nm : Bs} {at' : List AttrP} : (insertM m sp nm at').ns.length = m.ns.length + 1 := by
  show (putM _ _ _ _).1.length = _
  rw [put_len (G.addM _ _ _ _ _)]
  show (m.ns ++ [_]).length = _
  simp
/-! ### Note -/
noncomputable def noteW (m : WM) (tx : Bs) : WM := { m with ns := (putM (addM m.ns (bareM 3 0 [] [] tx)).1 (whereC m).1 (whereC m).2 m.ns.length).1 }
theorem row_nilN {A : Nat → Prop} {h : H} : Row elAttr A h none 0 0 [] := ⟨rfl, Nat.le_refl _, Nat.zero_le _, fun i x hx => by simp at hx⟩
section
variable {h : H} {K : Value → H → Prop} {col : Col} {w : Addr} {m : WM}
theorem note_callsW (p : PW h col w m) (G : GoodT m.ns) (hne : 0 < m.op.length) (hop : m.op.length < 1000000) (hns : m.ns.length < 1000000) {tx : Bs} (htx : tx.length ≤ maxLen)
    (hk : ∀ h' col', PW h' col' w (noteW m tx) → ExtP PS h col h' col' → K (.tuple ⟨[]⟩) h') :
    HCalls Tryz.prog 14 ⟨[.pointer (some w), S tx]⟩ h K := by
  obtain ⟨t, ads, T, W⟩ := p.ex
  refine Sx.place_World_Note.ok _ _ _ _ ?_
  refine current_calls W hne (by omega) fun h2 k2 => ?_
  refine agOpen (x := curM m.op) ?_
  refine where_calls (x := curM m.op) (T.kb k2) (W.kb k2) (by omega) fun h3 k3 => tupIIMk ?_
  have k13 := k2.trans k3
  obtain ⟨ob, oc, mb, mn, mc, vw, ow, omw⟩ := (W.kb k13).ex
  have G4 : GoodT (addM m.ns (bareM 3 0 [] [] tx)).1 := G.addM _ _ _ _ _
  have tail : ∀ h4 c4 ads4, TreeP h4 c4 0 t ads4 (addM m.ns (bareM 3 0 [] [] tx)).1 → Ext 0 h3 col h4 c4 → HCalls Tryz.prog 30 ⟨[.pointer (some t), .int .i64 (whereM m.ns m.op m.fo (curM m.op)).1, .int .i64 (whereM m.ns m.op m.fo (curM m.op)).2, .int .i64 (addM m.ns (bareM 3 0 [] [] tx)).2]⟩ h4 fun v40 h41 => vBool v40 fun b42 => cond b42 (K (.tuple ⟨[]⟩) h41) (K (.tuple ⟨[]⟩) h41) := fun h4 c4 ads4 T4 E4 => by
    refine put_calls T4 G4 fun h5 c5 T5 E5 => vBool_mk ?_
    have E4p : ExtP (fun s => s = 0) h3 col h4 c4 := E4.p rfl
    have E5p : ExtP (fun s => s = 0) h4 c4 h5 c5 := E5.p rfl
    have W5 := ((W.kb k13).ext E4p (by decide)).ext E5p (by decide)
    have fin : K (.tuple ⟨[]⟩) h5 := hk h5 c5 ⟨t, ads4, T5, W5⟩ ((ExtP.kb k13).trans ((E4p.trans E5p).mono fun s hs => .inl hs))
    exact condK (K := fun _ => K (.tuple ⟨[]⟩) h5) fin
  refine ⟨vSomeMk (vSomeMk ⟨_, vw.cell 0 rfl, make_calls (T.kb k13) (row_nilN (A := fun _ => True)) (fun _ => rfl) (by decide) ⟨by decide, by decide⟩ ⟨by decide, by decide⟩ (by decide) htx hns fun h4 c4 ads4 T4 E4 => vIntMk ?_⟩),
    vSomeMk ⟨_, vw.cell 0 rfl, vSomeMk ⟨_, vw.cell 0 rfl, make_calls (T.kb k13) (row_nilN (A := fun _ => True)) (fun _ => rfl) (by decide) ⟨by decide, by decide⟩ ⟨by decide, by decide⟩ (by decide) htx hns fun h4 c4 ads4 T4 E4 => vIntMk (tail h4 c4 ads4 T4 E4)⟩⟩⟩
  obtain ⟨ob4, oc4, mb4, mn4, mc4, vw4, _, _⟩ := ((W.kb k13).ext (S := fun s => s = 0) (E4.p rfl) (by decide)).ex
  exact ⟨_, vw4.cell 0 rfl, tail h4 c4 ads4 T4 E4⟩
end
end Go.Proofs
