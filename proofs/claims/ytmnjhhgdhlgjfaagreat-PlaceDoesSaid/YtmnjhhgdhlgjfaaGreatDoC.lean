/- dom: looking at a tree; New, Make, Copy. No condition. dom: Make, Copy. No condition. -/
import Derived.Test.YtmnjhhgdhlgjfaaGreatDoA
namespace Go.Proofs
open Go Go.Sh
set_option linter.unusedVariables false
set_option maxRecDepth 100000
/-! ### colours -/
/-- the row that a slice stands in now is coloured, if it is new -/
def putB (col : Col) (h : H) (b : Option Addr) (v : Nat × Nat) : Col := fun k => if h.size ≤ k ∧ (∃ q, b = some q ∧ q.block = k) then some v else col k
theorem putB_old {col : Col} {h : H} {b : Option Addr} {v : Nat × Nat} {k : Nat} (hk : k < h.size) : putB col h b v k = col k := if_neg fun e => by omega
theorem putB_at {col : Col} {h : H} {b : Option Addr} {v : Nat × Nat} {q : Addr} (hb : b = some q) (ho : q.block < h.size → col q.block = some v) : putB col h b v q.block = some v := by
  by_cases hk : q.block < h.size
  · rw [putB_old hk]; exact ho hk
  · exact if_pos ⟨by omega, q, hb, rfl⟩
theorem putB_far {col : Col} {h h' : H} {b : Option Addr} {v : Nat × Nat} {k : Nat} (hb : ∀ q, b = some q → q.block < h'.size) (hk : h'.size ≤ k) : putB col h b v k = col k := if_neg fun ⟨_, q, e, e2⟩ => by have := hb q e; omega
theorem _root_.Go.Sh.OwnF.appendN {α : Type} {E : El α} {t ty e by' : Nat} {P : Program} (ap : Apd P E t e by') {h : H} {sb rb : Option Addr} {n c m k base : Nat} {l l2 : List α} (o : OwnF E h base e sb n c l) (r : Row E (But h sb) h rb m k l2)
    (h63 : n + m ≤ maxLen) (hb : (n + m) * by' ≤ 140737488355328) (hbase : base ≤ h.size) {K : Value → H → Prop}
    (hk : ∀ b' c' h', OwnF E h' base e b' (n + m) c' (l ++ l2) → Grow h h' sb → NewB h sb b' → K (.slice b' (n + m) c') h') :
    SemH P (Builtin.append_ #[t, t] ty ⟨[.slice sb n c, .slice rb m k]⟩) h K := by
  refine OwnT.append ap o.own r h63 hb hbase (fun k hk _ => hk.2) fun b2 c2 h' o' hg hb h0 => hk b2 c2 h' ⟨?_, ?_, ?_, ?_⟩ hg fun q e => by
    rcases hb with rfl | rfl
    · exact .inl e
    · cases e; exact .inr (Nat.le_refl _)
  · refine o'.keep (Keep.refl (fun _ => True) _) (fun _ _ _ => trivial) (fun k hk' hks => ⟨hks, fun x hx => ?_⟩) fun _ _ _ _ => trivial
    rcases hb with rfl | rfl
    · exact hk'.2 x hx
    · cases hx
      have := hk'.1
      show h.size ≠ k
      omega
  · intro x hx
    rcases hb with rfl | rfl
    · exact o.lo x hx
    · cases hx; exact hbase
  · intro x hx
    rcases hb with rfl | rfl
    · exact Nat.lt_of_lt_of_le (o.hi x hx) hg.size
    · obtain ⟨xs, ho, _⟩ := o'.own
      rcases ho.is with h1 | ⟨g, cur, e1, _, hgg, _⟩
      · have := h0 h1.1
        exact Nat.lt_of_lt_of_le (o.hi x (this.1 ▸ hx)) hg.size
      · rw [hx] at e1; cases e1; exact (Array.getElem?_eq_some_iff.1 hgg).1
  · intro hbn
    have := o'.cap
    obtain ⟨xs, ho, _⟩ := o'.own
    rcases ho.is with h1 | ⟨g, cur, e1, _⟩
    · exact h1.2
    · rw [hbn] at e1; cases e1
theorem _root_.Go.Sh.Var.ownF1 {α : Type} {E : El α} {h : H} {a : Addr} {t : Nat} {cs : List Value} {x : α} (v : Var h a t cs) (hR : ∀ A, E.R A h x cs) : OwnF E h 0 t (some a) 1 1 [x] := by
  have hl := E.len _ _ _ _ (hR fun _ => True)
  refine ⟨⟨rfl, cs, ⟨by rw [hl]; simp, Nat.le_refl _, by decide, .inr ⟨a.block, ⟨cs⟩, congrArg some v.is, Nat.zero_le _, v.cells, by simp [hl], by rw [Nat.one_mul, ← hl]; exact List.take_length⟩⟩, ⟨cs, [], by simp, hR _, rfl⟩⟩, fun _ _ => Nat.zero_le _, fun q e => by cases e; exact v.lt, fun e => by cases e⟩
theorem _root_.Go.Sh.Var.cellZ {h : H} {a : Addr} {t : Nat} {cs : List Value} (v : Var h a t cs) (i : Nat) {x : Value} (hx : cs[i]? = some x) : cell h ((a.add 0).add i) = some x := by rw [add_zero']; exact v.cell i hx
theorem ldPtr {A : Nat → Prop} {h : H} {a x : Addr} {K : Option Addr → Prop} (hA : At elPtr A h a x) (hk : K (some x)) : ∃ p, cell h a = some (.pointer p) ∧ K p := by
  obtain ⟨_, cs, hR, h4⟩ := hA
  have hR : cs = [.pointer (some x)] := hR
  subst hR
  exact ⟨_, by have := h4 0 _ rfl; rwa [add_zero'] at this, hk⟩
theorem vPtrMk {p : Option Addr} {k : Option Addr → Prop} (h : k p) : vPtr (.pointer p) k := h
theorem vSomeMk {a : Addr} {k : Addr → Prop} (h : k a) : vSome (some a) k := h
/-! ### what trees answer -/
def plcP (kids : List Int) (kid : Int) : Int := if kid = -1 then (kids.length : Int) else idxP kids kid
/-- of a node what its kind has -/
def bareM (kind space : Int) (name : Bs) (attrs : List AttrP) (text : Bs) : Option NodeM :=
  if kind = 1 then some ⟨kind, space, name, attrs, [], -1, []⟩
  else if kind = 2 ∨ kind = 3 then some ⟨kind, 0, [], [], text, -1, []⟩
  else none
def addM (ns : List NodeM) : Option NodeM → List NodeM × Int
  | none => (ns, -1)
  | some x => (ns ++ [x], (ns.length : Int))
def rootM : NodeM := ⟨0, 0, [], [], [], -1, []⟩
section
variable {h : H} {K : Value → H → Prop} {col : Col} {s i : Nat} {t a : Addr} {ads : List Addr} {ns : List NodeM} {x : NodeM}
theorem at_calls (T : TreeP h col s t ads ns) {id : Int} (hno : ¬ (0 ≤ id ∧ id < ns.length) → K (.pointer none) h)
    (hyes : ∀ (i : Nat) a x, id = (i : Int) → ns[i]? = some x → ads[i]? = some a → K (.pointer (some a)) h) : HCalls Tryz.prog 51 ⟨[.pointer (some t), .int .i64 id]⟩ h K := by
  obtain ⟨lb, lc, v, o, hl⟩ := T.ex
  have hlen := T.len
  refine Sx.dom_Tree_at.ok _ _ _ _ (spl (fun e => hno (by omega)) fun e => vSomeMk ⟨_, _, _, v.cell 0 rfl, spl (fun e2 => hno (by omega)) fun e2 => vSomeMk ⟨_, _, _, v.cell 0 rfl, ?_⟩⟩)
  obtain ⟨i, rfl⟩ := Int.eq_ofNat_of_zero_le (show 0 ≤ id by omega)
  have hi : i < ads.length := by omega
  have hi2 : i < ns.length := by omega
  exact o.row.idxN hi rfl fun a hA => ldPtr hA (hyes i _ _ rfl (List.getElem?_eq_getElem hi2) (List.getElem?_eq_getElem hi))
theorem holder_calls (T : TreeP h col s t ads ns) {id : Int} (hno : ¬ (∃ (i : Nat) (x : NodeM), id = i ∧ ns[i]? = some x ∧ (i = 0 ∨ x.kind = 1)) → K (.pointer none) h)
    (hyes : ∀ (i : Nat) a x, id = (i : Int) → ns[i]? = some x → ads[i]? = some a → (i = 0 ∨ x.kind = 1) → K (.pointer (some a)) h) : HCalls Tryz.prog 56 ⟨[.pointer (some t), .int .i64 id]⟩ h K := by
  refine Sx.dom_Tree_holder.ok _ _ _ _ (at_calls T (fun hn => vPtrMk (ptrEq_k (by kernel_rfl) (vBool_mk (condT (hno ?_))))) fun i a x e hx ha => vPtrMk (ptrEq_k (by kernel_rfl) (vBool_mk (condF ?_))))
  · rintro ⟨i, x, rfl, hx, _⟩
    have := (List.getElem?_eq_some_iff.1 hx).1
    omega
  · subst e
    obtain ⟨ab, an, ac, kb, kn, kc, v, _⟩ := (T.nodes i x a hx ha).ex
    refine spl (fun e => vSomeMk ⟨_, v.cellZ 0 rfl, spl (fun e2 => hyes i a x rfl hx ha (.inr e2)) fun e2 => hno ?_⟩) fun e => hyes i a x rfl hx ha (.inl (by omega))
    rintro ⟨j, y, ej, hy, hor⟩
    have : i = j := by omega
    subst this
    rw [hx] at hy; cases hy
    rcases hor with h0 | h1
    · omega
    · exact e2 h1
theorem index_calls (N : NodeAt h col s i a x) {kid : Int} (hk : K (.int .i64 (plcP x.kids kid)) h) : HCalls Tryz.prog 57 ⟨[.pointer (some a), .int .i64 kid]⟩ h K := by
  obtain ⟨ab, an, ac, kb, kn, kc, v, ra, hz, ok, hc⟩ := N.ex
  have hl := ok.len
  unfold plcP at hk
  refine Sx.dom_node_index.ok _ _ _ _ (spl (fun e => vSomeMk ⟨_, _, _, v.cell 7 rfl, ?_⟩) fun e => vSomeMk ⟨_, _, _, v.cell 7 rfl, idxI_calls (ok.row (A := fun _ => True) fun _ _ => trivial) (vIntMk ?_)⟩)
  · rw [if_pos e, hl] at hk; exact hk
  · rw [if_neg e] at hk; exact hk
theorem parent_calls (T : TreeP h col s t ads ns) {id : Int} (hno : ¬ (0 ≤ id ∧ id < ns.length) → K (.int .i64 (-1)) h) (hyes : ∀ (i : Nat) x, id = (i : Int) → ns[i]? = some x → K (.int .i64 x.parent) h) :
    HCalls Tryz.prog 55 ⟨[.pointer (some t), .int .i64 id]⟩ h K := by
  refine Sx.dom_Tree_Parent.ok _ _ _ _ (at_calls T (fun hn => vPtrMk (ptrEq_k (by kernel_rfl) (vBool_mk (condT (hno hn))))) fun i a x e hx ha => vPtrMk (ptrEq_k (by kernel_rfl) (vBool_mk (condF ?_))))
  obtain ⟨ab, an, ac, kb, kn, kc, v, _⟩ := (T.nodes i x a hx ha).ex
  exact vSomeMk ⟨_, v.cell 6 rfl, hyes i x e hx⟩
theorem new_calls (hf : ∀ k, h.size ≤ k → col k = none) (hk : ∀ t h' col' ads, TreeP h' col' s t ads [rootM] → Ext s h col h' col' → K (.pointer (some t)) h') : HCalls Tryz.prog 26 ⟨[]⟩ h K := by
  refine Sx.dom_New.ok _ _ (newx_var fun a1 h1 v1 k1 e1 s1 => newx_var fun a2 h2 v2 k2 e2 s2 => newx_var fun a3 h3 v3 k3 e3 s3 => ?_)
  refine hk a3 h3 (fun k => if k = h.size then some (s, 2) else if k = h.size + 1 then some (s, 1) else if k = h.size + 2 then some (s, 0) else col k) [a1] ?_ ⟨SK.less ((k1.trans k2).trans k3) fun k hk => hk.1, fun k hk => ?_⟩
  · have o2 : OwnF elPtr h2 0 80 (some a2) 1 1 [a1] := v2.ownF1 fun _ => rfl
    refine ⟨⟨some a2, 1, v3, o2.kb k3, fun q e => by cases e; rw [if_neg (by omega), if_pos (by omega)]⟩, rfl, fun i x a hx ha => ?_, by rw [if_neg (by omega), if_neg (by omega), if_pos (by omega)], fun k hk => ?_, by decide⟩
    · cases i with
      | succ i => simp at hx
      | zero =>
        simp at hx ha
        subst hx; subst ha
        exact ⟨⟨none, 0, 0, none, 0, 0, (v1.kb k2).kb k3, ⟨rfl, Nat.le_refl _, Nat.zero_le _, fun i x hx => by simp [rootM] at hx⟩, fun _ => rfl, OwnI.none _, fun q e => by cases e⟩, by rw [if_pos e1], ⟨by decide, by decide⟩, ⟨by decide, by decide⟩, ⟨by decide, by decide⟩, by decide, Nat.zero_le _, Nat.zero_le _⟩
    · rw [if_neg (by omega), if_neg (by omega), if_neg (by omega)]; exact hf k (by omega)
  · show (if _ then _ else _) = _
    rw [if_neg (by omega), if_neg (by omega), if_neg (by omega)]
end
end Go.Proofs
namespace Go.Proofs
open Go Go.Sh
set_option linter.unusedVariables false
set_option maxRecDepth 100000
section
variable {h : H} {K : Value → H → Prop} {col : Col} {s i : Nat} {t a : Addr} {ads : List Addr} {ns : List NodeM} {x : NodeM}
theorem apdInt : Apd Tryz.prog (elInt .i64) 82 3 8 := apd_of (sz := 1) (by kernel_rfl) rfl
theorem cloneA_calls {A : Nat → Prop} {b : Option Addr} {n c : Nat} {l : List AttrP} (r : Row elAttr A h b n c l) (hz : b = none → c = 0) (hn : n ≤ 1000000) (hk : ∀ b' c' h', OwnF elAttr h' h.size 79 b' n c' l → KB h h' → K (.slice b' n c') h') :
    HCalls Tryz.prog 52 ⟨[.slice b n c]⟩ h K :=
  Sx.slices_Clone_apiAttr.ok _ _ _ _ _ (clone_k (Kr := fun b n c h => K (.slice b n c) h) apdAttr (by kernel_rfl) r hz hn (by decide) hk)
theorem flatAttr : Flat elAttr := fun _ _ _ _ _ _ ⟨c1, c2, e, r1, r2⟩ => ⟨c1, c2, e, r1, r2⟩
/-- a row of attributes that was made behind a place, free -/
theorem free_own {h0 h : H} {b : Option Addr} {n c : Nat} {l : List AttrP} (o : OwnF elAttr h h0.size 79 b n c l) (hf : ∀ k, h0.size ≤ k → col k = none) : Row elAttr (Free col h) h b n c l := by
  obtain ⟨xs, h1, h2⟩ := o.own.own
  have h2' : Enc elAttr (Free col h) h l xs := Enc.flat flatAttr h2
  by_cases hn : n = 0
  · subst hn
    have : l = [] := List.eq_nil_of_length_eq_zero o.own.len
    subst this
    exact ⟨rfl, h1.cap, h1.max, fun i x hx => by simp at hx⟩
  · exact Row.of h2' h1.cells o.own.len h1.cap h1.max fun q e => ⟨hf _ (o.lo q e), o.hi q e⟩
/-- a node that is new stands behind the others -/
theorem push_k (T : TreeP h col s t ads ns) (hx : Rng .u8 x.kind ∧ Rng .u8 x.space) (hpar : x.parent = -1) (hkids : x.kids = []) (hfa : x.attrs.length ≤ 1000000) (hfn : x.name.length ≤ maxLen) (hft : x.text.length ≤ maxLen) (hfew : ns.length < 1000000)
    {x3 : Addr} {tt : Nat} {ab kb : Option Addr} {an ac kn kc : Nat} (v : Var h x3 tt [.int .u8 x.kind, .int .u8 x.space, S x.name, .slice ab an ac, S x.text, .slice kb kn kc]) (hkb : kb = none ∧ kn = 0 ∧ kc = 0) (ra : Row elAttr (Free col h) h ab an ac x.attrs) (hz : ab = none → ac = 0)
    (hk : ∀ h' col' ads', TreeP h' col' s t ads' (ns ++ [x]) → Ext s h col h' col' → K (.int .i64 (ns.length : Int)) h') :
    Sx.dom_Tree_Make.n3 (some t) x3 (fun y4 h => K (.int .i64 y4) h) (fun y4 h => K (.int .i64 y4) h) h := by
  obtain ⟨rfl, rfl, rfl⟩ := hkb
  obtain ⟨lb, lc, vt, o, hl⟩ := T.ex
  have hlen := T.len
  have vtl := vt.lt
  refine vSomeMk ⟨_, _, _, vt.cell 0 rfl, _, v.cell 0 rfl, _, v.cell 1 rfl, _, v.cell 2 rfl, _, _, _, v.cell 3 rfl, _, v.cell 4 rfl, _, _, _, v.cell 5 rfl, newx_var fun a1 h1 v1 k1 e1 s1 => ⟨k1.ext, newx_var fun a2 h2 v2 k2 e2 s2 => ⟨k2.ext, ?_⟩⟩⟩
  have k12 : KB h h2 := k1.trans k2
  have o2 := o.kb k12
  have hlo := o.hi
  have r2 : Row elPtr (But h2 lb) h2 (some a2) 1 1 [a1] := v2.row1 (x := a1) (E := elPtr) (A := But h2 lb) rfl ⟨v2.lt, fun q e => by have := hlo q e; omega⟩
  refine OwnF.appendN apdPtr o2 r2 (by simp only [maxLen]; omega) (by omega) (Nat.zero_le _) fun b3 c3 h3 o3 g3 nb => vSliceMk ?_
  have hlb : ∀ q, lb = some q → col q.block = some (s, 1) := hl
  have vt2 := vt.kb k12
  have vt3 : Var h3 t 87 [.slice lb ns.length lc] := vt2.keep g3.keep.w ⟨vt2.lt, fun q e e2 => by have h1 := hlb q e; rw [e2, T.colt] at h1; cases h1⟩
  have sz3 := g3.size
  refine vSomeMk (stL_var (m := 0) (i := 0) vt3 (by show 0 + 0 + 1 ≤ 1; omega) fun h4 v4 k4 s4 => vSomeMk ⟨_, _, _, v4.cell 0 rfl, rngI (by omega) (by omega), ?_⟩)
  have en : (((ns.length + 1 : Nat) : Int) - 1) = (ns.length : Int) := by omega
  rw [en]
  have hb3 : ∀ q, b3 = some q → q.block < h3.size := o3.hi
  have hres := hk h4 (fun k => if k = h.size then some (s, 2 * ns.length + 2) else putB col h2 b3 (s, 1) k) (ads ++ [a1]) ?_ ⟨⟨by omega, fun k hk => ?_⟩, fun k hk => ?_⟩
  · exact hres
  · have hcol : ∀ k, k < h.size → (fun k => if k = h.size then some (s, 2 * ns.length + 2) else putB col h2 b3 (s, 1) k) k = col k := fun k hk => by
      show (if _ then _ else _) = _
      rw [if_neg (by omega), putB_old (by omega)]
    have kk : ∀ k, k < h2.size → k ≠ t.block → (∀ q, lb = some q → q.block ≠ k) → h4[k]? = h2[k]? := fun k h1 h2' h3' => (k4.2 k h2').trans (g3.old k h1 h3')
    refine ⟨⟨b3, c3, ?_, ?_, fun q e => ?_⟩, by simp [hlen], fun j y b hy hb => ?_, (hcol _ vtl).trans T.colt, fun k hk => ?_, by simp; omega⟩
    · have : setAll [Value.slice lb ns.length lc] (0 + 0) [Value.slice b3 (ns.length + 1) c3] = [Value.slice b3 (ns.length + 1) c3] := rfl
      rw [List.length_append]
      exact v4
    · rw [List.length_append]
      have ht3 : ∀ q, b3 = some q → q.block ≠ t.block := fun q e e2 => by
        rcases nb q e with h1 | h1
        · have := hlb q h1; rw [e2, T.colt] at this; cases this
        · omega
      refine ⟨?_, o3.lo, fun q e => by have := o3.hi q e; omega, o3.nil⟩
      obtain ⟨xs, h1, h2'⟩ := o3.own.own
      exact ⟨o3.own.len, xs, h1.keep k4.w fun g e _ hg => ht3 _ e, Enc.flat (fun _ _ _ _ _ _ h => h) h2'⟩
    · show (if _ then _ else _) = _
      rw [if_neg (by
        intro e2
        rcases nb q e with h1 | h1
        · have := hlo q h1; omega
        · omega)]
      exact putB_at e fun hlt => by
        rcases nb q e with h1 | h1
        · exact hlb q h1
        · omega
    · by_cases hj : j < ns.length
      · rw [List.getElem?_append_left hj] at hy
        rw [List.getElem?_append_left (by omega)] at hb
        refine (T.nodes j y b hy hb).keep (B := fun k => k < h.size ∧ k ≠ t.block ∧ ∀ q, lb = some q → q.block ≠ k) ⟨by omega, fun k hk o e hlp => ?_⟩ hcol fun k hk hor => ⟨hk, fun e => ?_, fun q e e2 => ?_⟩
        · rw [kk k (by omega) hk.2.1 hk.2.2, k12.2 k hk.1]; exact e
        · rw [e, T.colt] at hor; rcases hor with h1 | h1 | h1 <;> cases h1
        · have := hlb q e; rw [e2] at this; rw [this] at hor; rcases hor with h1 | h1 | h1 <;> cases h1
      · have hjn : j = ns.length := by
          have := (List.getElem?_eq_some_iff.1 hy).1
          simp at this; omega
        subst hjn
        rw [List.getElem?_append_right (Nat.le_refl _), Nat.sub_self] at hy
        rw [← hlen, List.getElem?_append_right (Nat.le_refl _), Nat.sub_self] at hb
        simp at hy hb
        subst hy; subst hb
        have v1' : Var h4 a1 84 (nodeC x ab an ac none 0 0) := by
          have e : nodeC x ab an ac none 0 0 = [.int .u8 x.kind, .int .u8 x.space, S x.name, .slice ab an ac, S x.text, .slice none 0 0, .int .i64 (-1), .slice none 0 0] := by unfold nodeC; rw [hpar]
          rw [e]
          refine ⟨v1.is, ?_⟩
          rw [kk a1.block (by omega) (by omega) (fun q e => by have := hlo q e; omega), (KB.w k2).2 a1.block v1.lt _ v1.cells rfl]
        refine ⟨⟨ab, an, ac, none, 0, 0, v1', ?_, hz, by rw [hkids]; exact OwnI.none _, fun q e => by cases e⟩, ?_, hx.1, hx.2, by rw [hpar]; exact ⟨by decide, by decide⟩, hfa, hfn, hft⟩
        · refine ra.keep (B := fun k => col k = none ∧ k < h.size) ⟨by omega, fun k hk o e hlp => ?_⟩ fun k hk hs => ⟨by rw [hcol k hs]; exact hk.1, by omega⟩
          have hk : col k = none ∧ k < h.size := hk.1
          rw [kk k (by omega) (fun e2 => by rw [e2, T.colt] at hk; cases hk.1) (fun q e2 e3 => by have := hlb q e2; rw [e3, hk.1] at this; cases this), k12.2 k hk.2]; exact e
        · show (if _ then _ else _) = _
          rw [if_pos (by omega)]
    · show (if _ then _ else _) = _
      rw [if_neg (by omega), putB_far (h' := h3) hb3 (by omega)]
      exact T.fresh k (by omega)
  · obtain ⟨hk1, hk2⟩ := hk
    rw [k4.2 k (fun e => hk2 0 (by rw [e]; exact T.colt)), g3.old k (by omega) (fun q e e2 => hk2 1 (by rw [← e2]; exact hlb q e))]
    exact k12.2 k hk1
  · show (if _ then _ else _) = _
    rw [if_neg (by omega), putB_old (by omega)]
theorem make_calls (T : TreeP h col s t ads ns) {kd sp : Int} {nm tx : Bs} {ab kb : Option Addr} {an ac kn kc : Nat} {attrs : List AttrP} {A : Nat → Prop} (r : Row elAttr A h ab an ac attrs) (hz : ab = none → ac = 0) (han : an ≤ 1000000) (hkd : Rng .u8 kd) (hsp : Rng .u8 sp) (hxn : nm.length ≤ maxLen) (hxt : tx.length ≤ maxLen) (hfew : ns.length < 1000000)
    (hk : ∀ h' col' ads', TreeP h' col' s t ads' (addM ns (bareM kd sp nm attrs tx)).1 → Ext s h col h' col' → K (.int .i64 (addM ns (bareM kd sp nm attrs tx)).2) h') :
    HCalls Tryz.prog 29 ⟨[.pointer (some t), .agg ⟨[.int .u8 kd, .int .u8 sp, S nm, .slice ab an ac, S tx, .slice kb kn kc]⟩]⟩ h K := by
  have hl := r.len
  refine Sx.dom_Tree_Make.ok _ _ _ _ _ _ _ _ _ _ _ _ _ (newx_var fun x3 h1 v1 k1 e1 s1 => ⟨_, v1.cell 0 rfl, ?_⟩)
  have plain : ∀ kd', kd' = kd → (kd = 2 ∨ kd = 3) → Sx.dom_Tree_Make.n10 (some t) x3 true (fun z0 z3 h => Sx.dom_Tree_Make.n3 z0 z3 (fun y4 h => K (.int .i64 y4) h) (fun y4 h => K (.int .i64 y4) h) h) (fun z0 z3 h => Sx.dom_Tree_Make.n3 z0 z3 (fun y4 h => K (.int .i64 y4) h) (fun y4 h => K (.int .i64 y4) h) h) (fun y4 h => K (.int .i64 y4) h) h1 := by
    intro kd' _ e23
    have eb : bareM kd sp nm attrs tx = some ⟨kd, 0, [], [], tx, -1, []⟩ := by unfold bareM; rw [if_neg (by omega), if_pos e23]
    rw [eb] at hk
    refine condT ⟨_, v1.cell 0 rfl, _, v1.cell 4 rfl, stL_var0 v1 (Nat.le_refl 6) fun h2 v2 k2 s2 => ?_⟩
    have kk : KB h h2 := KB.step k1 k2 (by omega)
    exact push_k (x := ⟨kd, 0, [], [], tx, -1, []⟩) (T.kb kk) ⟨hkd, (show Rng .u8 0 from ⟨by decide, by decide⟩)⟩ rfl rfl (Nat.zero_le _) (Nat.zero_le _) hxt hfew v2 ⟨rfl, rfl, rfl⟩ ⟨rfl, Nat.le_refl _, Nat.zero_le _, fun i x hx => by simp at hx⟩ (fun _ => rfl) fun h' col' ads' T' e' => hk h' col' ads' T' ((Ext.kb kk).trans e')
  refine spl (fun e => ?_) fun e => ?_
  · have eb : bareM kd sp nm attrs tx = some ⟨kd, sp, nm, attrs, [], -1, []⟩ := by unfold bareM; rw [if_pos e]
    rw [eb] at hk
    refine condT ⟨_, v1.cell 0 rfl, _, v1.cell 1 rfl, _, v1.cell 2 rfl, _, _, _, v1.cell 3 rfl, cloneA_calls (r.bel.keep ((KB.w k1).less fun k hk => hk.2) (B' := fun _ => True) fun _ _ _ => trivial) hz han fun b2 c2 h2 o2 k2 => vSliceMk ⟨k2.ext, stL_var0 (v1.kb k2) (Nat.le_refl 6) fun h3 v3 k3 s3 => ?_⟩⟩
    have kk : KB h h3 := KB.step (k1.trans k2) k3 (by omega)
    have o3 : OwnF elAttr h3 h1.size 79 b2 an c2 attrs := o2.flatK k3 flatAttr fun g hg => by omega
    exact push_k (x := ⟨kd, sp, nm, attrs, [], -1, []⟩) (T.kb kk) ⟨hkd, hsp⟩ rfl rfl (by show attrs.length ≤ _; omega) hxn (Nat.zero_le _) hfew v3 ⟨rfl, rfl, rfl⟩ (free_own o3 fun k hk => T.fresh k (by omega)) o3.nil fun h' col' ads' T' e' => hk h' col' ads' T' ((Ext.kb kk).trans e')
  · refine condF (spl (fun e2 => plain kd rfl (.inl e2)) fun e2 => spl (fun e3 => plain kd rfl (.inr e3)) fun e3 => condF ?_)
    have eb : bareM kd sp nm attrs tx = none := by unfold bareM; rw [if_neg e, if_neg (by omega)]
    rw [eb] at hk
    exact hk h1 col ads (T.kb k1) (Ext.kb k1)
def copyM (ns : List NodeM) (id : Int) : List NodeM × Int :=
  if 0 ≤ id ∧ id < ns.length then addM ns ((ns[id.toNat]?).bind fun x => bareM x.kind x.space x.name x.attrs x.text) else (ns, -1)
end
end Go.Proofs
