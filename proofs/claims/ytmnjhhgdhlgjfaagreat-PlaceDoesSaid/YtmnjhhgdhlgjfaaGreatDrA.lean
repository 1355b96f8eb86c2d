/- dom: the chapter's tree in memory: one row of nodes. No condition. dom: the chapter's tree: what is stored, and a node behind the others. No condition. dom: the chapter's tree: New, bare, Make, Copy. No condition. -/
import Derived.Test.YtmnjhhgdhlgjfaaGreatDoJ
import Derived.Test.YtmnjhhgdhlgjfaaGreatTxD
namespace Go.Proofs
open Go Go.Sh
set_option linter.unusedVariables false
set_option maxRecDepth 100000
/-- a node and its slices -/
structure RawN where
  x : NodeM
  ab : Option Addr
  an : Nat
  ac : Nat
  kb : Option Addr
  kn : Nat
  kc : Nat
def rawC (r : RawN) : List Value := nodeC r.x r.ab r.an r.ac r.kb r.kn r.kc
def elRaw : El RawN where
  sz := 8
  R := fun _ _ r cs => cs = rawC r
  len := fun _ _ _ _ h => by rw [h]; rfl
  one := fun _ _ _ _ h v hv => by
    rw [h] at hv
    simp only [rawC, nodeC, List.mem_cons, List.not_mem_nil, or_false] at hv
    rcases hv with rfl | rfl | rfl | rfl | rfl | rfl | rfl | rfl <;> rfl
  keep := fun _ _ _ _ _ _ h _ _ => h
  pos := by decide
theorem flatRaw : Flat elRaw := fun _ _ _ _ _ _ h => h
theorem apdRaw : Apd Tryz.prog elRaw 91 90 120 := apd_of (sz := 8) (by kernel_rfl) rfl
structure RawAt (h : H) (col : Col) (s i : Nat) (r : RawN) : Prop where
  ra : Row elAttr (Free col h) h r.ab r.an r.ac r.x.attrs
  az : r.ab = none → r.ac = 0
  ok : OwnI h r.kb r.kn r.kc r.x.kids
  hkc : ∀ q, r.kb = some q → col q.block = some (s, 2 * i + 3)
  rk : Rng .u8 r.x.kind
  rs : Rng .u8 r.x.space
  rp : Rng .i64 r.x.parent
  fa : r.x.attrs.length ≤ 1000000
  fn : r.x.name.length ≤ maxLen
  ft : r.x.text.length ≤ maxLen
structure RefC (h : H) (col : Col) (s : Nat) (t : Addr) (lb : Option Addr) (lc : Nat) (rs : List RawN) : Prop where
  v : Var h t 93 [.slice lb rs.length lc]
  o : OwnF elRaw h 0 90 lb rs.length lc rs
  hl : ∀ q, lb = some q → col q.block = some (s, 1)
  nodes : ∀ (i : Nat) r, rs[i]? = some r → RawAt h col s i r
  colt : col t.block = some (s, 0)
  fresh : ∀ k, h.size ≤ k → col k = none
  few : rs.length ≤ 1000000
def RefP (h : H) (col : Col) (s : Nat) (t : Addr) (ns : List NodeM) : Prop := ∃ lb lc rs, RefC h col s t lb lc rs ∧ rs.map (·.x) = ns
section
variable {h h' : H} {K : Value → H → Prop} {col col' : Col} {s i p : Nat} {t a : Addr} {ns : List NodeM} {x y : NodeM} {lb : Option Addr} {lc : Nat} {rs : List RawN} {r : RawN}
theorem RawAt.keep (N : RawAt h col s i r) {B : Nat → Prop} (k : Keep B h h') (hc : ∀ k, k < h.size → col' k = col k) (hB : ∀ k, k < h.size → (col k = none ∨ col k = some (s, 2 * i + 3)) → B k) : RawAt h' col' s i r :=
  ⟨N.ra.keep (k.less fun q hq => hB q hq.1.2 (.inl hq.1.1)) (fun q hq hs => ⟨by rw [hc q hs]; exact hq.1, Nat.lt_of_lt_of_le hs k.1⟩), N.az, N.ok.keep k fun q e => hB _ (N.ok.hi q e) (.inr (N.hkc q e)), fun q e => by rw [hc _ (N.ok.hi q e)]; exact N.hkc q e, N.rk, N.rs, N.rp, N.fa, N.fn, N.ft⟩
theorem RefC.keep (T : RefC h col s t lb lc rs) {B : Nat → Prop} (k : Keep B h h') (hc : ∀ k, k < h.size → col' k = col k) (hf : ∀ k, h'.size ≤ k → col' k = none) (hB : ∀ k, k < h.size → (col k = none ∨ ∃ p, col k = some (s, p)) → B k) : RefC h' col' s t lb lc rs := by
  refine ⟨T.v.keep k (hB _ T.v.lt (.inr ⟨_, T.colt⟩)), ?_, fun q e => by rw [hc _ (T.o.hi q e)]; exact T.hl q e, fun i r hr => (T.nodes i r hr).keep k hc fun q hq hor => hB q hq (by rcases hor with h | h; exact .inl h; exact .inr ⟨_, h⟩), by rw [hc _ T.v.lt]; exact T.colt, hf, T.few⟩
  refine ⟨?_, T.o.lo, fun q e => Nat.lt_of_lt_of_le (T.o.hi q e) k.1, T.o.nil⟩
  obtain ⟨xs, h1, h2⟩ := T.o.own.own
  exact ⟨T.o.own.len, xs, h1.keep k fun g e _ hg => hB _ hg (.inr ⟨_, T.hl _ e⟩), Enc.flat flatRaw h2⟩
theorem RefC.kw (T : RefC h col s t lb lc rs) (k : KW h h') : RefC h' col s t lb lc rs := T.keep k (fun _ _ => rfl) (fun k' hk => T.fresh k' (Nat.le_trans k.1 hk)) fun k hk _ => hk
theorem RefC.kb (T : RefC h col s t lb lc rs) (k : KB h h') : RefC h' col s t lb lc rs := T.kw (KB.w k)
theorem RefC.other {s' : Nat} (T : RefC h col s t lb lc rs) (hs : s ≠ s') (e : Ext s' h col h' col') (hf : ∀ k, h'.size ≤ k → col' k = none) : RefC h' col' s t lb lc rs :=
  T.keep e.sk.w e.cl hf fun k hk hor => ⟨hk, fun p e => by
    rcases hor with h | ⟨q, h⟩
    · rw [h] at e; cases e
    · rw [h] at e; cases e; exact hs rfl⟩
theorem RefP.kb (T : RefP h col s t ns) (k : KB h h') : RefP h' col s t ns := by
  obtain ⟨lb, lc, rs, C, e⟩ := T
  exact ⟨lb, lc, rs, C.kb k, e⟩
theorem RefP.other {s' : Nat} (T : RefP h col s t ns) (hs : s ≠ s') (e : Ext s' h col h' col') (hf : ∀ k, h'.size ≤ k → col' k = none) : RefP h' col' s t ns := by
  obtain ⟨lb, lc, rs, C, e2⟩ := T
  exact ⟨lb, lc, rs, C.other hs e hf, e2⟩
theorem RefP.few (T : RefP h col s t ns) : ns.length ≤ 1000000 := by
  obtain ⟨lb, lc, rs, C, rfl⟩ := T
  rw [List.length_map]; exact C.few
theorem RefP.fresh (T : RefP h col s t ns) : ∀ k, h.size ≤ k → col k = none := by
  obtain ⟨lb, lc, rs, C, rfl⟩ := T
  exact C.fresh
theorem RefC.upd (T : RefC h col s t lb lc rs) {r' : RawN} (o : OwnF elRaw h' 0 90 lb rs.length lc (rs.set i r')) (k : SK (fun k => k < h.size ∧ ∀ p, col k = some (s, p) → p ≠ 1 ∧ p ≠ 2 * i + 3) h h') (hc : ∀ k, k < h.size → col' k = col k) (hf : ∀ k, h'.size ≤ k → col' k = none) (hn : RawAt h' col' s i r') :
    RefC h' col' s t lb lc (rs.set i r') := by
  have kp := k.w
  refine ⟨by rw [List.length_set]; exact T.v.keep kp ⟨T.v.lt, fun p e => by rw [T.colt] at e; cases e; omega⟩, by rw [List.length_set]; exact o, fun q e => by rw [hc _ (T.o.hi q e)]; exact T.hl q e, fun j r hr => ?_, by rw [hc _ T.v.lt]; exact T.colt, hf, by rw [List.length_set]; exact T.few⟩
  by_cases hij : i = j
  · subst hij
    by_cases hlt : i < rs.length
    · rw [List.getElem?_set_self hlt] at hr; cases hr
      exact hn
    · have := getI hr
      rw [List.length_set] at this
      omega
  · rw [List.getElem?_set_ne hij] at hr
    exact (T.nodes j r hr).keep kp hc fun q hq hor => ⟨hq, fun p e => by
      rcases hor with h | h
      · rw [h] at e; cases e
      · rw [h] at e; cases e; omega⟩
theorem map_get (e : rs.map (·.x) = ns) (hx : ns[i]? = some x) : ∃ r, rs[i]? = some r ∧ r.x = x := by
  subst e
  rw [List.getElem?_map] at hx
  cases hr : rs[i]? with
  | none => rw [hr] at hx; cases hx
  | some r => rw [hr] at hx; cases hx; exact ⟨r, rfl, rfl⟩
/-! ### what is read -/
theorem rf_el (C : RefC h col s t lb lc rs) (hr : rs[i]? = some r) {Q : Addr → Prop} (hq : ∀ a, (∀ (j : Nat) v, (rawC r)[j]? = some v → cell h ((a.add (Int.toNat (i : Int) * 8)).add j) = some v) → Q a) :
    (0 ≤ (i : Int) ∧ (i : Int) < (rs.length : Int)) ∧ vSome lb Q := by
  have hi := getI hr
  have hg : rs[i]'hi = r := Option.some.inj ((List.getElem?_eq_getElem hi).symm.trans hr)
  exact (C.o.rowAt flatRaw (Keep.refl (fun _ => True) h) (fun _ _ => trivial)).idxN hi rfl fun a hA => hq a fun j v hj => by
    obtain ⟨_, cs, hR, hc⟩ := hA
    have hR : cs = rawC rs[i] := hR
    rw [hg] at hR
    exact hc j v (by rw [hR]; exact hj)
theorem rf_rd (C : RefC h col s t lb lc rs) (hr : rs[i]? = some r) {Q : Addr → Prop} (hq : ∀ a, (∀ (j : Nat) v, (rawC r)[j]? = some v → cell h ((a.add (Int.toNat (i : Int) * 8)).add j) = some v) → Q a) :
    vSome (some t) fun a => ∃ b n c, cell h (a.add 0) = some (.slice b n c) ∧ ((0 ≤ (i : Int) ∧ (i : Int) < (n : Int)) ∧ vSome b Q) := vSomeMk ⟨_, _, _, C.v.cell 0 rfl, rf_el C hr hq⟩
theorem there_r (T : RefP h col s t ns) {id : Int} (hk : K (.bool (decide (0 ≤ id ∧ id < ns.length))) h) : HCalls Tryz.prog 67 ⟨[.pointer (some t), .int .i64 id]⟩ h K := by
  obtain ⟨lb, lc, rs, C, rfl⟩ := T
  rw [List.length_map] at hk
  refine Sx.r10_Tree_there.ok _ _ _ _ (spl (fun e => vSomeMk ⟨_, _, _, C.v.cell 0 rfl, spl (fun e2 => ?_) fun e2 => ?_⟩) fun e => ?_)
  · rw [decide_eq_true ⟨e, e2⟩] at hk; exact hk
  · rw [decide_eq_false (fun h => e2 h.2)] at hk; exact hk
  · rw [decide_eq_false (fun h => e h.1)] at hk; exact hk
theorem holds_r (T : RefP h col s t ns) {id : Int} (hk : K (.bool (holdB ns id)) h) : HCalls Tryz.prog 66 ⟨[.pointer (some t), .int .i64 id]⟩ h K := by
  refine Sx.r10_Tree_holds.ok _ _ _ _ (there_r T (vBool_mk (condB (fun e => ?_) fun e => ?_)))
  · have e := of_decide_eq_true e
    obtain ⟨i, rfl⟩ := Int.eq_ofNat_of_zero_le e.1
    have hx : ns[i]? = some (ns[i]'(by omega)) := List.getElem?_eq_getElem (by omega)
    have eh : holdB ns (i : Int) = decide ((i : Int) = 0 ∨ (ns[i]'(by omega)).kind = 1) := by
      unfold holdB
      rw [decide_eq_true e, Int.toNat_natCast, hx]
      rfl
    have hk : K (.bool (holdB ns (i : Int))) h := hk
    rw [eh] at hk
    obtain ⟨lb, lc, rs, C, em⟩ := T
    obtain ⟨r, hr, ex⟩ := map_get em hx
    refine spl (fun e0 => ?_) fun e0 => rf_rd C hr fun a hc => ⟨_, hc 0 _ rfl, spl (fun e1 => ?_) fun e1 => ?_⟩
    · rw [decide_eq_true (Or.inl e0)] at hk; exact hk
    · rw [decide_eq_true (Or.inr (by rw [← ex]; exact e1))] at hk; exact hk
    · rw [decide_eq_false (fun hh => hh.elim e0 fun h2 => e1 (by rw [ex]; exact h2))] at hk; exact hk
  · have e := of_decide_eq_false e
    unfold holdB at hk
    rw [decide_eq_false e] at hk
    exact hk
theorem place_r (T : RefP h col s t ns) (hy : ns[p]? = some y) {kid : Int} (hk : K (.int .i64 (plcP y.kids kid)) h) : HCalls Tryz.prog 69 ⟨[.pointer (some t), .int .i64 (p : Int), .int .i64 kid]⟩ h K := by
  obtain ⟨lb, lc, rs, C, em⟩ := T
  obtain ⟨r, hr, rfl⟩ := map_get em hy
  have N := C.nodes p r hr
  have hl := N.ok.len
  have hm := N.ok.own.cap
  have hm2 := N.ok.own.max
  simp only [maxLen] at hm2
  refine Sx.r10_Tree_place.ok _ _ _ _ _ (rf_rd C hr fun a hc => ⟨_, _, _, hc 7 _ rfl, spl (fun e => ?_) fun e => ⟨r.kn + 1, ?_⟩⟩)
  · unfold plcP at hk
    rw [if_pos e, hl] at hk
    exact hk
  · unfold plcP idxP at hk
    rw [if_neg e] at hk
    have R := N.ok.row (A := fun _ => True) fun _ _ => trivial
    have key : ∀ N i, i + N = r.kn → kid ∉ r.x.kids.take i → Sx.r10_Tree_place.n8_L (fun h => Sx.r10_Tree_place.n5 (fun y6 h => K (.int .i64 y6) h) (fun y6 h => K (.int .i64 y6) h) h) (fun h => Sx.r10_Tree_place.n5 (fun y6 h => K (.int .i64 y6) h) (fun y6 h => K (.int .i64 y6) h) h) (fun y6 h => K (.int .i64 y6) h) (N + 1) kid r.kb r.kn r.kc (i : Int) h := by
      intro N
      induction N with
      | zero =>
        intro i hi hn
        unfold Sx.r10_Tree_place.n8_L
        refine splF (by omega) ?_
        rw [List.take_of_length_le (by omega)] at hn
        rw [if_neg hn] at hk
        exact hk
      | succ N ih =>
        intro i hi hn
        have hil : i < r.x.kids.length := by omega
        unfold Sx.r10_Tree_place.n8_L
        refine splT (by omega) (R.idxN hil rfl fun q hA => ldI hA fun _ => spl (fun e2 => ?_) fun e2 => ⟨rngI (by omega) (by omega), ih (i + 1) (by omega) ?_⟩)
        · have hmem : kid ∈ r.x.kids := by rw [← e2]; exact List.getElem_mem hil
          rw [if_pos hmem, idxN_at hn (by rw [← e2]; exact List.getElem?_eq_getElem hil)] at hk
          exact hk
        · rw [List.take_add_one, List.getElem?_eq_getElem hil]
          intro hm
          rcases List.mem_append.1 hm with hm | hm
          · exact hn hm
          · simp at hm
            exact e2 hm.symm
    exact key r.kn 0 (by omega) (by simp)
theorem within_r (T : RefP h col s t ns) (G : GoodT ns) {id of : Int} (hid : id < ns.length) (hk : K (.bool (withinP ns id of)) h) : HCalls Tryz.prog 68 ⟨[.pointer (some t), .int .i64 id, .int .i64 of]⟩ h K := by
  obtain ⟨M, hM⟩ := G.end_ex id
  obtain ⟨lb, lc, rs, C, em⟩ := T
  have hT : ∀ {b : Bool}, (InC ns id of ↔ b = true) → withinP ns id of = b := fun {b} hb => by
    unfold withinP
    cases b with
    | true => exact @decide_eq_true _ (Classical.propDecidable _) (hb.2 rfl)
    | false => exact @decide_eq_false _ (Classical.propDecidable _) fun h => by have := hb.1 h; cases this
  refine Sx.r10_Tree_within.ok _ _ _ _ _ ⟨M + 1, ?_⟩
  have key : ∀ N (i : Int), i < ns.length → endP ns N i → (InC ns id of ↔ InC ns i of) → Sx.r10_Tree_within.n5_L (fun h => Sx.r10_Tree_within.n3 (fun y6 h => K (.bool y6) h) (fun y6 h => K (.bool y6) h) h) (fun h => Sx.r10_Tree_within.n3 (fun y6 h => K (.bool y6) h) (fun y6 h => K (.bool y6) h) h) (fun y6 h => K (.bool y6) h) (N + 1) (some t) i of h := by
    intro N
    induction N with
    | zero =>
      intro i hi he hiff
      unfold Sx.r10_Tree_within.n5_L
      have he : i < 0 := he
      refine splF (by omega) ?_
      rw [hT (b := false) (hiff.trans ⟨fun h => absurd h (inC_neg he), fun h => by cases h⟩)] at hk
      exact hk
    | succ N ih =>
      intro i hi he hiff
      unfold Sx.r10_Tree_within.n5_L
      refine spl (fun h0 => ?_) fun h0 => ?_
      · obtain ⟨j, rfl⟩ := Int.eq_ofNat_of_zero_le (show 0 ≤ i by omega)
        have hj : ns[j]? = some (ns[j]'(by omega)) := List.getElem?_eq_getElem (by omega)
        obtain ⟨r, hr, ex⟩ := map_get em hj
        refine spl (fun e => ?_) fun e => rf_rd C hr fun a hc => ⟨_, hc 6 _ rfl, ih r.x.parent ?_ ?_ ?_⟩
        · rw [hT (b := true) (hiff.trans ⟨fun _ => rfl, fun _ => inC_step.2 (.inl e.symm)⟩)] at hk
          exact hk
        · rw [ex]
          rcases G.par j _ hj with h1 | h1 <;> omega
        · rcases he with he | he
          · have : ((Int.ofNat j : Int)) < 0 := he
            omega
          · have he : endP ns N (parI ns (j : Int)) := he
            rw [parI_some hj] at he
            rw [ex]
            exact he
        · refine hiff.trans ((inC_step (j := j)).trans ⟨fun h => ?_, fun h => Or.inr ?_⟩)
          · rcases h with h | h
            · exact absurd h.symm e
            · rw [parI_some hj] at h; rw [ex]; exact h
          · rw [parI_some hj, ← ex]; exact h
      · rw [hT (b := false) (hiff.trans ⟨fun h => absurd h (inC_neg (by omega)), fun h => by cases h⟩)] at hk
        exact hk
  exact key M id hid hM Iff.rfl
theorem parent_r (T : RefP h col s t ns) {id : Int} (hk : K (.int .i64 (parI ns id)) h) (hneg : id < 0 → parI ns id = -1) : HCalls Tryz.prog 64 ⟨[.pointer (some t), .int .i64 id]⟩ h K := by
  refine Sx.r10_Tree_Parent.ok _ _ _ _ (there_r T (vBool_mk (condB (fun e => ?_) fun e => ?_)))
  · have e := of_decide_eq_true e
    obtain ⟨i, rfl⟩ := Int.eq_ofNat_of_zero_le e.1
    have hx : ns[i]? = some (ns[i]'(by omega)) := List.getElem?_eq_getElem (by omega)
    obtain ⟨lb, lc, rs, C, em⟩ := T
    obtain ⟨r, hr, ex⟩ := map_get em hx
    refine rf_rd C hr fun a hc => ⟨_, hc 6 _ rfl, ?_⟩
    have hk : K (.int .i64 (parI ns (i : Int))) h := hk
    rw [parI_some hx, ← ex] at hk
    exact hk
  · have e := of_decide_eq_false e
    by_cases h0 : id < 0
    · rw [hneg h0] at hk; exact hk
    · have : parI ns id = -1 := by
        unfold parI
        rw [List.getElem?_eq_none (by omega)]
        rfl
      rw [this] at hk
      exact hk
end
end Go.Proofs
namespace Go.Proofs
open Go Go.Sh
set_option linter.unusedVariables false
set_option maxRecDepth 100000
theorem ints_enc : ∀ {A : Nat → Prop} {h : H} {l : List Int} {xs : List Value}, Enc (elInt .i64) A h l xs → xs = l.map (Value.int .i64) ∧ ∀ x ∈ l, Rng .i64 x
  | A, h, [], xs, e => by
    have e : xs = [] := e
    subst e; exact ⟨rfl, fun x hx => by cases hx⟩
  | A, h, x :: l, xs, e => by
    obtain ⟨c1, c2, rfl, ⟨rfl, hr⟩, e2⟩ := e
    obtain ⟨rfl, h2⟩ := ints_enc e2
    exact ⟨rfl, fun y hy => by
      rcases List.mem_cons.1 hy with rfl | hy
      · exact hr
      · exact h2 y hy⟩
theorem ownI_of {h : H} {base n c : Nat} {b : Option Addr} {l : List Int} (o : OwnF (elInt .i64) h base 3 b n c l) : OwnI h b n c l := by
  obtain ⟨xs, h1, h2⟩ := o.own.own
  obtain ⟨rfl, hr⟩ := ints_enc h2
  exact ⟨⟨h1.len, h1.cap, h1.max, h1.is.imp id fun ⟨g, cur, e1, _, e3⟩ => ⟨g, cur, e1, Nat.zero_le _, e3⟩⟩, hr, o.nil, o.hi⟩
/-- a row that is new grows by what stood before -/
theorem app_new {α : Type} {E : El α} {t ty e by' : Nat} (ap : Apd Tryz.prog E t e by') {h0 h : H} {b b2 : Option Addr} {n c m k : Nat} {l l2 : List α} {K : Value → H → Prop} (kb : KB h0 h) (o : OwnF E h h0.size e b n c l) (r : Row E (Bel h0.size) h b2 m k l2) (hn : n + m ≤ 2000000) (hb : by' ≤ 1000)
    (hk : ∀ b' c' h', OwnF E h' h0.size e b' (n + m) c' (l ++ l2) → KB h0 h' → K (.slice b' (n + m) c') h') : SemH Tryz.prog (Builtin.append_ #[t, t] ty ⟨[.slice b n c, .slice b2 m k]⟩) h K := by
  have k1 := kb.1
  refine OwnF.append ap o (r.keep (Keep.refl _ _) fun q hq hs => ⟨hs, fun x hx => ?_⟩) (by simp only [maxLen]; omega) ?_ k1 fun b' c' h' o' g' => hk b' c' h' o' (g'.kb0 kb fun q e => o.lo q e)
  · have := o.lo x hx
    have hq : q < h0.size := hq
    omega
  · have : (n + m) * by' ≤ 2000000 * 1000 := Nat.mul_le_mul hn hb
    omega
theorem ownRaw_keep {h h' : H} {B : Nat → Prop} {b : Option Addr} {n c : Nat} {rs : List RawN} (o : OwnF elRaw h 0 90 b n c rs) (k : Keep B h h') (hB : ∀ q, b = some q → B q.block) : OwnF elRaw h' 0 90 b n c rs := by
  refine ⟨?_, o.lo, fun q e => Nat.lt_of_lt_of_le (o.hi q e) k.1, o.nil⟩
  obtain ⟨xs, h1, h2⟩ := o.own.own
  exact ⟨o.own.len, xs, h1.keep k fun g e _ hg => hB _ e, Enc.flat flatRaw h2⟩
section
variable {h h' : H} {K : Value → H → Prop} {col col' : Col} {s i p : Nat} {t a : Addr} {ns : List NodeM} {x y : NodeM} {lb : Option Addr} {lc : Nat} {rs : List RawN} {r : RawN}
/-- a field of a node that holds no row is stored -/
theorem ref_field (C : RefC h col s t lb lc rs) (hr : rs[i]? = some r) {f : Nat} {v : Value} {r' : RawN} (hf : f < 8) (hv : oneC v = true) (hw : (rawC r).set f v = rawC r')
    (same : r'.ab = r.ab ∧ r'.an = r.an ∧ r'.ac = r.ac ∧ r'.kb = r.kb ∧ r'.kn = r.kn ∧ r'.kc = r.kc ∧ r'.x.attrs = r.x.attrs ∧ r'.x.kids = r.x.kids)
    (good : Rng .u8 r'.x.kind ∧ Rng .u8 r'.x.space ∧ Rng .i64 r'.x.parent ∧ r'.x.name.length ≤ maxLen ∧ r'.x.text.length ≤ maxLen) {Q : H → Prop}
    (hk : ∀ h', RefC h' col s t lb lc (rs.set i r') → Ext s h col h' col → SK (fun k => col k ≠ some (s, 1)) h h' → Q h') :
    (0 ≤ (i : Int) ∧ (i : Int) < (rs.length : Int)) ∧ vSome lb fun a => stL ((a.add (Int.toNat (i : Int) * 8)).add f) [v] 0 h Q := by
  have N := C.nodes i r hr
  refine ownF_setF flatRaw C.o hr (z := 8) rfl hf hv (x' := r') (fun A h cs e => by have e : cs = rawC r := e; subst e; exact hw) fun a h2 ea o2 k2 s2 hb => ?_
  have hla : col a.block = some (s, 1) := C.hl a ea
  have sk : SK (fun k => col k ≠ some (s, 1)) h h2 := k2.less fun k hk e => hk (by rw [e]; exact hla)
  refine hk h2 (C.upd o2 (k2.less fun k hk e => (hk.2 1 (by rw [e]; exact hla)).1 rfl) (fun _ _ => rfl) (fun k hk => C.fresh k (by omega)) ?_) ⟨k2.less fun k hk e => hk.2 1 (by rw [e]; exact hla), fun _ _ => rfl⟩ sk
  obtain ⟨x', ab, an, ac, kb, kn, kc⟩ := r'
  obtain ⟨rfl, rfl, rfl, rfl, rfl, rfl, e7, e8⟩ := same
  obtain ⟨g1, g2, g3, g4, g5⟩ := good
  refine ⟨?_, N.az, ?_, N.hkc, g1, g2, g3, ?_, g4, g5⟩
  · show Row elAttr (Free col h2) h2 r.ab r.an r.ac x'.attrs
    have e7 : x'.attrs = r.x.attrs := e7
    rw [e7]
    exact N.ra.keep (k2.w.less fun k hk e => by have h1 := hk.1.1; rw [e, hla] at h1; cases h1) fun k hk hs => ⟨hk.1, by omega⟩
  · show OwnI h2 r.kb r.kn r.kc x'.kids
    have e8 : x'.kids = r.x.kids := e8
    rw [e8]
    exact N.ok.keep k2.w fun q e e2 => by
      have h1 := N.hkc q e
      rw [e2, hla] at h1
      have := (Prod.mk.inj (Option.some.inj h1)).2
      omega
  · have e7 : x'.attrs = r.x.attrs := e7
    show x'.attrs.length ≤ _
    rw [e7]; exact N.fa
theorem map_set (em : rs.map (·.x) = ns) {r' : RawN} : (rs.set i r').map (·.x) = ns.set i r'.x := by rw [List.map_set, em]
/-- the tree's own slice is read; then a node's field is stored -/
theorem ref_par (T : RefP h col s t ns) (hx : ns[i]? = some x) {q : Int} (hq : Rng .i64 q) {Q : H → Prop}
    (hk : ∀ h', RefP h' col s t (ns.set i { x with parent := q }) → Ext s h col h' col → SK (fun k => col k ≠ some (s, 1)) h h' → Q h') :
    vSome (some t) fun a => ∃ b n c, cell h (a.add 0) = some (.slice b n c) ∧ ((0 ≤ (i : Int) ∧ (i : Int) < (n : Int)) ∧ vSome b fun a' => stL ((a'.add (Int.toNat (i : Int) * 8)).add 6) [.int .i64 q] 0 h Q) := by
  obtain ⟨lb, lc, rs, C, em⟩ := T
  obtain ⟨r, hr, rfl⟩ := map_get em hx
  have N := C.nodes i r hr
  exact vSomeMk ⟨_, _, _, C.v.cell 0 rfl, ref_field C hr (f := 6) (r' := { r with x := { r.x with parent := q } }) (by omega) rfl rfl ⟨rfl, rfl, rfl, rfl, rfl, rfl, rfl, rfl⟩ ⟨N.rk, N.rs, hq, N.fn, N.ft⟩ fun h' C' E' k' => hk h' ⟨lb, lc, _, C', map_set em⟩ E' k'⟩
/-- a node's kids' row has changed; now the node says so -/
theorem ref_kids (C : RefC h col s t lb lc rs) (hr : rs[i]? = some r) {h1 : H} (g : Grow h h1 r.kb) {b' : Option Addr} {n' c' : Nat} {l' : List Int} (o : OwnI h1 b' n' c' l') (nb : NewB h r.kb b') {Q : H → Prop}
    (hk : ∀ h' col', RefC h' col' s t lb lc (rs.set i ⟨{ r.x with kids := l' }, r.ab, r.an, r.ac, b', n', c'⟩) → Ext s h col h' col' → SK (fun k => k < h1.size ∧ col k ≠ some (s, 1)) h1 h' → Q h') :
    (0 ≤ (i : Int) ∧ (i : Int) < (rs.length : Int)) ∧ vSome lb fun a => stL ((a.add (Int.toNat (i : Int) * 8)).add 7) [.slice b' n' c'] 0 h1 Q := by
  have N := C.nodes i r hr
  have hsz := g.size
  have hka : ∀ q, r.kb = some q → ∀ q', lb = some q' → q.block ≠ q'.block := fun q e q' e' e2 => by
    have h1 := N.hkc q e
    rw [e2, C.hl q' e'] at h1
    have := (Prod.mk.inj (Option.some.inj h1)).2
    omega
  have o1 : OwnF elRaw h1 0 90 lb rs.length lc rs := ownRaw_keep C.o g.keep.w fun q e => ⟨C.o.hi q e, fun q' e' => hka q' e' q e⟩
  refine ownF_setF flatRaw o1 hr (z := 8) rfl (show 7 < 8 by decide) rfl (x' := ⟨{ r.x with kids := l' }, r.ab, r.an, r.ac, b', n', c'⟩) (fun A h cs e => by have e : cs = rawC r := e; subst e; rfl) fun a h2 ea o2 k2 s2 hb => ?_
  have hla : col a.block = some (s, 1) := C.hl a ea
  have hal := C.o.hi a ea
  have hcol : ∀ k, k < h.size → putB col h b' (s, 2 * i + 3) k = col k := fun k hk => putB_old hk
  have kk : ∀ k, k < h.size → k ≠ a.block → (∀ q, r.kb = some q → q.block ≠ k) → h2[k]? = h[k]? := fun k h1 h2' h3 => (k2.2 k h2').trans (g.old k h1 h3)
  have hfar : ∀ k, h2.size ≤ k → putB col h b' (s, 2 * i + 3) k = none := fun k hk => by
    rw [putB_far (h' := h1) (fun q e => o.hi q e) (by omega)]; exact C.fresh k (by omega)
  refine hk h2 (putB col h b' (s, 2 * i + 3)) (C.upd o2 ⟨by omega, fun k hk => ?_⟩ hcol hfar ⟨?_, N.az, o.keep k2.w fun q e e2 => ?_, fun q e => ?_, N.rk, N.rs, N.rp, N.fa, N.fn, N.ft⟩) ⟨⟨by omega, fun k hk => ?_⟩, hcol⟩ (k2.less fun k hk e => hk.2 (by rw [e]; exact hla))
  · exact kk k hk.1 (fun e => (hk.2 _ (by rw [e]; exact hla)).1 rfl) fun q e e2 => (hk.2 _ (by rw [← e2]; exact N.hkc q e)).2 rfl
  · refine N.ra.keep ⟨by omega, fun k hk o e hl => ?_⟩ fun k hk hs => ⟨by rw [hcol k hs]; exact hk.1, by omega⟩
    have hk : col k = none ∧ k < h.size := hk.1
    rw [kk k hk.2 (fun e2 => by rw [e2, hla] at hk; cases hk.1) (fun q e2 e3 => by have := N.hkc q e2; rw [e3, hk.1] at this; cases this)]; exact e
  · rcases nb q e with h1 | h1
    · exact hka q h1 a ea e2
    · omega
  · refine putB_at e fun hlt => ?_
    rcases nb q e with h1 | h1
    · exact N.hkc q h1
    · omega
  · exact kk k hk.1 (fun e => hk.2 _ (by rw [e]; exact hla)) fun q e e2 => hk.2 _ (by rw [← e2]; exact N.hkc q e)
end
end Go.Proofs
namespace Go.Proofs
open Go Go.Sh
set_option linter.unusedVariables false
set_option maxRecDepth 100000
theorem aggN {a b : Int} {c d : Bs} {e1 f1 : Option Addr} {e2 e3 f2 f3 : Nat} {k : Int → Int → Bs → Option Addr → Nat → Nat → Bs → Option Addr → Nat → Nat → Prop} (h : k a b c e1 e2 e3 d f1 f2 f3) :
    vAgg (.agg ⟨[.int .u8 a, .int .u8 b, S c, .slice e1 e2 e3, S d, .slice f1 f2 f3]⟩) fun l76 => uncons l76 fun e77 l78 => vInt .u8 e77 fun i79 => uncons l78 fun e80 l81 => vInt .u8 e80 fun i82 => uncons l81 fun e83 l84 => vStr e83 fun s85 => uncons l84 fun e86 l87 => vSlice e86 fun s88b s88n s88c => uncons l87 fun e89 l90 => vStr e89 fun s91 => uncons l90 fun e92 l93 => vSlice e92 fun s94b s94n s94c => unnil l93 (k i79 i82 s85 s88b s88n s88c s91 s94b s94n s94c) := h
section
variable {h h' : H} {K : Value → H → Prop} {col col' : Col} {s i p : Nat} {t a : Addr} {ns : List NodeM} {x y : NodeM} {lb : Option Addr} {lc : Nat} {rs : List RawN} {r : RawN}
theorem hcZ {q : Addr} {cs : List Value} (hc : ∀ (j : Nat) v, cs[j]? = some v → cell h (q.add j) = some v) (j : Nat) {v : Value} (e : cs[j]? = some v) : cell h ((q.add 0).add j) = some v := by rw [add_zero']; exact hc j v e
theorem new_r (hf : ∀ k, h.size ≤ k → col k = none) (hk : ∀ t h' col', RefP h' col' s t [rootM] → Ext s h col h' col' → K (.pointer (some t)) h') : HCalls Tryz.prog 27 ⟨[]⟩ h K := by
  refine Sx.r10_New.ok _ _ (newx_var fun a1 h1 v1 k1 e1 s1 => newx_var fun a2 h2 v2 k2 e2 s2 => ?_)
  have o2 : OwnF elRaw h2 0 90 (some a1) 1 1 [⟨rootM, none, 0, 0, none, 0, 0⟩] := (v1.kb k2).ownF1 fun _ => rfl
  refine hk a2 h2 (fun k => if k = h.size then some (s, 1) else if k = h.size + 1 then some (s, 0) else col k) ⟨some a1, 1, [⟨rootM, none, 0, 0, none, 0, 0⟩], ⟨v2, o2, fun q e => by cases e; rw [if_pos e1], fun i r hr => ?_, by rw [if_neg (by omega), if_pos (by omega)], fun k hk => ?_, by decide⟩, rfl⟩ ⟨SK.less (k1.trans k2) fun k hk => hk.1, fun k hk => ?_⟩
  · cases i with
    | succ i => simp at hr
    | zero =>
      simp at hr
      subst hr
      exact ⟨⟨rfl, Nat.le_refl _, Nat.zero_le _, fun i x hx => by simp [rootM] at hx⟩, fun _ => rfl, OwnI.none _, (fun q e => by cases e), ⟨by decide, by decide⟩, ⟨by decide, by decide⟩, ⟨by decide, by decide⟩, by decide, Nat.zero_le _, Nat.zero_le _⟩
  · show (if _ then _ else _) = _
    rw [if_neg (by omega), if_neg (by omega)]; exact hf k (by omega)
  · show (if _ then _ else _) = _
    rw [if_neg (by omega), if_neg (by omega)]
/-- of a node what its kind has -/
theorem bare_r {kd sp : Int} {nm tx : Bs} {ab kb : Option Addr} {an ac kn kc : Nat} {attrs : List AttrP} {A : Nat → Prop} (r : Row elAttr A h ab an ac attrs) (han : an ≤ 1000000)
    (h1 : kd = 1 → ∀ b' c' h', OwnF elAttr h' h.size 79 b' an c' attrs → KB h h' → K (.agg ⟨[.int .u8 kd, .int .u8 sp, S nm, .slice b' an c', S [], .slice none 0 0]⟩) h')
    (h2 : kd ≠ 1 → ∀ h', KB h h' → K (.agg ⟨[.int .u8 kd, .int .u8 0, S [], .slice none 0 0, S tx, .slice none 0 0]⟩) h') :
    HCalls Tryz.prog 65 ⟨[.agg ⟨[.int .u8 kd, .int .u8 sp, S nm, .slice ab an ac, S tx, .slice kb kn kc]⟩]⟩ h K := by
  refine Sx.r10_bare.ok _ _ _ _ _ _ _ _ _ _ _ _ (newx_var fun x1 g1 v1 k1 e1 s1 => newx_var fun x2 g2 v2 k2 e2 s2 => ?_)
  have v1' := v1.kb k2
  have k12 : KB h g2 := k1.trans k2
  have hs1 := k1.1
  have hs2 := k2.1
  refine ⟨_, v1'.cell 0 rfl, spl (fun e => ⟨_, _, _, v1'.cell 3 rfl, ?_⟩) fun e => ⟨_, v1'.cell 0 rfl, _, v1'.cell 4 rfl, stL_var0 v2 (Nat.le_refl 6) fun g3 v3 k3 s3 => ?_⟩⟩
  · have on : OwnF elAttr g2 g2.size 79 none 0 0 [] := OwnF.none _ _ _
    refine app_new apdAttr (KB.refl g2) on (r.bel.keep ((KB.w k12).less fun k hk => hk.2) fun k hk hs => by show k < g2.size; omega) (by omega) (by decide) fun b' c' g3 o3 k3 => vSliceMk ?_
    have o3 : OwnF elAttr g3 g2.size 79 b' an c' attrs := by
      rw [Nat.zero_add] at o3; exact o3
    rw [Nat.zero_add]
    have v1'' := v1'.kb k3
    refine ⟨_, v1''.cell 0 rfl, _, v1''.cell 1 rfl, _, v1''.cell 2 rfl, stL_var0 (v2.kb k3) (Nat.le_refl 6) fun g4 v4 k4 s4 => ?_⟩
    have kk : KB h g4 := KB.step (k12.trans k3) k4 (by omega)
    have o4 : OwnF elAttr g4 g2.size 79 b' an c' attrs := o3.flatK k4 flatAttr fun g hg => by have := v2.lt; omega
    exact ⟨_, v4.cell 0 rfl, _, v4.cell 1 rfl, _, v4.cell 2 rfl, _, _, _, v4.cell 3 rfl, _, v4.cell 4 rfl, _, _, _, v4.cell 5 rfl, h1 e b' c' g4 (o4.lower (by omega)) kk⟩
  · have kk : KB h g3 := KB.step k12 k3 (by omega)
    exact ⟨_, v3.cell 0 rfl, _, v3.cell 1 rfl, _, v3.cell 2 rfl, _, _, _, v3.cell 3 rfl, _, v3.cell 4 rfl, _, _, _, v3.cell 5 rfl, h2 e g3 kk⟩
/-- a node that is new stands behind the others -/
theorem push_r (C : RefC h col s t lb lc rs) (hx : Rng .u8 x.kind ∧ Rng .u8 x.space) (hpar : x.parent = -1) (hkids : x.kids = []) (hfa : x.attrs.length ≤ 1000000) (hfn : x.name.length ≤ maxLen) (hft : x.text.length ≤ maxLen) (hfew : rs.length < 1000000)
    {ab : Option Addr} {an ac : Nat} (ra : Row elAttr (Free col h) h ab an ac x.attrs) (hz : ab = none → ac = 0) {Q : Int → H → Prop}
    (hk : ∀ h' col', RefP h' col' s t ((rs.map (·.x)) ++ [x]) → Ext s h col h' col' → Q (rs.length : Int) h') :
    newx h #[.int .u8 x.kind, .int .u8 x.space, S x.name, .slice ab an ac, S x.text, .slice none 0 0, .int .i64 (-1), .slice none 0 0] 90 fun a95 h96 => ExtH h h96 ∧ (SemH Tryz.prog (Builtin.append_ #[91, 91] 91 ⟨[.slice lb rs.length lc, .slice (some a95) 1 1]⟩) h96 fun v97 h98 => vSlice v97 fun b n c => vSome (some t) fun a100 => stL (a100.add 0) [.slice b n c] 0 h98 fun h101 => vSome (some t) fun a102 => ∃ b n c, cell h101 (a102.add 0) = some (.slice b n c) ∧ (Rng .i64 ((n : Int) - 1) ∧ Q ((n : Int) - 1) h101)) := by
  refine newx_var fun a1 h1 v1 k1 e1 s1 => ⟨k1.ext, ?_⟩
  have hlo := C.o.hi
  have o1 := C.o.kb k1
  have hlen : rs.length = rs.length := rfl
  have r1 : Row elRaw (But h1 lb) h1 (some a1) 1 1 [⟨x, ab, an, ac, none, 0, 0⟩] := v1.row1 (x := ⟨x, ab, an, ac, none, 0, 0⟩) (E := elRaw) (A := But h1 lb) (by
    show _ = rawC _
    unfold rawC nodeC
    rw [hpar]) ⟨v1.lt, fun q e => by have := hlo q e; omega⟩
  refine OwnF.appendN apdRaw o1 r1 (by simp only [maxLen]; omega) (by omega) (Nat.zero_le _) fun b3 c3 h3 o3 g3 nb => vSliceMk ?_
  have hlb : ∀ q, lb = some q → col q.block = some (s, 1) := C.hl
  have vt1 := C.v.kb k1
  have vt3 : Var h3 t 93 [.slice lb rs.length lc] := vt1.keep g3.keep.w ⟨vt1.lt, fun q e e2 => by have h1 := hlb q e; rw [e2, C.colt] at h1; cases h1⟩
  have sz3 := g3.size
  refine vSomeMk (stL_var (m := 0) (i := 0) vt3 (by show 0 + 0 + 1 ≤ 1; omega) fun h4 v4 k4 s4 => vSomeMk ⟨_, _, _, v4.cell 0 rfl, rngI (by omega) (by omega), ?_⟩)
  have en : (((rs.length + 1 : Nat) : Int) - 1) = (rs.length : Int) := by omega
  rw [en]
  have hb3 : ∀ q, b3 = some q → q.block < h3.size := o3.hi
  have ht3 : ∀ q, b3 = some q → q.block ≠ t.block := fun q e e2 => by
    rcases nb q e with h1 | h1
    · have := hlb q h1; rw [e2, C.colt] at this; cases this
    · have := C.v.lt; omega
  have hcol : ∀ k, k < h.size → putB col h b3 (s, 1) k = col k := fun k hk => putB_old hk
  have kk : ∀ k, k < h1.size → k ≠ t.block → (∀ q, lb = some q → q.block ≠ k) → h4[k]? = h1[k]? := fun k h1 h2' h3' => (k4.2 k h2').trans (g3.old k h1 h3')
  have hb3c : ∀ q, b3 = some q → putB col h b3 (s, 1) q.block = some (s, 1) := fun q e => putB_at e fun hlt => by
    rcases nb q e with h1 | h1
    · exact hlb q h1
    · omega
  have kp : Keep (fun k => k < h.size ∧ k ≠ t.block ∧ ∀ q, lb = some q → q.block ≠ k) h h4 := ⟨by omega, fun k hk o e hlp => by
    rw [kk k (by omega) hk.2.1 hk.2.2, k1.2 k hk.1]; exact e⟩
  refine hk h4 (putB col h b3 (s, 1)) ⟨b3, c3, rs ++ [⟨x, ab, an, ac, none, 0, 0⟩], ⟨?_, ?_, hb3c, fun j z hz2 => ?_, (hcol _ C.v.lt).trans C.colt, fun k hk => ?_, by simp; omega⟩, by rw [List.map_append]; rfl⟩ ⟨⟨by omega, fun k hk => ?_⟩, hcol⟩
  · rw [List.length_append]; exact v4
  · rw [List.length_append]
    exact ownRaw_keep o3 k4.w fun q e => ht3 q e
  · by_cases hj : j < rs.length
    · rw [List.getElem?_append_left hj] at hz2
      refine (C.nodes j z hz2).keep kp hcol fun k hk hor => ⟨hk, fun e => ?_, fun q e e2 => ?_⟩
      · rw [e, C.colt] at hor; rcases hor with h1 | h1 <;> cases h1
      · have := hlb q e; rw [e2] at this; rw [this] at hor
        rcases hor with h1 | h1
        · cases h1
        · have := (Prod.mk.inj (Option.some.inj h1)).2; omega
    · have hjn : j = rs.length := by
        have := getI hz2
        simp at this; omega
      subst hjn
      rw [List.getElem?_append_right (Nat.le_refl _), Nat.sub_self] at hz2
      simp at hz2
      subst hz2
      refine ⟨ra.keep (kp.less fun k hk => ⟨hk.1.2, fun e2 => (by have := hk.1.1; rw [e2, C.colt] at this; cases this), fun q e2 e3 => by have h1 := hlb q e2; rw [e3, hk.1.1] at h1; cases h1⟩) fun k hk hs => ⟨by rw [hcol k hs]; exact hk.1, by omega⟩, hz, ?_, (fun q e => by cases e), hx.1, hx.2, ?_, hfa, hfn, hft⟩
      · show OwnI h4 none 0 0 x.kids
        rw [hkids]; exact OwnI.none _
      · show Rng .i64 x.parent
        rw [hpar]; exact ⟨by decide, by decide⟩
  · rw [putB_far (h' := h3) hb3 (by omega)]; exact C.fresh k (by omega)
  · obtain ⟨hk1, hk2⟩ := hk
    rw [kk k (by omega) (fun e => hk2 0 (by rw [e]; exact C.colt)) (fun q e e2 => hk2 1 (by rw [← e2]; exact hlb q e))]
    exact k1.2 k hk1
theorem make_r (T : RefP h col s t ns) {kd sp : Int} {nm tx : Bs} {ab kb : Option Addr} {an ac kn kc : Nat} {attrs : List AttrP} {A : Nat → Prop} (r : Row elAttr A h ab an ac attrs) (han : an ≤ 1000000) (hkd : Rng .u8 kd) (hsp : Rng .u8 sp) (hxn : nm.length ≤ maxLen) (hxt : tx.length ≤ maxLen) (hfew : ns.length < 1000000)
    (hk : ∀ h' col', RefP h' col' s t (addM ns (bareM kd sp nm attrs tx)).1 → Ext s h col h' col' → K (.int .i64 (addM ns (bareM kd sp nm attrs tx)).2) h') :
    HCalls Tryz.prog 33 ⟨[.pointer (some t), .agg ⟨[.int .u8 kd, .int .u8 sp, S nm, .slice ab an ac, S tx, .slice kb kn kc]⟩]⟩ h K := by
  obtain ⟨lb, lc, rs, C, em⟩ := T
  have hl := r.len
  have hnl : ns.length = rs.length := by rw [← em, List.length_map]
  have none' : ¬ (kd = 1 ∨ kd = 2 ∨ kd = 3) → ∀ h', KB h h' → K (.int .i64 (-1)) h' := fun hn h' k => by
    have eb : bareM kd sp nm attrs tx = none := by unfold bareM; rw [if_neg (by omega), if_neg (by omega)]
    rw [eb] at hk
    exact hk h' col ⟨lb, lc, rs, C.kb k, em⟩ (Ext.kb k)
  refine Sx.r10_Tree_Make.ok _ _ _ _ _ _ _ _ _ _ _ _ _ (newx_var fun x3 h1 v1 k1 e1 s1 => ⟨_, v1.cell 0 rfl, spl (fun e => none' (by omega) h1 k1) fun e => ⟨_, v1.cell 0 rfl, spl (fun e2 => none' (by omega) h1 k1) fun e2 => ?_⟩⟩)
  have C1 := C.kb k1
  refine vSomeMk ⟨_, _, _, C1.v.cell 0 rfl, _, v1.cell 0 rfl, _, v1.cell 1 rfl, _, v1.cell 2 rfl, _, _, _, v1.cell 3 rfl, _, v1.cell 4 rfl, _, _, _, v1.cell 5 rfl, ?_⟩
  refine bare_r (r.bel.keep ((KB.w k1).less fun k hk => hk.2) (B' := fun _ => True) fun _ _ _ => trivial) han (fun e3 b' c' h2 o2 k2 => ?_) fun e3 h2 k2 => ?_
  · have eb : bareM kd sp nm attrs tx = some ⟨kd, sp, nm, attrs, [], -1, []⟩ := by unfold bareM; rw [if_pos e3]
    rw [eb] at hk
    have ra := free_own (col := col) o2 fun k hk => C.fresh k (by omega)
    refine aggN ⟨k2.ext, ?_⟩
    refine push_r (Q := fun y h => K (.int .i64 y) h) (x := ⟨kd, sp, nm, attrs, [], -1, []⟩) (C1.kb k2) ⟨hkd, hsp⟩ rfl rfl (by show attrs.length ≤ _; omega) hxn (Nat.zero_le _) (by omega) ra o2.nil fun h' col' T' E' => ?_
    rw [em] at T'
    have := hk h' col' T' ((Ext.kb (k1.trans k2)).trans E')
    rw [← hnl]; exact this
  · have eb : bareM kd sp nm attrs tx = some ⟨kd, 0, [], [], tx, -1, []⟩ := by unfold bareM; rw [if_neg e3, if_pos (by omega)]
    rw [eb] at hk
    refine aggN ⟨k2.ext, ?_⟩
    refine push_r (Q := fun y h => K (.int .i64 y) h) (x := ⟨kd, 0, [], [], tx, -1, []⟩) (C1.kb k2) ⟨hkd, (show Rng .u8 0 from ⟨by decide, by decide⟩)⟩ rfl rfl (Nat.zero_le _) (Nat.zero_le _) hxt (by omega) ⟨rfl, Nat.le_refl _, Nat.zero_le _, fun i x hx => by simp at hx⟩ (fun _ => rfl) fun h' col' T' E' => ?_
    rw [em] at T'
    have := hk h' col' T' ((Ext.kb (k1.trans k2)).trans E')
    rw [← hnl]; exact this
end
end Go.Proofs
