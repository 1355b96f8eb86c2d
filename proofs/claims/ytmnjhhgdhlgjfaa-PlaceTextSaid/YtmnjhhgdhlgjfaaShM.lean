/- A region that draws its order, whatever it does: the theorem. No condition. -/
import Derived.Test.YtmnjhhgdhlgjfaaShL
namespace Go.Sh
open Go
set_option linter.unusedVariables false
set_option linter.unusedSimpArgs false
variable {P : Program}

section
variable {ops : Array Oper} {D : Nat → Nat → Bool} {ord : List Nat} {n : Nat} {next : Env → H → Prop}

theorem Inv.deps {a0 : Act} {w0 w : World} {listed : Array Bool} {a an : Act} {done rem rb : List Nat} {g : Env} (hp : PlanOK P ops D ord)
    (hI : Inv P n ops D ord next a0 w0 listed a w done rem rb an g) {i : Nat} (hi : i ∈ Region.ready .any ops listed) :
    listed.getD i false = false ∧ ∃ o, ops[i]? = some o ∧ ∀ k, D i k = true → listed.getD k false = true := by
  obtain ⟨h0, o, ho, hall⟩ := mem_ready.1 hi
  refine ⟨getD_tf h0, o, ho, fun k hk => ?_⟩
  obtain ⟨e, he, hb, hor⟩ := hp.clo i o k ho hk
  have hl := hall e he hb
  rcases hor with rfl | hD
  · exact hl
  · exact hI.l3 _ _ hl hD

theorem Inv.step {a0 : Act} {w0 w : World} {listed : Array Bool} {a an : Act} {done rem rb : List Nat} {g : Env} (hp : PlanOK P ops D ord)
    (hI : Inv P n ops D ord next a0 w0 listed a w done rem rb an g) {i : Nat} (hi : i ∈ Region.ready .any ops listed)
    {K : Act → World → Prop} {Q : Exit → Act → World → Prop}
    (hK : ∀ a' w', (∃ done' rem' rb' an' g', Inv P n ops D ord next a0 w0 (listed.setIfInBounds i true) a' w' done' rem' rb' an' g') → K a' w') :
    wpOp P ops Q i K a w := by
  obtain ⟨hil, o, ho, hD⟩ := hI.deps hp hi
  have hlt : i < ops.size := (Array.getElem?_eq_some_iff.1 ho).1
  have hset : (listed.setIfInBounds i true).getD i false = true := by simp [hI.lsize, hlt]
  have hiord := hp.mem i hlt
  have hnd := hp.nd
  rw [hI.norm.split] at hiord hnd
  -- what the operations that are listed write
  have look : ∀ (b : Act), (∀ t ∈ o.looksAt ops, (∀ k ok, D i k = true → ops[k]? = some ok → ok.dst = some t → b.tmps[t]? = an.tmps[t]?) ∧
      ((¬ ∃ k ok, D i k = true ∧ ops[k]? = some ok ∧ ok.dst = some t) → b.tmps[t]? = a0.tmps[t]?)) → ∀ t ∈ o.looksAt ops, a.tmps[t]? = b.tmps[t]? := by
    intro b hb t ht
    by_cases hex : ∃ k ok, D i k = true ∧ ops[k]? = some ok ∧ ok.dst = some t
    · obtain ⟨k, ok, hk, hok, hd⟩ := hex
      rw [(hb t ht).1 k ok hk hok hd]
      exact hI.t2 k ok t (hD k hk) hok hd
    · rw [(hb t ht).2 hex]
      refine hI.t3 t fun k ok hk hok hd => ?_
      have hne : k ≠ i := fun e => by rw [e, hil] at hk; cases hk
      rcases (hp.dst k i ok o t hok ho hne hd).2 ht with h1 | h1
      · exact hex ⟨k, ok, h1, hok, hd⟩
      · have := hI.l3 k i hk h1
        rw [hil] at this; cases this
  have t3' : ∀ (v : Value) (t : Nat), (∀ k ok, (listed.setIfInBounds i true).getD k false = true → ops[k]? = some ok → ok.dst ≠ some t) → (a.put o.dst v).tmps[t]? = a0.tmps[t]? := by
    intro v t ht
    rw [put_other (ht i o hset ho)]
    exact hI.t3 t fun k ok hk hok => ht k ok (getD_set_true hk) hok
  have l3' : ∀ k j, (listed.setIfInBounds i true).getD k false = true → D k j = true → (listed.setIfInBounds i true).getD j false = true := by
    intro k j hk hkj
    rcases set_cases hk with rfl | hk
    · exact getD_set_true (hD j hkj)
    · exact getD_set_true (hI.l3 k j hk hkj)
  cases he : isEff P o with
  | false =>
    -- it is done already
    have hdone : i ∈ done := by
      rcases List.mem_append.1 hiord with h1 | h1
      · exact h1
      · exfalso
        cases hr : rem with
        | nil => rw [hr] at h1; cases h1
        | cons j t =>
          obtain ⟨oj, hoj, hej⟩ := hI.head j t hr
          rw [hr] at h1 hnd
          rcases List.mem_cons.1 h1 with rfl | h1
          · rw [ho] at hoj; cases hoj; rw [he] at hej; cases hej
          · obtain ⟨A, B, hAB⟩ := List.append_of_mem h1
            have : D i j = true := hp.eff (done ++ j :: A) i B (by rw [hI.norm.split, hr, hAB]; simp) j (by simp) oj hoj hej
            exact notboth hnd (hI.l1 j (hD j this)) (by simp)
    obtain ⟨o', ai, v, ho', _, hlk, hrun, hun, hown⟩ := hI.pend i hdone hil
    rw [ho] at ho'; cases ho'
    have hall := look ai fun t ht => ⟨fun k ok hk hok hd => (hlk t ht).1 ⟨k, ok, hk, hok, hd⟩, fun hno => (hlk t ht).2 hno⟩
    obtain ⟨hex, hwt⟩ := same_look (fun cs c => hp.sel i o cs c ho) hall
    have fin : K (a.put o.dst v) w := by
      refine hK _ _ ⟨done, rem, rb, an, g, hI.norm, hI.head, hI.outer, by simp [hI.lsize], ?_, ?_, l3', by rw [put_size, hI.asize], by rw [put_def, hI.adef], ?_, t3' v, ?_⟩
      · intro k hk
        rcases set_cases hk with rfl | hk
        · exact hdone
        · exact hI.l1 k hk
      · intro k hk ok hok hek; exact getD_set_true (hI.l2 k hk ok hok hek)
      · intro k ok d hk hok hd
        by_cases e : k = i
        · subst e
          rw [ho] at hok; cases hok
          by_cases hl : d < an.tmps.size
          · rw [hown d hd hl]
            exact put_own hd (by rw [hI.asize, ← hI.norm.size]; exact hl)
          · rw [Array.getElem?_eq_none (by rw [put_size, hI.asize, ← hI.norm.size]; exact Nat.le_of_not_lt hl), Array.getElem?_eq_none (Nat.le_of_not_lt hl)]
        · rcases set_cases hk with e2 | hk
          · exact absurd e2 e
          · rw [put_other (fun hod => (hp.dst k i ok o d hok ho e hd).1 hod)]
            exact hI.t2 k ok d hk hok hd
      · intro k hk hkl
        exact hI.pend k hk (set_false hkl)
    unfold wpOp
    rw [ho]
    simp only
    by_cases hw : Region.wanted o (yielded ops a.tmps) = true
    · rw [if_pos hw]
      refine .inl ?_
      unfold Oper.wp
      rw [hex, hrun (by rw [← hwt]; exact hw) w fun _ => ExtH.refl _]
      exact fin
    · rw [if_neg hw]
      have hv := hun (by rw [← hwt]; simpa using hw)
      rw [← hv]
      exact fin
  | true =>
    -- it is the next of those that act
    have hnot : i ∉ done := fun hd => by
      have := hI.l2 i hd o ho he
      rw [hil] at this; cases this
    obtain ⟨t, hr⟩ : ∃ t, rem = i :: t := by
      rcases List.mem_append.1 hiord with h1 | h1
      · exact absurd h1 hnot
      · cases hr : rem with
        | nil => rw [hr] at h1; cases h1
        | cons j t =>
          obtain ⟨oj, hoj, hej⟩ := hI.head j t hr
          rw [hr] at h1 hnd
          rcases List.mem_cons.1 h1 with rfl | h1
          · exact ⟨t, rfl⟩
          · exfalso
            obtain ⟨A, B, hAB⟩ := List.append_of_mem h1
            have : D i j = true := hp.eff (done ++ j :: A) i B (by rw [hI.norm.split, hr, hAB]; simp) j (by simp) oj hoj hej
            exact notboth hnd (hI.l1 j (hD j this)) (by simp)
    subst hr
    have hA : ord = done ++ i :: t := hI.norm.split
    have hall := look an fun t' ht => ⟨fun _ _ _ _ _ => rfl, fun hno => hI.norm.old t' fun k hk ok hok hd => by
      have hne : k ≠ i := fun e => hnot (e ▸ hk)
      rcases (hp.dst k i ok o t' hok ho hne hd).2 ht with h1 | h1
      · exact hno ⟨k, ok, h1, hok, hd⟩
      · obtain ⟨A, B, hAB⟩ := List.append_of_mem hk
        have : i ∈ A := hp.ear A k (B ++ i :: t) (by rw [hA, hAB]; simp) i h1
        exact hnot (by rw [hAB]; simp [this])⟩
    obtain ⟨hex, hwt⟩ := same_look (fun cs c => hp.sel i o cs c ho) hall
    have fin : ∀ (v : Value) (w' : World), Outer w w' → nsx P n ops.toList D next t rb (g.upd o.dst v) w'.heap → (∀ r ∈ rb, D i r = false → ExtH w.heap w'.heap) → K (a.put o.dst v) w' := by
      intro v w' hout hf hex2
      have hN1 := Norm.eff (rb2 := []) (g2 := g) (h2 := w.heap) hp ho he hI.norm hf
      have hP1 : ∀ k ∈ done, listed.getD k false = false → Pend P ops D a0 (an.put o.dst v) k w'.heap := fun k hk hkl =>
        Pend.put hp ho hA hk (fun ok hok hrd => by
          cases hek : isEff P ok with
          | true =>
            have := hI.l2 k hk ok hok hek
            rw [hkl] at this; cases this
          | false =>
            refine hex2 k (hI.norm.rbs k hk ok hok hek hrd) ?_
            cases hDk : D i k with
            | false => rfl
            | true => have := hD k hDk; rw [hkl] at this; cases this) (hI.pend k hk hkl)
      obtain ⟨mid, rem', rb', an', g', hN2, hh, hm, hPm, hKp, hT⟩ := hN1.adv hp
      have hndm : (done ++ [i] ++ mid ++ rem').Nodup := by
        have := hp.nd
        rw [hN2.split] at this
        exact this
      have hinm : ∀ k ∈ mid, listed.getD k false = false := fun k hk => by
        cases hkl : listed.getD k false with
        | false => rfl
        | true =>
          have h1 := hI.l1 k hkl
          exact (notboth (i := k) (l1 := done ++ [i]) (l2 := mid ++ rem') (by simpa using hndm) (by simp [h1]) (by simp [hk])).elim
      refine hK _ _ ⟨done ++ [i] ++ mid, rem', rb', an', g', hN2, hh, hI.outer.trans hout, by simp [hI.lsize], ?_, ?_, l3', by rw [put_size, hI.asize], by rw [put_def, hI.adef], ?_, t3' v, ?_⟩
      · intro k hk
        rcases set_cases hk with rfl | hk
        · simp
        · simp [hI.l1 k hk]
      · intro k hk ok hok hek
        rcases List.mem_append.1 hk with hk | hk
        · rcases List.mem_append.1 hk with hk | hk
          · exact getD_set_true (hI.l2 k hk ok hok hek)
          · rw [List.mem_singleton] at hk; subst hk; exact hset
        · obtain ⟨ok2, hok2, hek2⟩ := hm k hk
          rw [hok] at hok2; cases hok2; rw [hek] at hek2; cases hek2
      · intro k ok d hk hok hd
        by_cases e : k = i
        · subst e
          rw [ho] at hok; cases hok
          rw [hT d k o (by simp) ho hd]
          by_cases hl : d < an.tmps.size
          · rw [put_own hd hl]
            exact put_own hd (by rw [hI.asize, ← hI.norm.size]; exact hl)
          · rw [Array.getElem?_eq_none (by rw [put_size, hI.asize, ← hI.norm.size]; exact Nat.le_of_not_lt hl), Array.getElem?_eq_none (by rw [put_size]; exact Nat.le_of_not_lt hl)]
        · rcases set_cases hk with e2 | hk
          · exact absurd e2 e
          · have hod := (hp.dst k i ok o d hok ho e hd).1
            rw [put_other hod, hT d k ok (by simp [hI.l1 k hk]) hok hd, put_other hod]
            exact hI.t2 k ok d hk hok hd
      · intro k hk hkl
        rcases List.mem_append.1 hk with hk | hk
        · rcases List.mem_append.1 hk with hk | hk
          · exact hKp k (by simp [hk]) (hP1 k hk (set_false hkl))
          · rw [List.mem_singleton] at hk; subst hk; rw [hset] at hkl; cases hkl
        · exact hPm k hk
    have hf := hI.norm.form
    unfold nsx at hf
    rw [mem_toList ho] at hf
    simp only [he, cond] at hf
    unfold wpOp
    rw [ho]
    simp only
    rw [hwt, wantx_ok hI.norm.agree]
    cases hw : wantx n ops.toList g o with
    | true =>
      rw [hw] at hf
      simp only at hf
      rw [if_pos rfl]
      refine .inl ?_
      rw [← hI.norm.agree.eval] at hf
      have hE := leafE_ok (opl_ok hf) w rfl
      rw [← hex] at hE
      refine wp_of_OpEff hE fun v w' hvw => ?_
      have hn := reD_ok hvw.2
      have hout := hvw.1
      cases hb : rb.any fun r => !D i r with
      | true =>
        rw [hb] at hn
        exact fin v w' hout hn.2 fun _ _ _ => hn.1
      | false =>
        rw [hb] at hn
        refine fin v w' hout hn fun r hr hDr => ?_
        have : (rb.any fun r => !D i r) = true := List.any_eq_true.2 ⟨r, hr, by rw [hDr]; rfl⟩
        rw [hb] at this; cases this
    | false =>
      rw [hw] at hf
      simp only [Bool.false_eq_true, if_false]
      exact fin undef w (Outer.refl w) hf fun _ _ _ => ExtH.refl _

theorem Inv.none {a0 : Act} {w0 w : World} {listed : Array Bool} {a an : Act} {done rem rb : List Nat} {g : Env} (hp : PlanOK P ops D ord)
    (hI : Inv P n ops D ord next a0 w0 listed a w done rem rb an g) (hr : Region.ready .any ops listed = []) : ∃ g, Agree n a g ∧ next g w.heap ∧ Outer w0 w := by
  -- all is listed
  have all : ∀ (B A : List Nat), ord = A ++ B → (∀ k ∈ A, listed.getD k false = true) → ∀ k ∈ ord, listed.getD k false = true := by
    intro B
    induction B with
    | nil => intro A e hA k hk; rw [e] at hk; simp at hk; exact hA k hk
    | cons i B ih =>
      intro A e hA
      refine ih (A ++ [i]) (by rw [e]; simp) fun k hk => ?_
      rcases List.mem_append.1 hk with hk | hk
      · exact hA k hk
      · rw [List.mem_singleton] at hk
        subst hk
        have hlt := hp.lt k (by rw [e]; simp)
        cases hl : listed.getD k false with
        | true => rfl
        | false =>
          exfalso
          have : k ∈ Region.ready .any ops listed := by
            refine mem_ready.2 ⟨?_, ops[k], Array.getElem?_eq_getElem hlt, fun e' he' hb => ?_⟩
            · simp only [Array.getD_eq_getD_getElem?] at hl ⊢
              rw [Array.getElem?_eq_getElem (by rw [hI.lsize]; exact hlt)] at hl ⊢
              exact hl
            · exact hA _ (hp.ear A k B e _ (hp.dir k _ (Array.getElem?_eq_getElem hlt) e' he' hb))
          rw [hr] at this; cases this
  have hall := all ord [] rfl (fun k hk => by cases hk)
  have hrem : rem = [] := by
    cases h : rem with
    | nil => rfl
    | cons j t =>
      exfalso
      have hs := hI.norm.split
      rw [h] at hs
      have hnd := hp.nd
      rw [hs] at hnd
      exact notboth hnd (hI.l1 j (hall j (by rw [hs]; simp))) (by simp)
  have hf := hI.norm.form
  rw [hrem] at hf
  refine ⟨g, ?_, hf, hI.outer⟩
  have hag := hI.norm.agree
  have heq : ∀ t : Nat, a.tmps[t]? = an.tmps[t]? := by
    intro t
    by_cases hex : ∃ k ok, listed.getD k false = true ∧ ops[k]? = some ok ∧ ok.dst = some t
    · obtain ⟨k, ok, hk, hok, hd⟩ := hex
      exact hI.t2 k ok t hk hok hd
    · rw [hI.t3 t fun k ok hk hok hd => hex ⟨k, ok, hk, hok, hd⟩]
      refine (hI.norm.old t fun k hk ok hok hd => hex ⟨k, ok, hall k ?_, hok, hd⟩).symm
      rw [hI.norm.split]; simp [hk]
  refine ⟨by rw [hI.adef, ← hI.norm.defers]; exact hag.ds, by rw [hI.asize, ← hI.norm.size]; exact hag.size, fun j hj => ?_⟩
  have := hag.tmp j hj
  simp only [Array.getD_eq_getD_getElem?] at this ⊢
  rw [heq j]; exact this

theorem filter_less {l : List Nat} {p q : Nat → Bool} {i : Nat} (hi : i ∈ l) (hp : p i = true) (hq : q i = false) (hqp : ∀ k, q k = true → p k = true) : (l.filter q).length < (l.filter p).length := by
  induction l with
  | nil => cases hi
  | cons x l ih =>
    have le : (l.filter q).length ≤ (l.filter p).length := by
      have e : l.filter q = (l.filter p).filter q := by
        rw [List.filter_filter]
        refine List.filter_congr fun k _ => ?_
        cases hk : q k with
        | false => simp
        | true => simp [hqp k hk]
      rw [e]; exact List.length_filter_le _ _
    rcases List.mem_cons.1 hi with rfl | hi
    · rw [List.filter_cons, List.filter_cons, hp, hq]
      simp; omega
    · have := ih hi
      cases hx : q x with
      | true => simp [List.filter_cons, hx, hqp x hx]; omega
      | false =>
        cases hx2 : p x with
        | true => simp [List.filter_cons, hx, hx2]; omega
        | false => simp [List.filter_cons, hx, hx2]; omega

theorem any_of_nsx (hp : PlanOK P ops D ord) {a0 : Act} {w0 : World} {Q : XPost} (hQ : ∀ g h, next g h → Q .normal g h) : ∀ (fuel : Nat) (listed : Array Bool) (a : Act) (w : World),
    (∃ done rem rb an g, Inv P n ops D ord next a0 w0 listed a w done rem rb an g) → (ord.filter fun k => !listed.getD k false).length ≤ fuel → wpAny P .any ops (lift n w0 Q) fuel listed a w
  | 0, listed, a, w, ⟨done, rem, rb, an, g, hI⟩, hc => by
    have hr : Region.ready .any ops listed = [] := by
      cases h : Region.ready .any ops listed with
      | nil => rfl
      | cons i t =>
        exfalso
        obtain ⟨h0, o, ho, _⟩ := hI.deps (i := i) hp (by rw [h]; simp)
        have hm : i ∈ ord.filter fun k => !listed.getD k false := List.mem_filter.2 ⟨hp.mem i (Array.getElem?_eq_some_iff.1 ho).1, by rw [h0]; rfl⟩
        have := List.length_pos_of_mem hm
        omega
    obtain ⟨g, ha, hn, ho⟩ := hI.none hp hr
    exact ⟨hr, g, ha, hQ _ _ hn, ho⟩
  | fuel + 1, listed, a, w, ⟨done, rem, rb, an, g, hI⟩, hc => by
    refine ⟨fun hr => ?_, fun i hi => ?_⟩
    · obtain ⟨g, ha, hn, ho⟩ := hI.none hp hr
      exact ⟨g, ha, hQ _ _ hn, ho⟩
    · refine hI.step hp hi fun a' w' hI' => any_of_nsx hp hQ fuel _ _ _ hI' ?_
      obtain ⟨h0, o, ho, _⟩ := hI.deps hp hi
      have hlt := (Array.getElem?_eq_some_iff.1 ho).1
      have := filter_less (l := ord) (p := fun k => !listed.getD k false) (q := fun k => !(listed.setIfInBounds i true).getD k false) (i := i) (hp.mem i hlt) (by simp only [h0, Bool.not_false])
        (by simp [hI.lsize, hlt]) (fun k hk => by simp only [Bool.not_eq_true'] at hk ⊢; exact set_false hk)
      omega

theorem nsx_any (hp : PlanOK P ops D ord) {g : Env} {a : Act} {w0 w : World} {Q : XPost} (hQ : ∀ g h, next g h → Q .normal g h) (hx : nsx P n ops.toList D next ord [] g w.heap) (ha : Agree n a g) (ho : Outer w0 w)
    (hs : ord.length ≤ ops.size) : wpAny P .any ops (lift n w0 Q) ops.size (Array.replicate ops.size false) a w := by
  have hN0 : Norm P n ops D ord next a [] ord [] a g w.heap := ⟨rfl, hx, ha, rfl, rfl, fun _ _ => rfl, fun k hk => by cases hk⟩
  obtain ⟨mid, rem', rb', an', g', hN2, hh, hm, hPm, _, _⟩ := hN0.adv hp
  have hno : ∀ k, (Array.replicate ops.size false).getD k false = false := fun k => by
    simp only [Array.getD_eq_getD_getElem?, Array.getElem?_replicate]
    split <;> rfl
  refine any_of_nsx hp hQ _ _ a w ⟨[] ++ mid, rem', rb', an', g', hN2, hh, ho, by simp, ?_, ?_, ?_, rfl, rfl, ?_, fun _ _ => rfl, ?_⟩ (Nat.le_trans (List.length_filter_le _ _) hs)
  · intro k hk; rw [hno] at hk; cases hk
  · intro k hk o hok he
    obtain ⟨o2, ho2, he2⟩ := hm k (by simpa using hk)
    rw [hok] at ho2; cases ho2; rw [he] at he2; cases he2
  · intro k j hk; rw [hno] at hk; cases hk
  · intro k o d hk; rw [hno] at hk; cases hk
  · intro k hk _; exact hPm k (by simpa using hk)

/-- a region that draws its order -/
theorem drawN_ok {ro : Option Nat} {id : Nat} {Q : XPost} {g : Env} {h : H} (hm : P.follows .mixedOrders = true)
    (hp : PlanOK P ops D ord) (hs : ord.length ≤ ops.size) (hnd : noDefer ops.toList = true) (hx : nsx P n ops.toList D (Q .normal) ord [] g h) (w0 w : World) (a : Act)
    (hw : w.heap = h) (ho : Outer w0 w) (ha : Agree n a g) : (Code.region id ops true).wpIn (Fr ro) 0 P (lift n w0 Q) a w := by
  refine wpIn_region_draw fun t => ?_
  refine opsIn_of_ops lift_noOut (noDefer_ok hnd) _ _ _ ?_
  simp only [Region.schedule, hm, Bool.true_or, if_true]
  refine wpAny_sound ops.size t _ a _ ?_
  exact nsx_any (next := Q .normal) hp (fun _ _ h => h) (by subst hw; exact hx) ha ⟨ho.tape, ho.os, ho.output⟩ hs
end
end Go.Sh
