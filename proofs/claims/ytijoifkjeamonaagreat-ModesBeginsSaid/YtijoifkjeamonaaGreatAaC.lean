import Derived.Test.YtijoifkjeamonaaGreatMpC
import Derived.Test.YtijoifkjeamonaaGreatPdD
import Derived.Test.YtijoifkjeamonaaGreatTxK
import Derived.Test.YtijoifkjeamonaaGreatTxG
import Derived.Test.YtijoifkjeamonaaGreatOpA
import Derived.Test.YtijoifkjeamonaaGreatMpF
import Derived.Test.YtijoifkjeamonaaGreatTxM
import Derived.Test.YtijoifkjeamonaaGreatTxN
import Derived.Test.YtijoifkjeamonaaGreatShQ
import Derived.Lib.Overlaps
import Derived.Test.YtijoifkjeamonaaGreatTxH
namespace Go.Proofs
open Go Go.Sh
set_option linter.unusedVariables false
set_option maxRecDepth 100000
section
variable {A B : Nat -> Prop} {h : H} {b b2 : Option Addr} {n c n2 c2 : Nat} {l : List OpenP} {ns : List Bs} {s : Bs} {sc : Int}
theorem openImplied_calls (m : ML h) (hA : ∀ k, A k -> k < h.size) (r : Row elOpen A h b n c l) (hl : ∀ x ∈ l, x.2.2.1.length <= 9000000000000000000) {K : Value -> H -> Prop} (hk : ∀ h', KB h h' -> K (.int .i64 (impliedP l s)) h') :
    HCalls Tryz.prog 192 ⟨[.slice b n c, S s]⟩ h K := by
  have hm : n <= maxLen := Nat.le_trans r.cap r.max
  have hln := r.len
  simp only [maxLen] at hm
  refine Sx.open_Implied.ok _ _ _ _ _ _ (newx_var fun x2 h2 v2 k2 e2 s2 => newx_var fun y h3 v3 k3 e3 s3 => outwards_calls fun a h4 va k4 ea => ?_)
  have k04 := (k2.trans k3).trans k4
  have r4 := r.kb k04
  refine scan_open (f := impliedF s) (val := .int .i64) (d := 0) (res := impliedP l s) k04 r4 hA va (v3.kb k4) (by omega) (by omega) rfl (fun i hi h5 Kc k5 hcont hstore hbreak => rdOpen (front_open k5 (fun k hk => ?_) (Nat.le_refl _) fun ax hb kb vb => ?_)) (fun h' k' hd v => leave_k hd k' k04.1 v fun h'' k'' v'' => ⟨_, v''.cell0 rfl, hk h'' k''⟩)
  · rcases hk with hk | hk
    · exact Nat.lt_of_lt_of_le (hA _ hk) k04.1
    · rw [hk]; exact va.lt
  · have w2 := ((v2.kb k3).kb k4).kb kb
    refine ⟨_, vb.cell 1 rfl, spl (fun e => ⟨_, vb.cell 2 rfl, _, w2.cell0 rfl, spl (fun e2 => ⟨rng64 (by omega) (by omega), hstore hb hb _ kb (KB.refl _) (by unfold impliedF; rw [if_pos (.inr (.inl e2))])⟩) fun e2 => ⟨_, vb.cell 2 rfl, hasRow_calls wImp wImp_ok (by decide +kernel) (by decide +kernel) ((m.kb k04).kb kb) (hl _ (List.getElem_mem _)) (vBool_mk (condB (fun ht => hcont hb hb kb (KB.refl _) ?_) fun hf => ⟨rng64 (by omega) (by omega), hstore hb hb _ kb (KB.refl _) (by unfold impliedF; rw [if_pos (.inr (.inr hf))])⟩))⟩⟩) fun e => ⟨rng64 (by omega) (by omega), hstore hb hb _ kb (KB.refl _) (by unfold impliedF; rw [if_pos (.inl e)])⟩⟩
    unfold impliedF
    rw [if_neg]
    rintro (h | h | h)
    · exact h e
    · exact e2 h
    · rw [ht] at h; cases h
theorem openItem_calls (m : ML h) (hA : ∀ k, A k -> k < h.size) (r : Row elOpen A h b n c l) (hl : ∀ x ∈ l, x.2.2.1.length <= 9000000000000000000) (rn : Row elStr B h b2 n2 c2 ns) {K : Value -> H -> Prop} (hk : ∀ h', KB h h' -> K (.int .i64 (itemP l ns)) h') :
    HCalls Tryz.prog 190 ⟨[.slice b n c, .slice b2 n2 c2]⟩ h K := by
  refine Sx.open_Item.ok _ _ _ _ _ _ _ _ (newx_var fun x2 h2 v2 k2 e2 s2 => newx_var fun y h3 v3 k3 e3 s3 => outwards_calls fun a h4 va k4 ea => ?_)
  have k04 := (k2.trans k3).trans k4
  have r4 := r.kb k04
  refine scan_open (f := itemF ns) (val := .int .i64) (d := -1) (res := itemP l ns) k04 r4 hA va (v3.kb k4) (by omega) (by omega) rfl (fun i hi h5 Kc k5 hcont hstore hbreak => rdOpen (front_open k5 (fun k hk => ?_) (Nat.le_refl _) fun ax hb kb vb => ?_)) (fun h' k' hd v => leave_k hd k' k04.1 v fun h'' k'' v'' => ⟨_, v''.cell0 rfl, hk h'' k''⟩)
  · rcases hk with hk | hk
    · exact Nat.lt_of_lt_of_le (hA _ hk) k04.1
    · rw [hk]; exact va.lt
  · have w2 := ((v2.kb k3).kb k4).kb kb
    refine ldVar vb ⟨_, _, _, w2.cell0 rfl, of_calls ((rn.kb k04).kb kb) fun h6 k6 => vBool_mk (condB (fun ht => hstore hb h6 _ kb k6 (by unfold itemF; rw [if_pos ht])) fun hf => ?_)⟩
    have vb6 := vb.kb k6
    refine ⟨_, vb6.cell 1 rfl, _, vb6.cell 2 rfl, special_calls (((m.kb k04).kb kb).kb k6) (hl _ (List.getElem_mem _)) (vBool_mk (condB (fun hs => ldVar vb6 (newx_var (cs := wStop.map S) fun a7 h7 v7 k7 _ _ => ofLit_calls wStop rfl (by decide +kernel) (by decide +kernel) v7 fun h8 k8 => vBool_mk (condB (fun ht => ?_) fun hf2 => ?_))) fun hs => ?_))⟩
    · exact hcont hb h8 kb ((k6.trans k7).trans k8) (by unfold itemF; rw [if_neg (by rw [hf]; simp), if_neg (by rw [ht]; simp)])
    · exact hstore hb h8 _ kb ((k6.trans k7).trans k8) (by unfold itemF; rw [if_neg (by rw [hf]; simp), if_pos (by rw [hs, hf2]; rfl)])
    · exact hcont hb h6 kb k6 (by unfold itemF; rw [if_neg (by rw [hf]; simp), if_neg (by rw [hs]; simp)])
theorem formatting_calls (m : ML h) (hs : s.length <= 9000000000000000000) {K : Value -> H -> Prop} (hk : K (.bool (formattingP s)) h) : HCalls Tryz.prog 91 ⟨[S s]⟩ h K :=
  Sx.open_Formatting.ok _ _ _ (hasRow_calls wFmt wFmt_ok (by decide +kernel) (by decide +kernel) m hs (vBool_mk (condK (K := fun b => K (.bool b) h) hk)))
end
abbrev AttrR (A : Nat -> Prop) (h : H) (m : AttrP) : Prop := elAttr.R A h m [S m.1, S m.2]
section
variable {A B : Nat -> Prop} {h : H} {a : Addr} {b b2 : Option Addr} {n c n2 c2 : Nat}
theorem attrR {m : AttrP} (h1 : m.1.length <= maxLen) (h2 : m.2.length <= maxLen) : AttrR A h m := ⟨[S m.1], [S m.2], rfl, ⟨rfl, h1⟩, rfl, h2⟩
theorem AttrR.inv {m : AttrP} (r : AttrR A h m) : m.1.length <= maxLen /\ m.2.length <= maxLen := by
  obtain ⟨c1, c2, e, ⟨e1, h1⟩, e2, h2⟩ := r
  exact ⟨h1, h2⟩
theorem ldAttrR {m : AttrP} {K : Bs -> Bs -> Prop} (hA : At elAttr A h a m) (hk : AttrR A h m -> K m.1 m.2) :
    ∃ s, cell h (a.add 0) = some (S s) /\ ∃ t, cell h (a.add 1) = some (S t) /\ K s t :=
  ⟨_, hA.fst.str.1, _, hA.snd.str.1, hk (attrR hA.fst.str.2 hA.snd.str.2)⟩
theorem indexAttr_calls {l : List AttrP} {x : AttrP} (r : Row elAttr A h b n c l) (hx : AttrR A h x) {K : Value -> H -> Prop} (hk : ∀ h' (i : Int), KB h h' -> (0 <= i ↔ x ∈ l) -> K (.int .i64 i) h') :
    HCalls Tryz.prog 233 ⟨[.slice b n c, .agg ⟨[S x.1, S x.2]⟩]⟩ h K := by
  refine Sx.slices_Index_apiAttr.ok _ _ _ _ _ _ _ ?_
  refine newx_var fun a1 h1 v1 k1 e1 _ => ?_
  have r1 := r.kb k1
  have hl := r.len
  have hm : n <= maxLen := Nat.le_trans r.cap r.max
  simp only [maxLen] at hm
  have hA1 : At elAttr (fun _ => True) h1 a1 x := v1.at (attrR hx.inv.1 hx.inv.2) trivial
  refine ⟨n + 1, ?_⟩
  have key : ∀ k i, i + k = n -> (∀ j (h1 : j < l.length), j < i -> l[j] ≠ x) ->
      Sx.slices_Index_apiAttr.n6_L (fun h => K (.int .i64 (-1)) h) (fun h => K (.int .i64 (-1)) h) (fun y4 h => K (.int .i64 y4) h) (k + 1) b n c a1 (n : Int) (i : Int) h1 := by
    intro k
    induction k with
    | zero =>
      intro i hi hall
      refine splF (by omega) (hk h1 (-1) k1 ⟨fun h => absurd h (by decide), fun hm => ?_⟩)
      obtain ⟨j, hj, e⟩ := List.mem_iff_getElem.1 hm
      exact absurd e (hall j hj (by omega))
    | succ k ih =>
      intro i hi hall
      refine splT (by omega) (ldAttrR hA1 fun _ => r1.idxN (by omega) rfl fun a hA => ldAttrR hA fun hR => attrEq ?_)
      refine condB (fun hd => hk h1 i k1 ⟨fun _ => ?_, fun _ => by omega⟩) fun hd => ⟨rng64 (by omega) (by omega), ih (i + 1) (by omega) fun j h1 hj => ?_⟩
      · rw [of_decide_eq_true hd]; exact List.getElem_mem _
      · by_cases e : j < i
        · exact hall j h1 e
        · have : j = i := by omega
          subst this
          exact fun e2 => (of_decide_eq_false hd) e2.symm
  exact key n 0 (by omega) fun j _ hj => absurd hj (Nat.not_lt_zero _)
theorem containsAttr_calls {l : List AttrP} {x : AttrP} (r : Row elAttr A h b n c l) (hx : AttrR A h x) {K : Value -> H -> Prop} (hk : ∀ h', KB h h' -> K (.bool (decide (x ∈ l))) h') :
    HCalls Tryz.prog 218 ⟨[.slice b n c, .agg ⟨[S x.1, S x.2]⟩]⟩ h K := by
  refine Sx.slices_Contains_apiAttr.ok _ _ _ _ _ _ _ ?_
  refine newx_var fun a1 h1 v1 k1 e1 _ => ?_
  have hA1 : At elAttr (fun _ => True) h1 a1 x := v1.at (attrR hx.inv.1 hx.inv.2) trivial
  refine ldAttrR hA1 fun hR => indexAttr_calls (A := fun _ => True) (r.any.kb k1) hR fun h' i k' hi => ?_
  refine spl (fun hp => ?_) fun hp => ?_
  · have := hk h' (k1.trans k')
    rwa [decide_eq_true (hi.1 hp)] at this
  · have := hk h' (k1.trans k')
    rwa [decide_eq_false (fun hm => hp (hi.2 hm))] at this
theorem indexFuncAttr_calls {l : List AttrP} {f : Value} {p : AttrP -> Bool} (r : Row elAttr A h b n c l)
    (hf : ∀ x h1 (next : Value -> H -> Prop), x ∈ l -> KB h h1 -> AttrR A h1 x -> (∀ h2, KB h1 h2 -> next (.bool (p x)) h2) -> CallV Tryz.prog 4 f ⟨[.agg ⟨[S x.1, S x.2]⟩]⟩ h1 next)
    {K : Value -> H -> Prop} (hk : ∀ h' (i : Int), KB h h' -> (0 <= i ↔ l.any p = true) -> K (.int .i64 i) h') :
    HCalls Tryz.prog 234 ⟨[.slice b n c, f]⟩ h K := by
  refine Sx.slices_IndexFunc_apiAttr.ok _ _ _ _ _ _ ?_
  have hl := r.len
  have hm : n <= maxLen := Nat.le_trans r.cap r.max
  simp only [maxLen] at hm
  refine ⟨n + 1, ?_⟩
  have key : ∀ k i h1, i + k = n -> KB h h1 -> (∀ j (h1 : j < l.length), j < i -> p l[j] = false) ->
      Sx.slices_IndexFunc_apiAttr.n6_L (fun h => K (.int .i64 (-1)) h) (fun h => K (.int .i64 (-1)) h) (fun y4 h => K (.int .i64 y4) h) (k + 1) b n c f (n : Int) (i : Int) h1 := by
    intro k
    induction k with
    | zero =>
      intro i h1 hi k1 hall
      refine splF (by omega) (hk h1 (-1) k1 ⟨fun h => absurd h (by decide), fun hm => ?_⟩)
      obtain ⟨x, hx, hp⟩ := List.any_eq_true.1 hm
      obtain ⟨j, hj, e⟩ := List.mem_iff_getElem.1 hx
      have := hall j hj (by omega)
      rw [e, hp] at this; cases this
    | succ k ih =>
      intro i h1 hi k1 hall
      refine splT (by omega) ((r.kb k1).idxN (by omega) rfl fun a hA => ldAttrR hA fun hR => hf _ h1 _ (List.getElem_mem _) k1 hR fun h2 k2 => ?_)
      refine condB (fun hd => hk h2 i (k1.trans k2) ⟨fun _ => List.any_eq_true.2 ⟨_, List.getElem_mem _, hd⟩, fun _ => by omega⟩) fun hd => ⟨rng64 (by omega) (by omega), ih (i + 1) h2 (by omega) (k1.trans k2) fun j h1 hj => ?_⟩
      by_cases e : j < i
      · exact hall j h1 e
      · have : j = i := by omega
        subst this
        exact hd
  exact key n 0 h (by omega) (KB.refl h) fun j _ hj => absurd hj (Nat.not_lt_zero _)
theorem containsFuncAttr_calls {l : List AttrP} {f : Value} {p : AttrP -> Bool} (r : Row elAttr A h b n c l)
    (hf : ∀ x h1 (next : Value -> H -> Prop), x ∈ l -> KB h h1 -> AttrR A h1 x -> (∀ h2, KB h1 h2 -> next (.bool (p x)) h2) -> CallV Tryz.prog 4 f ⟨[.agg ⟨[S x.1, S x.2]⟩]⟩ h1 next)
    {K : Value -> H -> Prop} (hk : ∀ h', KB h h' -> K (.bool (l.any p)) h') :
    HCalls Tryz.prog 219 ⟨[.slice b n c, f]⟩ h K := by
  refine Sx.slices_ContainsFunc_apiAttr.ok _ _ _ _ _ _ (indexFuncAttr_calls r hf fun h' i k' hi => ?_)
  refine spl (fun hp => ?_) fun hp => ?_
  · have := hk h' k'
    rwa [hi.1 hp] at this
  · have := hk h' k'
    have e : l.any p = false := by
      cases hq : l.any p with
      | false => rfl
      | true => exact absurd (hi.2 hq) hp
    rwa [e] at this
theorem other_calls {y : MarkP} {x : AttrP} {a : Addr} (hA : At elMark A h a y) (hx : AttrR B h x) {K : Value -> H -> Prop} (hk : ∀ h', KB h h' -> K (.bool (!decide (x ∈ y.2.2))) h') :
    HCalls Tryz.prog 217 ⟨[.agg ⟨[S x.1, S x.2]⟩, .pointer (some a)]⟩ h K := by
  refine Sx.marks_alike_1.ok _ _ _ _ _ (newx_var fun a1 h1 v1 k1 e1 _ => ?_)
  have hA1 : At elAttr (fun _ => True) h1 a1 x := v1.at (attrR hx.inv.1 hx.inv.2) trivial
  refine ldSl ((hA.kb k1).snd.sndAt (k := 2) rfl) fun b n c r hz => ldAttrR hA1 fun hR => containsAttr_calls r hR fun h' k' => ?_
  have := hk h' (k1.trans k')
  cases hd : decide (x ∈ y.2.2) <;> rw [hd] at this <;> exact this
theorem alikeM_calls {x y : MarkP} (hx : MarkR A h x b n c) (hy : MarkR B h y b2 n2 c2) {K : Value -> H -> Prop} (hk : ∀ h', KB h h' -> K (.bool (alikeP x y)) h') :
    HCalls Tryz.prog 198 ⟨[.agg ⟨[.int .i64 x.1, S x.2.1, .slice b n c]⟩, .agg ⟨[.int .i64 y.1, S y.2.1, .slice b2 n2 c2]⟩]⟩ h K := by
  refine Sx.marks_alike.ok _ _ _ _ _ _ _ _ _ _ _ _ (newx_var fun a1 h1 v1 k1 e1 _ => newx_var fun a2 h2 v2 k2 e2 _ => ?_)
  have hA1 : At elMark (fun _ => True) h2 a1 x := (v1.at (A := fun _ => True) (MarkR.any hx |>.kb k1) trivial).kb k2
  have hA2 : At elMark (fun _ => True) h2 a2 y := v2.at (A := fun _ => True) (MarkR.any hy |>.kb (k1.trans k2)) trivial
  refine ldS hA1.snd.fst fun _ => ldS hA2.snd.fst fun _ => spl (fun e1 => ?_) fun e1 => ?_
  · refine ldSl (hA1.snd.sndAt (k := 2) rfl) fun b n c r _ => ldSl (hA2.snd.sndAt (k := 2) rfl) fun b2 n2 c2 r2 _ => spl (fun e2 => ?_) fun e2 => ?_
    · have e2' : x.2.2.length = y.2.2.length := by rw [r.len, r2.len]; omega
      refine ldSl (hA1.snd.sndAt (k := 2) rfl) fun b n c r _ => containsFuncAttr_calls (p := fun z => !decide (z ∈ y.2.2)) r (fun z h3 next hz k3 hzR hn => ?_) fun h' k' => ?_
      · have e : CallV Tryz.prog 4 (.func (.func 217) ⟨[]⟩ ⟨[.pointer (some a2)]⟩) ⟨[.agg ⟨[S z.1, S z.2]⟩]⟩ h3 next = HCalls Tryz.prog 217 ⟨[.agg ⟨[S z.1, S z.2]⟩, .pointer (some a2)]⟩ h3 fun v h' => vBool v fun b => cond b (next (.bool true) h') (next (.bool false) h') := by kernel_rfl
        rw [e]
        refine other_calls (hA2.kb k3) hzR fun h4 k4 => ?_
        have := hn h4 k4
        cases hd : (!decide (z ∈ y.2.2)) <;> rw [hd] at this <;> exact this
      · have := hk h' ((k1.trans k2).trans k')
        have e3 : alikeP x y = !(x.2.2.any fun z => !decide (z ∈ y.2.2)) := by
          unfold alikeP
          rw [decide_eq_true e1, decide_eq_true e2', Bool.true_and, Bool.true_and, List.all_eq_not_any_not]
        rw [e3] at this
        cases hd : (x.2.2.any fun z => !decide (z ∈ y.2.2)) <;> rw [hd] at this <;> exact this
    · have e2' : x.2.2.length ≠ y.2.2.length := by rw [r.len, r2.len]; omega
      have := hk h2 (k1.trans k2)
      rwa [show alikeP x y = false by simp [alikeP, e2']] at this
  · have := hk h2 (k1.trans k2)
    rwa [show alikeP x y = false by simp [alikeP, e1]] at this
end
section
variable {A B : Nat -> Prop} {h : H} {b b2 : Option Addr} {n c n2 c2 : Nat} {l : List MarkP} {m : MarkP}
theorem fresh_calls (hA : ∀ k, A k -> k < h.size) (r : Row elMark A h b n c l) {K : Value -> H -> Prop} (hk : ∀ h', KB h h' -> K (.int .i64 (behind l)) h') : HCalls Tryz.prog 197 ⟨[.slice b n c]⟩ h K := by
  refine Sx.marks_fresh.ok _ _ _ _ _ (newx_var fun x2 h1 v1 k1 e1 _ => backward_calls (r.kb k1) fun a h2 v2 k2 e2 => ?_)
  have hm : n <= maxLen := Nat.le_trans r.cap r.max
  simp only [maxLen] at hm
  have hl := r.len
  obtain ⟨xs, hB, hE⟩ := backward_emits ((r.kb k1).kb k2) v2
  have hne : ¬ (A x2.block ∨ x2.block = a.block) := fun e => by
    have := v1.lt
    rcases e with e | e
    · have := hA _ e; omega
    · omega
  have v12 := v1.kb k2
  have k02 : KB h h2 := k1.trans k2
  have k02s := k02.1
  refine ⟨xs, Non, _, hE, hB.len, rounds_of (fun xs h' => KB h2 h' /\ ∃ i, Backs A h' l i xs /\ behindTo l i = behind l) (fun xs h' h'' ⟨k, i, hb, e⟩ n => ⟨k.nz n (Nat.le_succ _), i, hb.kw n.kw, e⟩) ?_ ?_ xs h2 ⟨KB.refl _, l.length, hB, rfl⟩⟩
  · rintro x xs h3 Kc ⟨k3, i, hb, e⟩ hKc
    cases i with
    | zero => simp [Backs] at hb
    | succ i =>
      obtain ⟨hi, b', n', c', rest, hm', e', hr⟩ := hb
      cases e'
      refine rdMark (newx_var fun a4 h4 v4 k4 e4 _ => stL_var0 v4 (Nat.le_refl _) fun h5 v5 k5 s5 => ?_)
      have k35 : KB h3 h5 := KB.step k4 k5 (by omega)
      refine ⟨(k4.kp).trans (KX.kp v4 k5 fun e => ?_), fun h6 n6 => ?_⟩
      · have := k3.1; have h22 := k02.1
        rcases e with e | e
        · have := hA _ e; omega
        · have := v2.lt; omega
      have v6 := v5.kw n6.kw
      refine ⟨_, v6.cell 0 rfl, spl (fun hneg => ⟨rng64 (by omega) (by omega), ?_⟩) fun hneg => ?_⟩
      · have k26 : KB h2 h6 := (k3.trans k35).nz n6 (Nat.le_succ _)
        have vx := v12.kb k26
        refine stL_var0 vx (Nat.le_refl _) fun h7 v7 k7 s7 => ⟨KX.kp vx k7 hne, fun h8 n8 hd => ?_⟩
        refine leave_int hd ((KB.step (k02.trans k26) k7 (by omega)).nz n8 (by omega)) k02s (v7.kw n8.kw) fun h' k' => ?_
        have : (behind l : Int) = (i : Int) + 1 := by
          rw [<- e]; unfold behindTo; rw [getD_get hi, if_pos hneg]; rfl
        rw [<- this]; exact hk h' k'
      · refine hKc _ _ (KpP.refl _ _) ⟨(k3.trans k35).nz n6 (Nat.le_succ _), i, (hr.kw (KB.w k35)).kw n6.kw, ?_⟩
        rw [<- e]
        conv => rhs; unfold behindTo
        rw [getD_get hi, if_neg hneg]
  · rintro h3 ⟨k3, i, hb, e⟩ hd
    cases i with
    | succ i => obtain ⟨_, _, _, _, _, _, e', _⟩ := hb; cases e'
    | zero =>
      have vx := v12.kb k3
      refine stL_var0 vx (Nat.le_refl _) fun h7 v7 k7 s7 => ?_
      refine leave_int (vx.dOpen k7 hd) (KB.step (k02.trans k3) k7 (by omega)) k02s v7 fun h' k' => ?_
      have : (behind l : Int) = 0 := by rw [<- e]; rfl
      rw [this] at hk; exact hk h' k'
end
end Go.Proofs
namespace Go.Proofs
open Go Go.Sh
set_option linter.unusedVariables false
set_option maxRecDepth 100000
section
variable {h h' : H} {K : Value -> H -> Prop} {col col' : Col} {s i p : Nat} {t a : Addr} {ns : List NodeM} {x y : NodeM} {lb : Option Addr} {lc : Nat} {rs : List RawN} {r : RawN}
end
end Go.Proofs
namespace Go.Proofs
open Go Go.Sh
set_option linter.unusedVariables false
set_option maxRecDepth 100000
section
variable {h : H} {K : Value -> H -> Prop} {col : Col} {s i : Nat} {t a : Addr} {ads : List Addr} {ns : List NodeM} {x : NodeM}
theorem copy_calls (T : TreeP h col s t ads ns) {id : Int} (hfew : ns.length < 1000000) (hk : ∀ h' col' ads', TreeP h' col' s t ads' (copyM ns id).1 -> Ext s h col h' col' -> K (.int .i64 (copyM ns id).2) h') :
    HCalls Tryz.prog 238 ⟨[.pointer (some t), .int .i64 id]⟩ h K := by
  refine Sx.dom_Tree_Copy.ok _ _ _ _ (at_calls T (fun hn => vPtrMk (ptrEq_k (by kernel_rfl) (vBool_mk (condT ?_)))) fun i a x e hx ha => vPtrMk (ptrEq_k (by kernel_rfl) (vBool_mk (condF ?_))))
  · have : copyM ns id = (ns, -1) := by unfold copyM; rw [if_neg hn]
    rw [this] at hk
    exact hk h col ads T (Ext.refl _ _ _)
  · have N := T.nodes i x a hx ha
    obtain ⟨ab, an, ac, kb, kn, kc, v, ra, hz, _⟩ := N.ex
    have hlt := (List.getElem?_eq_some_iff.1 hx).1
    have : copyM ns id = addM ns (bareM x.kind x.space x.name x.attrs x.text) := by
      unfold copyM
      rw [if_pos (by omega), e, Int.toNat_natCast, hx]; rfl
    rw [this] at hk
    have hra := ra.len
    have hfa := N.fa
    exact vSomeMk ⟨_, v.cellZ 0 rfl, _, v.cellZ 1 rfl, _, v.cellZ 2 rfl, _, _, _, v.cellZ 3 rfl, _, v.cellZ 4 rfl, _, _, _, v.cellZ 5 rfl, make_calls T ra hz (by omega) N.rk N.rs N.fn N.ft hfew fun h' col' ads' T' e' => vIntMk (hk h' col' ads' T' e')⟩
end
section
variable {h : H} {K : Value -> H -> Prop} {col : Col} {s i p : Nat} {t a : Addr} {ads : List Addr} {ns : List NodeM} {x y : NodeM}
theorem appI_k {b b2 : Option Addr} {n c n2 c2 : Nat} {l l2 : List Int} (o : OwnI h b n c l) (o2 : OwnI h b2 n2 c2 l2) (hn : n + n2 <= 1000000)
    (hk : ∀ b' c' h', OwnI h' b' (n + n2) c' (l ++ l2) -> Grow h h' b -> NewB h b b' -> K (.slice b' (n + n2) c') h') :
    SemH Tryz.prog (Builtin.append_ #[82, 82] 82 ⟨[.slice b n c, .slice b2 n2 c2]⟩) h K := by
  obtain ⟨i, z, ht, hi, hz, hzs, hsz, hby⟩ := apdInt.is
  have hsz : i.size = 1 := hsz
  refine append_own (base := 0) ht hi hz hzs (by rw [hsz]; exact o.own) (by rw [hsz]; simpa using o2.len) o2.own.cells (oneI l2) (by rw [hsz]; decide) (by simp only [maxLen]; omega) (by rw [hby]; omega) (Nat.zero_le _) fun b' c' h' o' g' hb h0 => hk b' c' h' ⟨by rw [hsz] at o'; rw [List.map_append]; exact o', fun x hx => ?_, fun e => ?_, fun q e => ?_⟩ g' fun q e => ?_
  · rcases List.mem_append.1 hx with hx | hx
    · exact o.rng x hx
    · exact o2.rng x hx
  · rcases o'.is with h1 | ⟨g, cur, e1, _⟩
    · exact h1.2
    · rw [e] at e1; cases e1
  · rcases o'.is with h1 | ⟨g, cur, e1, _, hg, _⟩
    · have := h0 h1.1
      exact Nat.lt_of_lt_of_le (o.hi q (this.1 ▸ e)) g'.size
    · rw [e] at e1; cases e1; exact (Array.getElem?_eq_some_iff.1 hg).1
  · rcases hb with rfl | rfl
    · exact .inl e
    · cases e; exact .inr (Nat.le_refl _)
theorem move_calls (T : TreeP h col s t ads ns) (G : GoodT ns) {f dst : Int} (hk : ∀ h' col', TreeP h' col' s t ads (moveM ns f dst).1 -> Ext s h col h' col' -> K (.bool (moveM ns f dst).2) h') :
    HCalls Tryz.prog 239 ⟨[.pointer (some t), .int .i64 f, .int .i64 dst]⟩ h K := by
  have hlen := T.len
  have no : ¬ ((0 <= f /\ f < ns.length) /\ holdB ns dst = true /\ (((ns[f.toNat]?).map (·.kids)).getD []) ≠ [] /\ withinP ns dst f = false) -> ∀ h', KB h h' -> K (.bool false) h' := fun hn h' k => by
    have : moveM ns f dst = (ns, false) := by unfold moveM; rw [if_neg hn]
    rw [this] at hk
    exact hk h' col (T.kb k) (Ext.kb k)
  refine Sx.dom_Tree_Move.ok _ _ _ _ _ (at_calls T (fun hn => vPtrMk (holder_calls T (fun hn2 => vPtrMk (ptrEq_k (by kernel_rfl) (vBool_mk (condT (no (fun hh => hn hh.1) h (KB.refl h)))))) fun p ap y ep hy hap hor => vPtrMk (ptrEq_k (by kernel_rfl) (vBool_mk (condT (no (fun hh => hn hh.1) h (KB.refl h))))))) fun i ai x ei hx hai => vPtrMk (holder_calls T (fun hn2 => vPtrMk (ptrEq_k (by kernel_rfl) (vBool_mk (condF (ptrEq_k (by kernel_rfl) (vBool_mk (condT (no (fun hh => hn2 (holdB_nat hh.2.1)) h (KB.refl h))))))))) fun p ap y ep hy hap hor => vPtrMk (ptrEq_k (by kernel_rfl) (vBool_mk (condF (ptrEq_k (by kernel_rfl) (vBool_mk (condF ?_))))))))
  have hil := getI hx
  have hpl := getI hy
  have Ni := T.nodes i x ai hx hai
  obtain ⟨ab, an, ac, kb, kn, kc, v, ra, hz, ok, hkc⟩ := Ni.ex
  have e1 : f.toNat = i := by rw [ei]; exact Int.toNat_natCast i
  have e2 : dst.toNat = p := by rw [ep]; exact Int.toNat_natCast p
  rw [e1, hx] at no
  have hkl := ok.len
  refine vSomeMk ⟨_, _, _, v.cell 7 rfl, spl (fun e => no (fun hh => hh.2.2.1 (List.eq_nil_of_length_eq_zero (by show x.kids.length = 0; omega))) h (KB.refl h)) fun e => within_calls T G (by omega) fun h1 k1 => vBool_mk (condB (fun e => no (fun hh => by rw [e] at hh; cases hh.2.2.2) h1 k1) fun hw => ?_)⟩
  have hhb : holdB ns dst = true := by
    unfold holdB
    rw [ep, Int.toNat_natCast, hy, decide_eq_true (show 0 <= (p : Int) /\ (p : Int) < ns.length by omega)]
    exact decide_eq_true (hor.imp (fun h => by omega) (fun h => h))
  have hm : moveM ns f dst = (moveAt ns i p x.kids y.kids, true) := by
    unfold moveM
    rw [e1, e2, hx, hy]
    rw [if_pos ⟨by omega, hhb, fun h0 => by have h0 : x.kids = [] := h0; rw [h0] at hkl; simp at hkl; omega, hw⟩]
    rfl
  rw [hm] at hk
  have hnw : ¬ InC ns dst f := fun hh => by
    unfold withinP at hw
    rw [@decide_eq_true (InC ns dst f) (Classical.propDecidable _) hh] at hw; cases hw
  have hne : i ≠ p := fun e => hnw (by rw [ep, ei, <- e]; exact inC_step.2 (.inl rfl))
  have T1 := T.kb k1
  have v1 := v.kb k1
  have ok1 : OwnI h1 kb kn kc x.kids := ok.keep (KB.w k1) fun q e => ok.hi q e
  have hfew := G.few hx
  have hfy := G.few hy
  have hft := T.few
  have hnd := G.nodup i x hx
  refine vSomeMk ⟨_, _, _, v1.cell 7 rfl, kn + 1, ?_⟩
  have key : ∀ N m h2, m + N = kn -> TreeP h2 col s t ads (parsTo ns (x.kids.take m) p) -> OwnI h2 kb kn kc x.kids -> Ext s h col h2 col ->
      Sx.dom_Tree_Move.n8_L (fun z7 z8 h => Sx.dom_Tree_Move.n5 z7 z8 (fun y6 h => K (.bool y6) h) (fun y6 h => K (.bool y6) h) h) (fun z7 z8 h => Sx.dom_Tree_Move.n5 z7 z8 (fun y6 h => K (.bool y6) h) (fun y6 h => K (.bool y6) h) h) (fun y6 h => K (.bool y6) h) (N + 1) (some t) dst (some ai) (some ap) kb kn kc (kn : Int) (m : Int) h2 := by
    intro N
    induction N with
    | zero =>
      intro m h2 hmN T2 o2 E2
      unfold Sx.dom_Tree_Move.n8_L
      refine splF (by omega) ?_
      rw [List.take_of_length_le (by omega)] at T2
      have hip : (i : Int) ∉ x.kids := fun h => by
        obtain ⟨q, w, e, hw2, hq⟩ := (G.kid i x _ hx).1 h
        have : q = i := by omega
        subst this
        rw [hx] at hw2; cases hw2
        exact G.ne_par hx hq rfl
      have hpp : (p : Int) ∉ x.kids := fun h => by
        obtain ⟨q, w, e, hw2, hq⟩ := (G.kid i x _ hx).1 h
        have : q = p := by omega
        subst this
        exact hnw (by rw [ep, ei]; exact inC_step.2 (.inr (by rw [parI_some hw2, hq]; exact inC_step.2 (.inl rfl))))
      have hx2 : (parsTo ns x.kids p)[i]? = some x := by rw [parsTo_get hx, if_neg hip]
      have hy2 : (parsTo ns x.kids p)[p]? = some y := by rw [parsTo_get hy, if_neg hpp]
      obtain ⟨ab2, an2, ac2, kb2, kn2, kc2, v2, ra2, hz2, ok2, hkc2⟩ := (T2.nodes p y ap hy2 hap).ex
      obtain ⟨ab3, an3, ac3, kb3, kn3, kc3, v3, ra3, hz3, ok3, hkc3⟩ := (T2.nodes i x ai hx2 hai).ex
      have hl2 := ok2.len
      have hl3 := ok3.len
      have hsum : kn2 + kn3 <= 1000000 := by
        have Gm := G.move hx hy (by rw [<- ei, <- ep]; exact hnw)
        have h1 := Gm.few (moveAt_get hy)
        have h1 : (if p = i then [] else if p = p then y.kids ++ x.kids else y.kids).length <= _ := h1
        rw [if_neg (Ne.symm hne), if_pos rfl, List.length_append, moveAt_len] at h1
        omega
      refine vSomeMk ⟨_, _, _, v2.cell 7 rfl, vSomeMk ⟨_, _, _, v3.cell 7 rfl, appI_k ok2 ok3 hsum fun b' c' h3 o3 g3 nb => vSliceMk (vSomeMk (stKidsG T2 hap hy2 v2 ra2 hz2 hkc2 g3 o3 nb fun h4 col4 T4 E4 => vSomeMk ?_))⟩⟩
      have hx4 : ((parsTo ns x.kids p).set p { y with kids := y.kids ++ x.kids })[i]? = some x := by rw [List.getElem?_set_ne (Ne.symm hne)]; exact hx2
      obtain ⟨ab5, an5, ac5, kb5, kn5, kc5, v5, ra5, hz5, ok5, hkc5⟩ := (T4.nodes i x ai hx4 hai).ex
      refine stKidsG T4 hai hx4 v5 ra5 hz5 hkc5 (Grow.refl h4 kb5) (OwnI.none h4) (fun q e => by cases e) fun h5 col5 T5 E5 => ?_
      have efin : ((parsTo ns x.kids p).set p { y with kids := y.kids ++ x.kids }).set i { x with kids := [] } = moveAt ns i p x.kids y.kids := by
        refine List.ext_getElem? fun j => ?_
        rw [get_set2 (by rw [parsTo_len]; exact hil) (by rw [parsTo_len]; exact hpl)]
        by_cases e : j = i
        · rw [if_pos e, e, moveAt_get hx, if_neg hip, if_pos rfl]
        · rw [if_neg e]
          by_cases e2 : j = p
          · rw [if_pos e2, e2, moveAt_get hy, if_neg hpp, if_neg (Ne.symm hne), if_pos rfl]
          · rw [if_neg e2]
            cases hj : ns[j]? with
            | none =>
              rw [List.getElem?_eq_none (by rw [parsTo_len]; exact List.getElem?_eq_none_iff.1 hj), List.getElem?_eq_none (by rw [moveAt_len]; exact List.getElem?_eq_none_iff.1 hj)]
            | some z =>
              rw [parsTo_get hj, moveAt_get hj, if_neg e, if_neg e2]
              by_cases hm2 : (j : Int) ∈ x.kids
              · rw [if_pos hm2, if_pos hm2]
              · rw [if_neg hm2, if_neg hm2]
      rw [efin] at T5
      exact hk h5 col5 T5 ((E2.trans E4).trans E5)
    | succ N ih =>
      intro m h2 hmN T2 o2 E2
      unfold Sx.dom_Tree_Move.n8_L
      have hml : m < x.kids.length := by omega
      refine splT (by omega) ((o2.row (A := fun _ => True) fun _ _ => trivial).idxN hml rfl fun q hA => ldI hA fun _ => ?_)
      obtain ⟨j, z, ej, hz', hpz⟩ := (G.kid i x _ hx).1 (List.getElem_mem hml)
      have hjl := getI hz'
      obtain ⟨lb, lc, vt, o, hl2⟩ := T2.ex
      have hll : (parsTo ns (x.kids.take m) p).length = ns.length := parsTo_len
      have hno : (j : Int) ∉ x.kids.take m := fun hm2 => by
        rw [<- ej] at hm2
        obtain ⟨q, hq, e⟩ := List.getElem_of_mem hm2
        rw [List.length_take] at hq
        rw [List.getElem_take] at e
        have := (List.getElem_inj hnd).1 e
        omega
      rw [ej]
      refine vSomeMk ⟨_, _, _, vt.cell 0 rfl, ?_⟩
      rw [hll]
      have o' := o
      rw [hll] at o'
      refine o'.row.idxN (i := j) (by omega) rfl fun q2 hA2 => ldPtr hA2 (vSomeMk ?_)
      have haj : ads[j]? = some (ads[j]'(by omega)) := List.getElem?_eq_getElem (by omega)
      have hzj : (parsTo ns (x.kids.take m) p)[j]? = some z := by rw [parsTo_get hz', if_neg hno]
      have Nj := T2.nodes j z _ hzj haj
      rw [ep]
      refine stPar T2 haj hzj (rngI (by omega) (by omega)) fun h3 T3 E3 k3 => ⟨rngI (by omega) (by omega), ?_⟩
      rw [parsTo_step hz' hno, <- ej, show x.kids.take m ++ [x.kids[m]] = x.kids.take (m + 1) by rw [List.take_add_one, List.getElem?_eq_getElem hml]; rfl] at T3
      have := ih (m + 1) h3 (by omega) T3 (o2.keep k3.w fun q e e3 => by
        have h1 := hkc q e
        have h2 := Nj.col
        rw [<- e3, h1] at h2
        have := (Prod.mk.inj (Option.some.inj h2)).2; omega) (E2.trans E3)
      rw [ep] at this
      exact this
  exact key kn 0 h1 (by omega) (by rw [List.take_zero, parsTo_nil]; exact T1) ok1 (Ext.kb k1)
end
end Go.Proofs
namespace Go.Proofs
open Go Go.Sh
set_option linter.unusedVariables false
set_option maxRecDepth 100000
section
variable {h h' : H} {K : Value -> H -> Prop} {col col' : Col} {s i p : Nat} {t a : Addr} {ns : List NodeM} {x y : NodeM} {lb : Option Addr} {lc : Nat} {rs : List RawN} {r : RawN}
end
end Go.Proofs
namespace Go.Proofs
open Go Go.Sh
set_option linter.unusedVariables false
set_option maxRecDepth 100000
section
variable {A B : Nat -> Prop} {h h' : H} {K : Value -> H -> Prop} {col col' : Col} {w t : Addr} {m : WM} {nm : Bs} {u v x ty hi' : Nat} {hi : Int} {fo : Bool} {op : List OpenP} {mk : List MarkP} {ns : List NodeM} {b : Option Addr} {n c : Nat}
theorem app_drop {α : Type} {E : El α} {tt e by' : Nat} {P : Program} (ap : Apd P E tt e by') {base : Nat} {h1 : H} {sb rb : Option Addr} {n1 c1 n cc : Nat} {l1 l : List α} {xs : List Value} (o : OwnA E A h1 base e sb n1 c1 l1) (hA : ∀ k, A k -> k < base) (k1 : KB h h1) (hb0 : h.size <= base) (hb1 : base <= h1.size)
    (he : Enc E A h l xs) (hA0 : ∀ k, A k -> k < h.size) (hc : Cells h rb xs) (hl : l.length = n) {lo : Nat} (hlo : lo <= n) (hcc : n <= cc) (hn : n1 + n <= 100000000) (hby : (n1 + (n - lo)) * by' <= 140737488355328) {K : Value -> H -> Prop}
    (hk : ∀ b' c' h', OwnA E A h' base e b' (n1 + (n - lo)) c' (l1 ++ l.drop lo) -> KB h h' -> K (.slice b' (n1 + (n - lo)) c') h') :
    SemH P (Builtin.append_ #[tt, tt] tt ⟨[.slice sb n1 c1, .slice (if cc = lo then rb else Option.map (fun q => q.add (lo * E.sz)) rb) (n - lo) (cc - lo)]⟩) h1 K := by
  have hxl : xs.length = n * E.sz := by rw [he.len, hl]
  have hcd := Cells.drop (c := cc) (lo := lo) (z := E.sz) hc (fun e => List.drop_of_length_le (by
    rw [hxl]
    have h2 : n = lo := by omega
    rw [h2]; exact Nat.le_refl _))
  have hed := he.drop lo
  refine OwnA.append ap o hA (l2 := l.drop lo) (by rw [List.length_drop, hl]) (hed.keep ((KB.w k1).less fun k hk => hk.2) fun _ h _ => h) (fun j u hu => by
    obtain ⟨q, e, ec⟩ := hcd j u hu
    exact ⟨q, e, (KB.w k1).cell (cell_lt ec) ec⟩) (by simp only [maxLen]; omega) hby hb1 fun b4 c4 h4 o4 g4 => hk b4 c4 h4 o4 (g4.kb0 k1 fun q e => Nat.le_trans hb0 (o.lo q e))
end
end Go.Proofs
namespace Go.Proofs
open Go Go.Sh
set_option linter.unusedVariables false
set_option maxRecDepth 100000
theorem cutA_k {α : Type} {E : El α} {t ty e by' : Nat} {P : Program} (ap : Apd P E t e by') {A : Nat -> Prop} {h : H} {sb rb : Option Addr} {n c m k : Nat} {l l2 : List α} {xs news : List Value} (hA : ∀ k, A k -> k < h.size) (he : Enc E A h l xs) (hc : Cells h sb xs) (hl : l.length = n) (hnc : n <= c) (hfull : c < n + m) (hm : 0 < m)
    (hl2 : l2.length = m) (hen : Enc E A h l2 news) (hcn : Cells h rb news) (hsb : sb = none -> c = 0) (h63 : n + m <= maxLen) (hb : (n + m) * by' <= 140737488355328) {K : Value -> H -> Prop}
    (hK : ∀ c' h', OwnA E A h' h.size e (some (Ad h.size)) (n + m) c' (l ++ l2) -> KB h h' -> K (.slice (some (Ad h.size)) (n + m) c') h') :
    SemH P (Builtin.append_ #[t, t] ty ⟨[.slice sb n c, .slice rb m k]⟩) h K := by
  obtain ⟨i, z, ht, hi, hz, hzs, hsz, hby⟩ := ap.is
  refine append_cut (xs := xs) (news := news) ht hi hz hzs (by rw [he.len, hl, hsz]) hc hnc (.inr hfull) (by rw [hen.len, hl2, hsz]) hcn (by rw [hsz]; exact E.pos) h63 (by rw [hby]; exact hb)
    (fun e => ⟨by have := hsb e; omega, hsb e⟩) (fun e => by omega) fun c' h' hm ho hk => ?_
  have hlt : h.size < h'.size := by
    rcases ho.is with ⟨h0, _⟩ | ⟨g, cur, e, _, hg, _⟩
    · omega
    · cases e; exact (Array.getElem?_eq_some_iff.1 hg).1
  exact hK c' h' ⟨⟨by rw [List.length_append, hl, hl2], xs ++ news, by rw [<- hsz]; exact ho, (he.append hen).keep ((KB.w hk).less fun k hk => hk.2) fun _ h _ => h⟩, fun a e => by cases e; exact Nat.le_refl _, fun a e => by cases e; exact hlt, fun e => by cases e⟩ hk
theorem setAll_mid : ∀ (l cs : List Value) (i : Nat), i + l.length <= cs.length -> setAll cs i l = cs.take i ++ l ++ cs.drop (i + l.length)
  | [], cs, i, h => by rw [setAll, List.append_nil, List.length_nil, Nat.add_zero, List.take_append_drop]
  | v :: l, cs, i, h => by
    have hi : i < cs.length := by simp at h; omega
    rw [setAll, setAll_mid l _ _ (by simp at h ⊢; omega)]
    have e1 : (cs.set i v).take (i + 1) = cs.take i ++ [v] := by
      rw [List.take_set, List.take_add_one, List.getElem?_eq_getElem hi, List.set_append_right _ _ (by rw [List.length_take]; omega), List.length_take, Nat.min_eq_left (by omega), Nat.sub_self]; rfl
    have e2 : (cs.set i v).drop (i + 1 + l.length) = cs.drop (i + (v :: l).length) := by
      rw [List.drop_set_of_lt (by omega), List.length_cons]; congr 1; omega
    rw [e1, e2, List.append_assoc, List.append_assoc, List.append_assoc]; rfl
section
variable {α : Type} {E : El α} {A : Nat -> Prop} {h : H} {base e n c : Nat} {b : Option Addr} {l : List α}
theorem OwnA.setE (o : OwnA E A h base e b n c l) (hA : ∀ k, A k -> k < base) {i : Nat} (hi : i < n) {x : α} {cs : List Value} (hR : E.R A h x cs) {Q : H -> Prop}
    (hk : ∀ h' g, b = some (Ad g) -> base <= g -> OwnA E A h' base e b n c (l.set i x) -> KX g h h' -> h'.size = h.size -> Q h') : vSome b fun a => stL (a.add (i * E.sz)) cs 0 h Q := by
  obtain ⟨xs, ow, en⟩ := o.own.own
  have hl := o.len
  have hcl := E.len _ _ _ _ hR
  rcases ow.is with ⟨h0, _⟩ | ⟨g, cur, rfl, hbg, hg, hcs, htk⟩
  · omega
  have v : Var h (Ad g) e cur.toList := ⟨rfl, by show h[g]? = _; rw [hg]⟩
  have hi1 : (i + 1) * E.sz = i * E.sz + E.sz := Nat.succ_mul _ _
  have hi2 : (i + 1) * E.sz <= n * E.sz := Nat.mul_le_mul_right _ hi
  have hcap := Nat.mul_le_mul_right E.sz ow.cap
  have hxl := ow.len
  have hsz : cur.toList.length = c * E.sz := by rw [Array.length_toList]; exact hcs
  refine vSomeMk (stL_var (m := i * E.sz) (i := 0) v (by rw [hcl, hsz]; omega) fun h' v' k' s' => ?_)
  rw [Nat.add_zero, setAll_mid cs cur.toList (i * E.sz) (by rw [hcl, hsz]; omega), hcl] at v'
  have hxe : xs.take (i * E.sz) ++ cs ++ xs.drop (i * E.sz + E.sz) = (cur.toList.take (i * E.sz) ++ cs ++ cur.toList.drop (i * E.sz + E.sz)).take (n * E.sz) := by
    rw [<- htk, List.take_take, Nat.min_eq_left (by omega), List.drop_take]
    have h1 : (cur.toList.take (i * E.sz) ++ cs).length = i * E.sz + E.sz := by rw [List.length_append, List.length_take, hcl, hsz]; omega
    have h2 := List.take_length_add_append (l₁ := cur.toList.take (i * E.sz) ++ cs) (l₂ := cur.toList.drop (i * E.sz + E.sz)) (i := n * E.sz - (i * E.sz + E.sz))
    rw [h1, show i * E.sz + E.sz + (n * E.sz - (i * E.sz + E.sz)) = n * E.sz by omega] at h2
    exact h2.symm
  have hgl : g < h.size := (Array.getElem?_eq_some_iff.1 hg).1
  refine hk h' g rfl hbg ⟨⟨by rw [List.length_set]; exact hl, xs.take (i * E.sz) ++ cs ++ xs.drop (i * E.sz + E.sz), ⟨?_, ow.cap, ow.max, .inr ⟨g, _, rfl, hbg, v'.cells, ?_, hxe.symm⟩⟩, ?_⟩, o.lo, fun a ea => by cases ea; rw [s']; exact hgl, o.nil⟩ k' s'
  · rw [List.length_append, List.length_append, List.length_take, List.length_drop, hcl, hxl]; omega
  · show (cur.toList.take (i * E.sz) ++ cs ++ cur.toList.drop (i * E.sz + E.sz)).toArray.size = _
    rw [List.size_toArray, List.length_append, List.length_append, List.length_take, List.length_drop, hcl, hsz]; omega
  · have e1 : l.set i x = l.take i ++ ([x] ++ l.drop (i + 1)) := by rw [List.set_eq_take_append_cons_drop, if_pos (by omega)]; rfl
    rw [e1, List.append_assoc, <- hi1]
    have eo : Enc E A h [x] cs := ⟨cs, [], by simp, hR, rfl⟩
    exact ((en.take i).append (eo.append (en.drop (i + 1)))).keep (k'.w.less fun k hk => fun e2 => by have := hA k hk.1; have e2 : k = g := e2; omega) fun _ h _ => h
theorem OwnA.clr1 {P : Program} {t by' : Nat} (ap : Apd P E t e by') (hzb : zeroB P e = true) (o : OwnA E A h base e b n c l) (hA : ∀ k, A k -> k < base) (hn : 0 < n) {ty2 : TypeId} {Q : H -> Prop}
    (hk : ∀ h', OwnA E A h' base e b (n - 1) c (l.take (n - 1)) -> Grow h h' b -> Q h') :
    SemH P (Builtin.clear_ #[t] ty2 ⟨[.slice (if c = n - 1 then b else Option.map (fun q => q.add ((n - 1) * E.sz)) b) (n - (n - 1)) (c - (n - 1))]⟩) h fun _ h2 => Q h2 := by
  obtain ⟨ii, z, ht, hinf, hz, hzs, hsz, hby⟩ := ap.is
  have hz1 : ∀ v ∈ z.cells.toList, v.oneCell' = true := by
    unfold zeroB at hzb
    rw [hinf] at hzb
    simp only [hz] at hzb
    exact List.all_eq_true.1 hzb
  obtain ⟨xs, ow, en⟩ := o.own.own
  have hl := o.len
  have hcap := ow.cap
  rcases ow.is with ⟨h0, _⟩ | ⟨g, cur, rfl, hbg, hg, hcs, htk⟩
  · omega
  intro w hw
  subst hw
  have hpos := E.pos
  have hxl : xs.length = n * E.sz := ow.len
  have hcur : n * E.sz <= cur.size := by rw [hcs]; exact Nat.mul_le_mul_right _ hcap
  have hn1 : n * E.sz = (n - 1) * E.sz + E.sz := by rw [<- Nat.succ_mul]; congr 1; omega
  have hzl : (Builtin.zeroCells z.cells 1).toList = z.cells.toList := by
    simp [Builtin.zeroCells]
    apply List.ext_getElem
    · simp
    · intro k h1 h2
      simp at h1 h2 ⊢
      have h3 : k % z.cells.size = k := Nat.mod_eq_of_lt h2
      rw [h3, getElem!_pos z.cells k h2]
  have hzlen : z.cells.toList.length = E.sz := by rw [Array.length_toList, hzs, hsz]
  have hst := run_storeCells_at P g ((n - 1) * E.sz) e z.cells.toList 0 cur w hg (by rw [hzlen]; omega) hz1
  have hz2 : ∀ w : World, (zeroValue e).run P w = .ok z w := fun w => by
    unfold zeroValue
    simp [typeInfo, hinf, hz]
  have ea : ((⟨g, 0, Option.none⟩ : Addr).add ((n - 1) * E.sz)) = ⟨g, (n - 1) * E.sz, Option.none⟩ := by unfold Addr.add; split <;> simp_all
  have hone : n - (n - 1) = 1 := by omega
  rw [if_neg (by omega)]
  have hrun : (Builtin.clear_ #[t] ty2 ⟨[.slice (Option.map (fun q => q.add ((n - 1) * E.sz)) (some (⟨g, 0, Option.none⟩ : Addr))) (n - (n - 1)) (c - (n - 1))]⟩).run P w = .ok (.tuple #[]) (w.setRow g (cur.toList.take ((n - 1) * E.sz + 0) ++ z.cells.toList ++ cur.toList.drop ((n - 1) * E.sz + 0 + z.cells.toList.length)).toArray) := by
    rw [hone]
    show (Builtin.clear_ #[t] ty2 #[.slice (some ((⟨g, 0, Option.none⟩ : Addr).add ((n - 1) * E.sz))) 1 (c - (n - 1))]).run P w = _
    rw [ea]
    simp [Builtin.clear_, run_underlying ht, hz2, hzl, hst]
  refine ⟨_, _, hrun, ⟨rfl, rfl, rfl⟩, ?_⟩
  have hgl : g < w.heap.size := (Array.getElem?_eq_some_iff.1 hg).1
  have hnew := setRow_heap w g cur (cur.toList.take ((n - 1) * E.sz + 0) ++ z.cells.toList ++ cur.toList.drop ((n - 1) * E.sz + 0 + z.cells.toList.length)).toArray e _ hg
  have hKp : Keep (fun k => k ≠ g) w.heap (w.setRow g (cur.toList.take ((n - 1) * E.sz + 0) ++ z.cells.toList ++ cur.toList.drop ((n - 1) * E.sz + 0 + z.cells.toList.length)).toArray).heap :=
    ⟨by rw [setRow_size]; exact Nat.le_refl _, fun k hkg o ho _ => by rw [setRow_other _ _ _ _ hkg]; exact ho⟩
  refine hk _ ⟨⟨by rw [List.length_take]; omega, xs.take ((n - 1) * E.sz), ⟨by rw [List.length_take, hxl]; omega, by omega, ow.max, .inr ⟨g, _, rfl, hbg, hnew, ?_, ?_⟩⟩, ?_⟩, o.lo, fun a ea => by cases ea; rw [setRow_size]; exact hgl, o.nil⟩ ⟨by rw [setRow_size]; exact Nat.le_refl _, fun k hk hne => setRow_other _ _ _ _ fun e => hne _ rfl e.symm⟩
  · simp only [List.size_toArray, List.length_append, List.length_take, List.length_drop, Array.length_toList]
    rw [hzs, hsz, <- hcs]
    omega
  · rw [List.toList_toArray, Nat.add_zero, List.append_assoc, List.take_append_of_le_length (by rw [List.length_take, Array.length_toList]; omega), List.take_take, Nat.min_self, <- htk, List.take_take, Nat.min_eq_left (by omega)]
  · exact (en.take (n - 1)).keep (hKp.less fun k hk => fun e2 => by have := hA k hk.1; have e2 : k = g := e2; omega) fun _ h _ => h
end
end Go.Proofs
namespace Go.Proofs
open Go Go.Sh
set_option linter.unusedVariables false
set_option maxRecDepth 100000
theorem apdIntM : Apd Tryz.prog (elInt .i64) 82 3 8 := apd_of (sz := 1) (by kernel_rfl) rfl
theorem erase_cut (l : List MarkP) (m : MarkP) {i : Nat} (hi : i < l.length) : (l ++ [m]).take i ++ (l ++ [m]).drop (i + 1) = l.eraseIdx i ++ [m] := by
  rw [List.eraseIdx_eq_take_drop_succ, List.take_append_of_le_length (by omega), List.drop_append_of_le_length (by omega), List.append_assoc]
section
variable {A B : Nat -> Prop} {h : H} {b b2 : Option Addr} {n c n2 c2 : Nat} {l : List MarkP} {m : MarkP} {xs : List Value}
theorem encKb (hx : Enc elMark A h l xs) {h' : H} (k : KB h h') : Enc elMark A h' l xs := hx.keep ((KB.w k).less fun k hk => hk.2) fun _ h _ => h
theorem cellsKb (hc : Cells h b xs) {h' : H} (k : KB h h') : Cells h' b xs := fun j u hu => by
  obtain ⟨q, e, ec⟩ := hc j u hu
  exact ⟨q, e, (KB.w k).cell (cell_lt ec) ec⟩
theorem push_calls (r : Row elMark B h b n c l) (hx : Enc elMark A h l xs) (hcx : Cells h b xs) (hA : ∀ k, A k -> k < h.size) (hz : b = none -> c = 0) (hR : MarkR A h m b2 n2 c2) (hn : n <= 1000000) {K : Value -> H -> Prop}
    (hk : ∀ b' n' c' h', OwnA elMark A h' h.size 79 b' n' c' (pushP l m) -> KB h h' -> K (.slice b' n' c') h') :
    HCalls Tryz.prog 156 ⟨[.slice b n c, .agg ⟨[.int .i64 m.1, S m.2.1, .slice b2 n2 c2]⟩]⟩ h K := by
  refine Sx.marks_Push.ok _ _ _ _ _ _ _ _ _ _ (newx_var fun x3 h1 v1 k1 e1 _ => ?_)
  have hl := r.len
  have hcm := r.cap
  refine ⟨⟨by omega, by omega, by omega, by omega⟩, _, v1.cell 0 rfl, _, v1.cell 1 rfl, _, _, _, v1.cell 2 rfl, newx_var fun a2 h2 v2 k2 e2 _ => ?_⟩
  have k02 := k1.trans k2
  have hR2 : MarkR A h2 m b2 n2 c2 := hR.kb k02
  obtain ⟨hen, hcn⟩ := Var.one v2 hR2
  have hit : Int.toNat (n : Int) = n := Int.toNat_natCast n
  have hi0 : Int.toNat (0 : Int) = 0 := rfl
  rw [hit, base0, hi0]
  have k02s := k02.1
  refine cutA_k (m := 1) apdMark (fun k hk => by have := hA k hk; omega) (encKb hx k02) (cellsKb hcx k02) hl (Nat.le_refl _) (by omega) (by omega) rfl hen hcn (fun e => by have := hz e; omega) (by simp only [maxLen]; omega) (by omega) fun c3 h3 o3 k3 => ?_
  have v3 := (v1.kb k2).kb k3
  have k03 := k02.trans k3
  have plain : ∀ h4, KB h3 h4 -> (pushS l m).length < 3 -> K (.slice (some (Ad h2.size)) (n + 1) c3) h4 := fun h4 k4 hlen => by
    refine hk _ _ c3 h4 ?_ ((k03).trans k4)
    unfold pushP; rw [if_pos hlen]; exact (o3.lower k02s).kb k4
  refine ⟨_, v3.cell 0 rfl, spl (fun hneg => plain h3 (KB.refl _) (by unfold pushS; rw [if_pos hneg]; decide)) fun hneg => ?_⟩
  have hS : pushS l m = sames l m (behind l) (l.length - behind l) := by unfold pushS; rw [if_neg hneg]
  refine fresh_calls (A := Bel h3.size) (fun _ h => h) ((r.kb k03).bel) fun h4 k4 => ?_
  have hble := behind_le l
  refine ⟨(n - behind l) + 1, ?_⟩
  have o4 := o3.kb k4
  have k34 := k4.1
  have k03s := k03.1
  have key : ∀ k i h5 b6 c6, behind l + i + k = n -> KB h4 h5 -> OwnF (elInt .i64) h5 h4.size 3 b6 (sames l m (behind l) i).length c6 ((sames l m (behind l) i).map fun (j : Nat) => (j : Int)) ->
      Sx.marks_Push.n9_L (fun z5b z5n z5c z6b z6n z6c h => Sx.marks_Push.n6 z5b z5n z5c z6b z6n z6c (fun y4b y4n y4c h => K (.slice y4b y4n y4c) h) (fun y4b y4n y4c h => K (.slice y4b y4n y4c) h) h)
        (fun z5b z5n z5c z6b z6n z6c h => Sx.marks_Push.n6 z5b z5n z5c z6b z6n z6c (fun y4b y4n y4c h => K (.slice y4b y4n y4c) h) (fun y4b y4n y4c h => K (.slice y4b y4n y4c) h) h)
        (fun y4b y4n y4c h => K (.slice y4b y4n y4c) h) (k + 1) b n c x3 (some (Ad h2.size)) (n + 1) c3 b6 (sames l m (behind l) i).length c6 ((behind l + i : Nat) : Int) h5 := by
    intro k
    induction k with
    | zero =>
      intro i h5 b6 c6 hi k5 o6
      unfold Sx.marks_Push.n9_L LP Sx.marks_Push.n9_B
      refine splF (by omega) ?_
      have hS5 : sames l m (behind l) i = pushS l m := by rw [hS]; congr 1; omega
      rw [hS5] at o6 ⊢
      refine spl (fun h3' => plain h5 (k4.trans k5) (by omega)) fun h3' => ?_
      have hlen : ¬ (pushS l m).length < 3 := by omega
      obtain ⟨s0, rest, hs0⟩ : ∃ s0 rest, pushS l m = s0 :: rest := by
        cases hp : pushS l m with
        | nil => rw [hp] at hlen; simp at hlen
        | cons a t => exact ⟨a, t, rfl⟩
      have hs0lt : s0 < l.length := by
        have := sames_lt s0 (by rw [<- hS, hs0]; simp)
        omega
      have r6 := o6.row
      have hlen0 : 0 < ((pushS l m).map fun (j : Nat) => (j : Int)).length := by simp; omega
      have hget : ((pushS l m).map fun (j : Nat) => (j : Int))[0] = (s0 : Int) := by simp [hs0]
      have o5 := o4.kb k5
      have hc5 := o5.own.cap
      obtain ⟨xs5, ow5, en5⟩ := o5.own.own
      have k5s := k5.1
      refine r6.idxN (i := 0) hlen0 rfl fun a hAt => ?_
      rw [hget] at hAt
      refine ldI hAt fun hr => ⟨⟨by omega, by omega, by omega⟩, r6.idxN (i := 0) hlen0 rfl fun a hAt => ?_⟩
      rw [hget] at hAt
      refine ldI hAt fun hr => ⟨rng64 (by omega) (by omega), ⟨by omega, by omega, by omega⟩, ?_⟩
      have t1 : Int.toNat (s0 : Int) = s0 := Int.toNat_natCast _
      have t2 : Int.toNat ((s0 : Int) + 1) = s0 + 1 := by omega
      have t3 : Int.toNat ((n + 1 : Nat) : Int) = n + 1 := Int.toNat_natCast _
      rw [base0, t1, t2, t3, hi0]
      have hA5 : ∀ k, A k -> k < h5.size := fun k hk => by have := hA k hk; omega
      have hcl5 : Cells h5 (some (Ad h2.size)) xs5 := ow5.cells
      refine cloneM_calls (A := A) hA5 (en5.take s0) (hcl5.take _) (by rw [List.length_take, List.length_append, List.length_singleton]; omega) (by omega) (fun e => by cases e) (by omega) fun b7 c7 h7 o7 k7 => ⟨k7.ext, ?_⟩
      have e9 : s0 - 0 = s0 := rfl
      rw [e9] at o7 ⊢
      refine app_drop apdMark o7 (fun k hk => hA5 k hk) k7 (Nat.le_refl _) k7.1 en5 hA5 hcl5 (lo := s0 + 1) (n := n + 1) (by rw [List.length_append, List.length_singleton]; omega) (by omega) (by omega) (by omega) (by omega) fun b8 c8 h8 o8 k8 => ?_
      have hlist : pushP l m = (l ++ [m]).take s0 ++ (l ++ [m]).drop (s0 + 1) := by
        unfold pushP
        rw [if_neg hlen, hs0, List.headD_cons, erase_cut l m hs0lt]
      refine hk b8 _ c8 h8 ?_ ((k03.trans (k4.trans k5)).trans k8)
      rw [hlist]; exact o8.lower (by omega)
    | succ k ih =>
      intro i h5 b6 c6 hi k5 o6
      unfold Sx.marks_Push.n9_L LP Sx.marks_Push.n9_B
      have hil : behind l + i < l.length := by omega
      have k35 := k4.trans k5
      have v5 := v3.kb k35
      have k05 : KB h h5 := (k03).trans k35
      have hsl : (sames l m (behind l) i).length <= i := by
        unfold sames
        exact Nat.le_trans (List.length_filter_le _ _) (by rw [List.length_range']; exact Nat.le_refl _)
      refine splT (by omega) ⟨_, v5.cell 0 rfl, _, v5.cell 1 rfl, _, _, _, v5.cell 2 rfl, (r.kb k05).idxN hil rfl fun a hAt => ldMark hAt fun b' n' c' hRi => alikeM_calls (hR.kb k05) hRi fun h6 k6 => ?_⟩
      have hsuc := sames_succ l m (behind l) i
      rw [getD_get hil] at hsuc
      refine condB (fun ha => newx_var fun a7 h7 v7 k7 e7 _ => ?_) fun ha => ?_
      · rw [if_pos ha] at hsuc
        have o7 := (o6.kb k6).kb k7
        have k57 := k6.trans k7
        have k57s := k57.1
        have k5s := k5.1
        refine OwnF.append apdIntM o7 (v7.row1 ⟨rfl, rng64 (by omega) (by omega)⟩ ⟨v7.lt, fun x hx => by have := o6.hi x hx; have := k6.1; omega⟩) (by simp only [maxLen]; omega) (by omega) (by omega) fun b8 c8 h8 o8 g8 => ⟨rng64 (by omega) (by omega), ?_⟩
        have := ih (i + 1) h8 b8 c8 (by omega) (Grow.kb0 (k5.trans k57) g8 o6.lo) (by rw [hsuc]; simpa using o8)
        rw [hsuc, List.length_append, List.length_singleton] at this
        exact this
      · rw [if_neg (by rw [ha]; simp)] at hsuc
        refine ⟨rng64 (by omega) (by omega), ?_⟩
        have := ih (i + 1) h6 b6 c6 (by omega) (k5.trans k6) (by rw [hsuc]; exact o6.kb k6)
        rw [hsuc] at this
        exact this
  exact key (n - behind l) 0 h4 none 0 (by omega) (KB.refl _) (OwnF.none _ _ _)
theorem clear_calls (hA : ∀ k, A k -> k < h.size) (r : Row elMark B h b n c l) (hB : ∀ k, B k -> k < h.size) (hx : Enc elMark A h l xs) (hcx : Cells h b xs) (hz : b = none -> c = 0) (hn : n <= 1000000) {K : Value -> H -> Prop}
    (hk : ∀ b' n' c' h', OwnA elMark A h' h.size 79 b' n' c' (clearP l) -> KB h h' -> K (.slice b' n' c') h') : HCalls Tryz.prog 159 ⟨[.slice b n c]⟩ h K := by
  refine Sx.marks_Clear.ok _ _ _ _ _ (fresh_calls hB r fun h1 k1 => ?_)
  have hcm := r.cap
  have hl := r.len
  have hle := behind_le l
  refine spl (fun hp => ⟨rng64 (by omega) (by omega), ⟨by omega, by omega, by omega⟩, ?_⟩) fun hp => ?_
  · have e1 : Int.toNat ((behind l : Int) - 1) - Int.toNat (0 : Int) = behind l - 1 := by omega
    rw [base0, e1]
    exact cloneM_calls (A := A) (fun k hk => by have := hA k hk; have := k1.1; omega) ((encKb hx k1).take (behind l - 1)) ((cellsKb hcx k1).take _) (by rw [List.length_take]; omega) (by omega) (fun e => by have := hz e; omega) (by omega) fun b' c' h' o k2 => hk b' _ c' h' (o.lower k1.1) (k1.trans k2)
  · have e : clearP l = [] := by unfold clearP; rw [show behind l - 1 = 0 by omega]; rfl
    exact hk none 0 0 h1 (by rw [e]; exact OwnA.none _ _ _ _) k1
def shl (l : List MarkP) (k j : Nat) : List MarkP := l.take k ++ (l.drop (k + 1)).take (j - (k + 1)) ++ l.drop (j - 1)
theorem shl_zero {k : Nat} (hk : k < l.length) : shl l k (k + 1) = l := by unfold shl; simp
theorem shl_len {k j : Nat} (hk : k < j) (hj : j <= l.length) : (shl l k j).length = l.length := by
  unfold shl; simp only [List.length_append, List.length_take, List.length_drop]; omega
theorem shl_get {k j i : Nat} (hk : k < j) (hj : j <= l.length) (hi : j - 1 <= i) : (shl l k j)[i]? = l[i]? := by
  unfold shl
  have h1 : (l.take k ++ (l.drop (k + 1)).take (j - (k + 1))).length = j - 1 := by simp only [List.length_append, List.length_take, List.length_drop]; omega
  rw [List.getElem?_append_right (by omega), h1, List.getElem?_drop]; congr 1; omega
theorem shl_succ {k j : Nat} (hk : k < j) (hj : j < l.length) : shl l k (j + 1) = (shl l k j).set (j - 1) l[j] := by
  unfold shl
  have h1 : (l.take k ++ (l.drop (k + 1)).take (j - (k + 1))).length = j - 1 := by simp only [List.length_append, List.length_take, List.length_drop]; omega
  rw [List.set_append_right _ _ (by omega), h1, Nat.sub_self]
  have e1 : l.drop (j - 1) = l[j - 1] :: l.drop j := by
    have := List.drop_eq_getElem_cons (l := l) (i := j - 1) (by omega)
    rwa [show j - 1 + 1 = j by omega] at this
  have e2 : l.drop j = l[j] :: l.drop (j + 1) := List.drop_eq_getElem_cons hj
  have e3 : (l.drop (k + 1)).take (j + 1 - (k + 1)) = (l.drop (k + 1)).take (j - (k + 1)) ++ [l[j]] := by
    rw [show j + 1 - (k + 1) = j - (k + 1) + 1 by omega, List.take_add_one, List.getElem?_drop, show k + 1 + (j - (k + 1)) = j by omega, List.getElem?_eq_getElem hj]; rfl
  rw [e1, e3, Nat.add_sub_cancel]
  simp
theorem shl_end {k : Nat} (hk : k < l.length) : (shl l k l.length).take (l.length - 1) = l.eraseIdx k := by
  unfold shl
  have h1 : (l.take k ++ (l.drop (k + 1)).take (l.length - (k + 1))).length = l.length - 1 := by simp only [List.length_append, List.length_take, List.length_drop]; omega
  rw [List.take_left' h1, List.eraseIdx_eq_take_drop_succ]
  congr 1
  exact List.take_of_length_le (by rw [List.length_drop]; omega)
theorem deleteFunc_calls {base : Nat} {f : Value} {p : MarkP -> Bool} (o : OwnA elMark A h base 79 b n c l) (hA : ∀ k, A k -> k < base) (hbh : base <= h.size) (hn : n <= 1000000) (h1p : ∀ i j (hi : i < l.length) (hj : j < l.length), p l[i] = true -> p l[j] = true -> i = j)
    (hf : ∀ x h1 b' n' c' (next : Value -> H -> Prop), x ∈ l -> SK (fun k => k < base) h h1 -> (∀ h2, KB h1 h2 -> next (.bool (p x)) h2) -> CallV Tryz.prog 4 f ⟨[.agg ⟨[.int .i64 x.1, S x.2.1, .slice b' n' c']⟩]⟩ h1 next)
    {K : Value -> H -> Prop} (hk : ∀ b' n' c' h', OwnA elMark A h' base 79 b' n' c' (if 0 <= idxQ l p then l.eraseIdx (idxQ l p).toNat else l) -> SK (fun k => k < base) h h' -> K (.slice b' n' c') h') :
    HCalls Tryz.prog 153 ⟨[.slice b n c, f]⟩ h K := by
  have hlen := o.len
  have hcap := o.own.cap
  have kb0 : ∀ {h1}, KB h h1 -> SK (fun k => k < base) h h1 := fun k => k.less fun q hq => Nat.lt_of_lt_of_le hq hbh
  refine Sx.slices_DeleteFunc_apiMark.ok _ _ _ _ _ _ (indexFuncMark_calls (p := p) (o.row fun k hk => Nat.lt_of_lt_of_le (hA k hk) hbh) (fun x h1 b' n' c' next hx k1 hR hnx => hf x h1 b' n' c' next hx (kb0 k1) hnx) fun h1 k1 => vIntMk ?_)
  have o1 := o.kb k1
  refine spl (fun e => ?_) fun e => ?_
  · have hno : ¬ 0 <= idxQ l p := by omega
    have := hk b n c h1
    rw [if_neg hno] at this
    exact this o1 (kb0 k1)
  · have hq := idxQ_lt (l := l) (p := p)
    have h0 : 0 <= idxQ l p := by omega
    obtain ⟨hkl, hpk, _⟩ := idxQ_yes h0
    obtain ⟨k, ek⟩ := Int.eq_ofNat_of_zero_le h0
    have ekn : (idxQ l p).toNat = k := by rw [ek]; rfl
    rw [if_pos h0, ekn] at hk
    simp only [ekn] at hkl hpk
    rw [ek]
    refine ⟨rng64 (by omega) (by omega), n - (k + 1) + 1, ?_⟩
    obtain ⟨KR, hKR⟩ : ∃ KR : Sx.slices_DeleteFunc_apiMark.T0, KR = fun y4b y4n y4c h => K (.slice y4b y4n y4c) h := ⟨_, rfl⟩
    have fin : ∀ h2, SK (fun k => k < base) h h2 -> OwnA elMark A h2 base 79 b n c (shl l k n) -> Sx.slices_DeleteFunc_apiMark.n5 b n c ((n - 1 : Nat) : Int) KR KR h2 := fun h2 k2 o2 => by
      have e1 : Int.toNat ((n - 1 : Nat) : Int) = n - 1 := Int.toNat_natCast _
      have e2 : Int.toNat (n : Int) = n := Int.toNat_natCast _
      have e3 : Int.toNat (0 : Int) = 0 := rfl
      refine ⟨⟨by omega, by omega, by omega⟩, ?_⟩
      rw [base0, e1, e2]
      refine OwnA.clr1 apdMark (by kernel_rfl) o2 hA (by omega) fun h3 o3 g3 => ⟨⟨by omega, by omega, by omega⟩, ?_⟩
      rw [<- hlen, shl_end hkl, hlen] at o3
      rw [hKR]
      exact hk b _ c h3 o3 (SK.trans k2 ⟨g3.size, fun q hq => g3.old q (by have := k2.1; have hq : q < base := hq; omega) fun a ea e2 => by have := o2.lo a ea; have hq : q < base := hq; omega⟩)
    have key : ∀ N j h2, j + N = n -> k < j -> SK (fun k => k < base) h h2 -> OwnA elMark A h2 base 79 b n c (shl l k j) ->
        Sx.slices_DeleteFunc_apiMark.n8_L (fun x0b x0n x0c x5 h => Sx.slices_DeleteFunc_apiMark.n5 x0b x0n x0c x5 KR KR h) (fun x0b x0n x0c x5 h => Sx.slices_DeleteFunc_apiMark.n5 x0b x0n x0c x5 KR KR h) KR (N + 1) b n c f ((j - 1 : Nat) : Int) (j : Int) h2 := by
      intro N
      induction N with
      | zero =>
        intro j h2 hj hkj k2 o2
        unfold Sx.slices_DeleteFunc_apiMark.n8_L LP Sx.slices_DeleteFunc_apiMark.n8_B
        have e : j = n := by omega
        subst e
        exact splF (by omega) (fin h2 k2 o2)
      | succ N ih =>
        intro j h2 hj hkj k2 o2
        unfold Sx.slices_DeleteFunc_apiMark.n8_L LP Sx.slices_DeleteFunc_apiMark.n8_B
        have hjl : j < l.length := by omega
        have hsl := shl_len (l := l) hkj (by omega)
        obtain ⟨xs2, ow2, en2⟩ := o2.own.own
        obtain ⟨a, b', n', c', eb, m0, m1, m2, hRi⟩ := markPart en2 ow2.cells (i := j) (by omega)
        have eg : (shl l k j)[j]'(by omega) = l[j] := by
          have := shl_get (l := l) hkj (by omega) (i := j) (by omega)
          rw [List.getElem?_eq_getElem (by omega), List.getElem?_eq_getElem hjl] at this
          exact Option.some.inj this
        rw [eg] at m0 m1 hRi
        subst eb
        have e1 : Int.toNat ((j - 1 : Nat) : Int) = j - 1 := Int.toNat_natCast _
        refine splT (by omega) ⟨⟨by omega, by omega⟩, vSomeMk ⟨_, m0, _, m1, _, _, _, m2, newx_var fun a7 h3 v3 k3 e3 s3 => stL_var0 v3 (by show 3 <= 3; omega) fun h4 v4 k4 s4 => ?_⟩⟩
        have k24 : KB h2 h4 := KB.step k3 k4 (by omega)
        have v4 : Var h4 a7 79 [.int .i64 l[j].1, S l[j].2.1, .slice b' n' c'] := v4
        have z2 := k2.1
        have z4 := k24.1
        have k04 : SK (fun k => k < base) h h4 := SK.trans k2 (k24.less fun q hq => by have hq : q < base := hq; show q < h2.size; omega)
        refine ⟨_, v4.cell 0 rfl, _, v4.cell 1 rfl, _, _, _, v4.cell 2 rfl, hf l[j] h4 _ _ _ _ (List.getElem_mem hjl) k04 fun h5 k5 => vBool_mk (condB (fun ht => ?_) fun hff => ?_)⟩
        · have := h1p k j hkl hjl hpk ht
          omega
        · have v5 := v4.kb k5
          have o5 := (o2.kb k24).kb k5
          refine ⟨_, v5.cell 0 rfl, _, v5.cell 1 rfl, _, _, _, v5.cell 2 rfl, ⟨by omega, by omega⟩, ?_⟩
          rw [e1]
          refine OwnA.setE o5 hA (i := j - 1) (by omega) ((hRi.kb k24).kb k5) fun h6 g eg2 hbg o6 k6 s6 => ⟨rng64 (by omega) (by omega), rng64 (by omega) (by omega), ?_⟩
          have k05 : SK (fun k => k < base) h h5 := SK.trans k04 (k5.less fun q hq => by have hq : q < base := hq; show q < h4.size; omega)
          have := ih (j + 1) h6 (by omega) (by omega) (SK.trans k05 (k6.less fun q hq => by have hq : q < base := hq; show q ≠ g; omega)) (by rw [shl_succ hkj hjl]; exact o6)
          have e5 : ((j + 1 - 1 : Nat) : Int) = ((j - 1 : Nat) : Int) + 1 := by omega
          rw [e5] at this
          exact this
    have := key (n - (k + 1)) (k + 1) h1 (by omega) (by omega) (kb0 k1) (by rw [shl_zero hkl]; exact o1)
    rw [hKR] at this
    exact this
end
section
variable {A B : Nat -> Prop} {h : H} {b b2 : Option Addr} {n c n2 c2 : Nat} {l : List OpenP} {ns : List Bs} {s : Bs}
end
end Go.Proofs
namespace Go.Sh
open Go
set_option linter.unusedVariables false
variable {P : Program} {α : Type} {E : El α}
theorem run_copy_rowN (w : World) (dT sT ty elem : TypeId) (g o dLen dCap : Nat) (a : Addr) (sLen sCap : Nat) (cur : Array Value) (t : TypeId) (i : TypeInfo) (cs : List Value)
    (hu : P.underlying dT = some (.slice elem)) (hi : P.info? elem = some i) (hg : w.heap[g]? = some (.cells cur t (0, 0))) (hn : cs.length = Nat.min sLen dLen * i.size)
    (hsrc : ∀ j v, cs[j]? = some v -> w.cell? (a.add j) = some v) (hfit : o + cs.length <= cur.size) (h1 : ∀ v ∈ cs, v.oneCell' = true) :
    (Builtin.copy_ #[dT, sT] ty #[.slice (some ⟨g, o, none⟩) dLen dCap, .slice (some a) sLen sCap]).run P w =
      .ok (goInt (Nat.min sLen dLen)) (w.setRow g (cur.toList.take o ++ cs ++ cur.toList.drop (o + cs.length)).toArray) := by
  have hl := run_loadCells_list (P := P) w a cs hsrc
  have hst := run_storeCells_at P g o t cs 0 cur w hg (by simpa using hfit) h1
  simp [Builtin.copy_, run_underlying hu, Builtin.lenOf, Builtin.firstCells, sizeOf, typeInfo, hi, <- hn, hl, hst]
theorem add_some (g o : Nat) : ((⟨g, 0, none⟩ : Addr).add o) = ⟨g, o, none⟩ := by unfold Addr.add; split <;> simp_all
structure MidI (E : El α) (h h1 : H) (g e n c i : Nat) (xs : List Value) : Prop where
  ex : ∃ cur : Array Value, h1[g]? = some (.cells cur e (0, 0)) /\ cur.size = c * E.sz /\ cur.toList.take (i * E.sz) = xs.take (i * E.sz) /\ (cur.toList.drop ((i + 1) * E.sz)).take ((n - i) * E.sz) = xs.drop (i * E.sz)
  old : ∀ k, k ≠ g -> h1[k]? = h[k]?
  size : h1.size = h.size
theorem setRow_size (w : World) (g : Nat) (row : Array Value) : (w.setRow g row).heap.size = w.heap.size := by simp [World.setRow]
section
variable {t e by' base n c i g : Nat} {h h1 : H} {l : List α} {A : Nat -> Prop} {xs : List Value}
theorem ins1_k (ap : Apd P E t e by') (en : Enc E A h l xs) (hxl : xs.length = n * E.sz) {cur : Array Value} (hg : h[g]? = some (.cells cur e (0, 0))) (hcs : cur.size = c * E.sz) (htk : cur.toList.take (n * E.sz) = xs) (hi : i < n) (hc : n + 1 <= c) {ty : TypeId} {K : Value -> H -> Prop}
    (hk : ∀ h1, MidI E h h1 g e n c i xs -> K (.int .i64 ((n - i : Nat) : Int)) h1) :
    SemH P (Builtin.copy_ #[t, t] ty ⟨[.slice (some ((⟨g, 0, none⟩ : Addr).add ((i + 1) * E.sz))) (n + 1 - (i + 1)) (c - (i + 1)), .slice (some ((⟨g, 0, none⟩ : Addr).add (i * E.sz))) (n + 1 - i) (c - i)]⟩) h K := by
  obtain ⟨ii, z, ht, hinf, hz, hzs, hsz, hby⟩ := ap.is
  intro w hw
  subst hw
  have hpos := E.pos
  have hi1 : (i + 1) * E.sz = i * E.sz + E.sz := Nat.succ_mul _ _
  have hi2 : (i + 1) * E.sz <= n * E.sz := Nat.mul_le_mul_right _ hi
  have hn1 : (n + 1) * E.sz <= c * E.sz := Nat.mul_le_mul_right _ hc
  have hn2 : (n + 1) * E.sz = n * E.sz + E.sz := Nat.succ_mul _ _
  have hmin : Nat.min (n + 1 - i) (n + 1 - (i + 1)) = n - i := by simp only [Nat.min_def]; split <;> omega
  have hdl : (xs.drop (i * E.sz)).length = (n - i) * E.sz := by rw [List.length_drop, hxl, <- Nat.sub_mul]
  have hsub : (n - i) * E.sz = n * E.sz - i * E.sz := Nat.sub_mul _ _ _
  have hsrc : ∀ j v, (xs.drop (i * E.sz))[j]? = some v -> w.cell? (((⟨g, 0, none⟩ : Addr).add (i * E.sz)).add j) = some v := fun j v hv => by
    rw [List.getElem?_drop, <- htk, List.getElem?_take] at hv
    split at hv
    · show cell w.heap _ = _
      rw [add_add, cell_lit hg, <- Array.getElem?_toList]; exact hv
    · cases hv
  have hr := run_copy_rowN (P := P) w t t ty e g ((i + 1) * E.sz) (n + 1 - (i + 1)) (c - (i + 1)) ((⟨g, 0, none⟩ : Addr).add (i * E.sz)) (n + 1 - i) (c - i) cur e ii (xs.drop (i * E.sz)) ht hinf hg (by rw [hmin, hdl, hsz]) hsrc (by rw [hdl, hcs]; omega) fun v hv => en.one v (List.mem_of_mem_drop hv)
  rw [hmin] at hr
  rw [add_some g ((i + 1) * E.sz)]
  refine ⟨_, _, hr, ⟨rfl, rfl, rfl⟩, hk _ ⟨⟨_, setRow_heap w g cur _ e _ hg, ?_, ?_, ?_⟩, fun k hkg => setRow_other _ _ _ _ hkg, setRow_size _ _ _⟩⟩
  · simp only [List.size_toArray, List.length_append, List.length_take, List.length_drop, Array.length_toList, hdl]
    omega
  · rw [List.toList_toArray, List.append_assoc, List.take_append_of_le_length (by rw [List.length_take, Array.length_toList]; omega), List.take_take, Nat.min_eq_left (by omega), <- htk, List.take_take, Nat.min_eq_left (by omega)]
  · rw [List.toList_toArray, List.append_assoc, List.drop_left' (by rw [List.length_take, Array.length_toList]; omega), List.take_left' hdl]
theorem ins2_k (ap : Apd P E t e by') (o : OwnT E A h base e (some ⟨g, 0, none⟩) n c l) (en : Enc E A h l xs) (hxl : xs.length = n * E.sz) (hA : ∀ k, A k -> k ≠ g) (hbg : base <= g) (hi : i < n) (hc : n + 1 <= c) (M : MidI E h h1 g e n c i xs) {a : Addr} {x : α} {cs : List Value} (hR : E.R A h x cs)
    (hv : ∀ j u, cs[j]? = some u -> cell h (a.add j) = some u) (ha : a.block ≠ g) {ty : TypeId} {ac : Nat} {K : Value -> H -> Prop}
    (hk : ∀ h', OwnT E A h' base e (some ⟨g, 0, none⟩) (n + 1) c (l.take i ++ x :: l.drop i) -> Grow h h' (some ⟨g, 0, none⟩) -> h'.size = h.size -> K (.int .i64 ((1 : Nat) : Int)) h') :
    SemH P (Builtin.copy_ #[t, t] ty ⟨[.slice (some ((⟨g, 0, none⟩ : Addr).add (i * E.sz))) (n + 1 - i) (c - i), .slice (some a) 1 ac]⟩) h1 K := by
  obtain ⟨ii, z, ht, hinf, hz, hzs, hsz, hby⟩ := ap.is
  obtain ⟨cur, hg, hcs, h2, h3⟩ := M.ex
  intro w hw
  subst hw
  have hpos := E.pos
  have hcl := E.len _ _ _ _ hR
  have hi1 : (i + 1) * E.sz = i * E.sz + E.sz := Nat.succ_mul _ _
  have hi2 : (i + 1) * E.sz <= n * E.sz := Nat.mul_le_mul_right _ hi
  have hn1 : (n + 1) * E.sz <= c * E.sz := Nat.mul_le_mul_right _ hc
  have hn2 : (n + 1) * E.sz = n * E.sz + E.sz := Nat.succ_mul _ _
  have hsub : (n - i) * E.sz = n * E.sz - i * E.sz := Nat.sub_mul _ _ _
  have hmin : Nat.min 1 (n + 1 - i) = 1 := by simp only [Nat.min_def]; split <;> omega
  have hsrc : ∀ j v, cs[j]? = some v -> w.cell? (a.add j) = some v := fun j v hj => by
    have := hv j v hj
    show cell w.heap _ = _
    unfold cell at this ⊢
    rw [M.old _ (by rw [add_block]; exact ha)]; exact this
  have hr := run_copy_rowN (P := P) w t t ty e g (i * E.sz) (n + 1 - i) (c - i) a 1 ac cur e ii cs ht hinf hg (by rw [hmin, hcl, hsz, Nat.one_mul]) hsrc (by rw [hcl, hcs]; omega) fun v hv => E.one _ _ _ _ hR v hv
  rw [hmin] at hr
  have hs : (w.setRow g (cur.toList.take (i * E.sz) ++ cs ++ cur.toList.drop (i * E.sz + cs.length)).toArray).heap.size = h.size := by rw [setRow_size, M.size]
  have hold : ∀ k, k ≠ g -> (w.setRow g (cur.toList.take (i * E.sz) ++ cs ++ cur.toList.drop (i * E.sz + cs.length)).toArray).heap[k]? = h[k]? := fun k hkg => by rw [setRow_other _ _ _ _ hkg, M.old k hkg]
  rw [add_some g (i * E.sz)]
  refine ⟨_, _, hr, ⟨rfl, rfl, rfl⟩, hk _ ⟨?_, xs.take (i * E.sz) ++ (cs ++ xs.drop (i * E.sz)), ⟨?_, hc, o.cap.2, .inr ⟨g, _, rfl, hbg, setRow_heap w g cur _ e _ hg, ?_, ?_⟩⟩, ?_⟩ ⟨Nat.le_of_eq hs.symm, fun k hk hne => hold k fun e2 => hne _ rfl e2.symm⟩ hs⟩
  · rw [List.length_append, List.length_take, List.length_cons, List.length_drop, o.len]; omega
  · rw [List.length_append, List.length_append, List.length_take, List.length_drop, hxl, hcl]; omega
  · simp only [List.size_toArray, List.length_append, List.length_take, List.length_drop, Array.length_toList, hcl]
    omega
  · rw [List.toList_toArray, List.append_assoc, h2, List.take_append, List.length_take, hxl, Nat.min_eq_left (by omega)]
    have e1 : (xs.take (i * E.sz)).take ((n + 1) * E.sz) = xs.take (i * E.sz) := by rw [List.take_take, Nat.min_eq_right (by omega)]
    rw [e1]
    congr 1
    rw [List.take_append, List.take_of_length_le (l := cs) (by omega)]
    congr 1
    rw [hcl, <- hi1, <- h3]
    congr 1
    omega
  · have h4 : Enc E A h (l.take i ++ x :: l.drop i) (xs.take (i * E.sz) ++ (cs ++ xs.drop (i * E.sz))) := (en.take i).append ⟨cs, _, rfl, hR, en.drop i⟩
    exact h4.keep ⟨Nat.le_of_eq hs.symm, fun k hkg o2 ho2 _ => by rw [hold k (hA k hkg.1)]; exact ho2⟩ fun _ h _ => h
end
end Go.Sh
namespace Go.Sh
open Go
set_option linter.unusedVariables false
variable {P : Program} {α : Type} {E : El α}
theorem cap_k {t e : TypeId} (ht : P.underlying t = some (.slice e)) {ty : TypeId} {b : Option Addr} {n c : Nat} {h : H} {K : Value -> H -> Prop} (hk : K (.int .i64 (c : Int)) h) : SemH P (Builtin.cap_ #[t] ty ⟨[.slice b n c]⟩) h K := fun w hw =>
  ⟨_, w, by show (Builtin.cap_ #[t] ty #[.slice b n c]).run P w = _; simp [Builtin.cap_, run_underlying ht]; rfl, Outer.refl w, by rw [hw]; exact hk⟩
theorem overlaps_k {t e by' tR : TypeId} (ap : Apd P E t e by') {g j : Nat} {cur : Array Value} {fz : Nat × Nat} {h : H} {a : Addr} {tv : Nat} {cs : List Value} (hg : h[g]? = some (.cells cur e fz)) (hs : cur.size ≠ 0) (va : Var h a tv cs) (ha : a.block ≠ g) {la ca lb cb : Nat} {K : Value -> H -> Prop} (hk : K (.bool false) h) :
    SemH P (Extern.SlicesOverlaps.overlaps #[t, t] #[tR] ⟨[.slice (some a) la ca, .slice (some ((⟨g, 0, none⟩ : Addr).add j)) lb cb]⟩) h K := by
  obtain ⟨ii, z, ht, hinf, hz, hzs, hsz, hby⟩ := ap.is
  intro w hw
  subst hw
  have hsa : w.shape? a.block = some (tv, cs.length) := by unfold World.shape?; rw [va.cells]; rfl
  have hsb : w.shape? ((⟨g, 0, none⟩ : Addr).add j).block = some (e, cur.size) := by rw [add_block]; unfold World.shape?; rw [hg]
  have hf : ∀ o, w.frozen? { block := a.block, off := o } = false := fun o => by unfold World.frozen?; simp only [va.cells]; simp
  have hfa : w.frozen? a = false := by rw [va.is]; exact hf 0
  exact ⟨_, w, Lib.run_overlaps_apart w t tR e ht ii.size (fun w => by simp [sizeOf, typeInfo, hinf]) a _ la ca lb cb (by rw [add_block]; exact ha) tv e cs.length cur.size hsa hsb hs hfa (hf _), Outer.refl w, hk⟩
end Go.Sh
namespace Go.Proofs
open Go Go.Sh
set_option linter.unusedVariables false
set_option maxRecDepth 100000
theorem cut0 (z : Nat) (b : Option Addr) (c : Nat) : (if c = Int.toNat (0 : Int) then b else Option.map (fun q => q.add (Int.toNat (0 : Int) * z)) b) = b := by
  split
  · rfl
  · cases b with
    | none => rfl
    | some q => show some (q.add (0 * z)) = some q; rw [Nat.zero_mul]; rfl
theorem take_snoc {α : Type} (l : List α) (x : α) {n : Nat} (hn : l.length = n) : l.take n ++ x :: l.drop n = l ++ [x] := by
  rw [List.take_of_length_le (by omega), List.drop_of_length_le (by omega)]
section
variable {h : H} {col : Col} {K : Value -> H -> Prop} {v : Nat × Nat} {b : Option Addr} {n c i : Nat} {a : Addr} {tv : Nat} {cs : List Value}
theorem OwnC.ne {α : Type} {E : El α} {e : Nat} {l : List α} (o : OwnC E h col v e b n c l) : ∀ k, Free col h k -> ∀ q, b = some q -> k ≠ q.block := fun k hk q hq e => by have := o.col q hq; rw [<- e, hk.1] at this; cases this
theorem insertM_calls {l : List MarkP} (o : OwnC elMark h col v 79 b n c l) (hf : Fresh h col) (hi : i <= n) (hc : n + 1 <= c) {x : MarkP} (hR : elMark.R (Free col h) h x cs) (va : Var h a tv cs) (ca : col a.block = none) (hn : n <= 1000000)
    (hk : ∀ b' c' h' col', OwnC elMark h' col' v 79 b' (n + 1) c' (l.take i ++ x :: l.drop i) -> Grow h h' b -> (∀ k, k < h.size -> col' k = col k) -> Fresh h' col' -> K (.slice b' (n + 1) c') h') :
    HCalls Tryz.prog 240 ⟨[.slice b n c, .int .i64 (i : Int), .slice (some a) 1 1]⟩ h K := by
  have hlen := o.len
  have hmax := o.cap.2
  simp only [maxLen] at hmax
  refine Sx.slices_Insert_apiMark.ok _ _ _ _ _ _ _ _ _ ⟨⟨by omega, by omega, by omega⟩, splF (by omega) (spl (fun e => ?_) fun e => ?_)⟩
  · have ei : i = n := by omega
    subst ei
    refine o.append apdMark (va.row1 hR ⟨ca, va.lt⟩) (by simp only [maxLen]; omega) (by omega) hf fun b' c' h' o' g' nb f' => ?_
    refine hk b' c' h' _ ?_ g' (fun k hk => putB_old hk) f'
    rw [take_snoc l x hlen]; exact o'
  · have hin : i < n := by omega
    refine ⟨rng64 (by omega) (by omega), cap_k (e := 79) (by kernel_rfl) (vIntMk (splF (by omega) (condF ⟨rng64 (by omega) (by omega), ⟨by omega, by omega, by omega⟩, ?_⟩)))⟩
    dsimp only [sqF]
    rw [cut0]
    have e1 : Int.toNat ((n : Int) + ((1 : Nat) : Int)) - Int.toNat (0 : Int) = n + 1 := by show Int.toNat ((n + 1 : Nat) : Int) - 0 = _; rw [Int.toNat_natCast]; omega
    have e2 : c - Int.toNat (0 : Int) = c := rfl
    have e3 : ((i : Int) + ((1 : Nat) : Int)) = ((i + 1 : Nat) : Int) := rfl
    rw [e1, e2, e3]
    obtain ⟨xs, ow, en⟩ := o.own.own
    rcases ow.is with ⟨h0, _⟩ | ⟨g, cur, rfl, hbg, hg, hcs, htk⟩
    · omega
    have hag : a.block ≠ g := fun e => by have := o.col _ rfl; rw [e] at ca; rw [ca] at this; cases this
    have hcz : cur.size = c * 3 := hcs
    have e4 : Int.toNat ((i + 1 : Nat) : Int) = i + 1 := rfl
    have e5 : Int.toNat (i : Int) = i := rfl
    have e6 : Int.toNat ((n + 1 : Nat) : Int) = n + 1 := rfl
    rw [e4, e5, e6, if_neg (by omega), if_neg (by omega)]
    refine ⟨rng64 (by omega) (by omega), ⟨by omega, by omega, by omega⟩, overlaps_k apdMark hg (by omega) va hag (vBool_mk (condF (condT ⟨rng64 (by omega) (by omega), ⟨by omega, by omega, by omega⟩, ⟨by omega, by omega, by omega⟩, ?_⟩)))⟩
    refine ins1_k apdMark en ow.len hg hcs htk hin hc fun h1 M => vIntMk ⟨⟨by omega, by omega, by omega⟩, ?_⟩
    refine ins2_k apdMark o.own en ow.len (fun k hk e => o.ne k hk _ rfl e) hbg hin hc M hR (fun j u hu => va.cell j hu) hag fun h2 o2 g2 s2 => vIntMk ?_
    exact hk _ c h2 col ⟨o2.keep (Keep.refl (fun _ => True) _) (fun _ _ _ => trivial) (fun k hk _ => ⟨hk.1, by rw [s2]; exact hk.2⟩) fun _ _ _ _ => trivial, o.col, fun q hq => by rw [s2]; exact o.hi q hq, fun e => by cases e⟩ g2 (fun _ _ => rfl) fun k hk => hf k (by rw [<- s2]; exact hk)
theorem insertO_calls {l : List OpenP} (o : OwnC elOpen h col v 77 b n c l) (hf : Fresh h col) (hi : i <= n) (hc : n + 1 <= c) {x : OpenP} (hR : elOpen.R (Free col h) h x cs) (va : Var h a tv cs) (ca : col a.block = none) (hn : n <= 1000000)
    (hk : ∀ b' c' h' col', OwnC elOpen h' col' v 77 b' (n + 1) c' (l.take i ++ x :: l.drop i) -> Grow h h' b -> (∀ k, k < h.size -> col' k = col k) -> Fresh h' col' -> K (.slice b' (n + 1) c') h') :
    HCalls Tryz.prog 241 ⟨[.slice b n c, .int .i64 (i : Int), .slice (some a) 1 1]⟩ h K := by
  have hlen := o.len
  have hmax := o.cap.2
  simp only [maxLen] at hmax
  refine Sx.slices_Insert_apiOpen.ok _ _ _ _ _ _ _ _ _ ⟨⟨by omega, by omega, by omega⟩, splF (by omega) (spl (fun e => ?_) fun e => ?_)⟩
  · have ei : i = n := by omega
    subst ei
    refine o.append apdOpen (va.row1 hR ⟨ca, va.lt⟩) (by simp only [maxLen]; omega) (by omega) hf fun b' c' h' o' g' nb f' => ?_
    refine hk b' c' h' _ ?_ g' (fun k hk => putB_old hk) f'
    rw [take_snoc l x hlen]; exact o'
  · have hin : i < n := by omega
    refine ⟨rng64 (by omega) (by omega), cap_k (e := 77) (by kernel_rfl) (vIntMk (splF (by omega) (condF ⟨rng64 (by omega) (by omega), ⟨by omega, by omega, by omega⟩, ?_⟩)))⟩
    dsimp only [sqF]
    rw [cut0]
    have e1 : Int.toNat ((n : Int) + ((1 : Nat) : Int)) - Int.toNat (0 : Int) = n + 1 := by show Int.toNat ((n + 1 : Nat) : Int) - 0 = _; rw [Int.toNat_natCast]; omega
    have e2 : c - Int.toNat (0 : Int) = c := rfl
    have e3 : ((i : Int) + ((1 : Nat) : Int)) = ((i + 1 : Nat) : Int) := rfl
    rw [e1, e2, e3]
    obtain ⟨xs, ow, en⟩ := o.own.own
    rcases ow.is with ⟨h0, _⟩ | ⟨g, cur, rfl, hbg, hg, hcs, htk⟩
    · omega
    have hag : a.block ≠ g := fun e => by have := o.col _ rfl; rw [e] at ca; rw [ca] at this; cases this
    have hcz : cur.size = c * 4 := hcs
    have e4 : Int.toNat ((i + 1 : Nat) : Int) = i + 1 := rfl
    have e5 : Int.toNat (i : Int) = i := rfl
    have e6 : Int.toNat ((n + 1 : Nat) : Int) = n + 1 := rfl
    rw [e4, e5, e6, if_neg (by omega), if_neg (by omega)]
    refine ⟨rng64 (by omega) (by omega), ⟨by omega, by omega, by omega⟩, overlaps_k apdOpen hg (by omega) va hag (vBool_mk (condF (condT ⟨rng64 (by omega) (by omega), ⟨by omega, by omega, by omega⟩, ⟨by omega, by omega, by omega⟩, ?_⟩)))⟩
    refine ins1_k apdOpen en ow.len hg hcs htk hin hc fun h1 M => vIntMk ⟨⟨by omega, by omega, by omega⟩, ?_⟩
    refine ins2_k apdOpen o.own en ow.len (fun k hk e => o.ne k hk _ rfl e) hbg hin hc M hR (fun j u hu => va.cell j hu) hag fun h2 o2 g2 s2 => vIntMk ?_
    exact hk _ c h2 col ⟨o2.keep (Keep.refl (fun _ => True) _) (fun _ _ _ => trivial) (fun k hk _ => ⟨hk.1, by rw [s2]; exact hk.2⟩) fun _ _ _ _ => trivial, o.col, fun q hq => by rw [s2]; exact o.hi q hq, fun e => by cases e⟩ g2 (fun _ _ => rfl) fun k hk => hf k (by rw [<- s2]; exact hk)
end
theorem deleteM_calls {A : Nat -> Prop} {h : H} {K : Value -> H -> Prop} {b : Option Addr} {n c base i : Nat} {l : List MarkP} (o : OwnA elMark A h base 79 b n c l) (hA : ∀ k, A k -> k < base) (hi : i < n) (hk : ∀ h', OwnA elMark A h' base 79 b (n - 1) c (l.eraseIdx i) -> Grow h h' b -> K (.slice b (n - 1) c) h') :
    HCalls Tryz.prog 237 ⟨[.slice b n c, .int .i64 (i : Int), .int .i64 ((i + 1 : Nat) : Int)]⟩ h K := by
  have hcap := o.own.cap
  refine Sx.slices_Delete_apiMark.ok _ _ _ _ _ _ _ ⟨⟨by omega, by omega, by omega, by omega⟩, splF (by omega) ⟨⟨by omega, by omega, by omega⟩, ⟨by omega, by omega, by omega⟩, ?_⟩⟩
  rw [cut0]
  exact delRow_k apdMark (by kernel_rfl) o hA hi (K := fun sb sn sc h => K (.slice sb sn sc) h) fun h' o' g' _ => hk h' o' g'
end Go.Proofs
namespace Go.Proofs
open Go Go.Sh
set_option linter.unusedVariables false
set_option maxRecDepth 100000
abbrev agCells (w : Addr) (nm : Bs) (f : Int) (bl : OpenP) (bk : Int) : List Value := [.pointer (some w), S nm, .int .i64 f, .int .i64 bl.1, .int .u8 bl.2.1, S bl.2.2.1, .int .u8 bl.2.2.2, .int .i64 bk]
structure AgW (h : H) (col : Col) (a w : Addr) (nm : Bs) (f : Int) (bl : OpenP) (bk : Int) : Prop where
  v : Var h a 168 (agCells w nm f bl bk)
  c : col a.block = some (4, 0)
def PA (s : Nat) : Prop := PS s ∨ s = 4
section
variable {Z : Nat -> Prop} {h h' : H} {K : Value -> H -> Prop} {col col' : Col} {a w : Addr} {m : WM} {nm : Bs} {f bk : Int} {bl : OpenP}
theorem AgW.ext (g : AgW h col a w nm f bl bk) (e : ExtP Z h col h' col') (hz : ¬ Z 4) : AgW h' col' a w nm f bl bk :=
  ⟨g.v.keep e.sk.w ⟨g.v.lt, fun s p hs e2 => by rw [g.c] at e2; cases e2; exact hz hs⟩, by rw [e.cl _ g.v.lt]; exact g.c⟩
theorem AgW.kb (g : AgW h col a w nm f bl bk) (k : KB h h') : AgW h' col a w nm f bl bk := g.ext (Z := fun _ => False) (.kb k) id
theorem AgW.ps (g : AgW h col a w nm f bl bk) (e : ExtP PS h col h' col') : AgW h' col' a w nm f bl bk := g.ext e (by unfold PS; omega)
theorem ExtP.pa (e : ExtP PS h col h' col') : ExtP PA h col h' col' := e.mono fun s hs => .inl hs
theorem agSt (g : AgW h col a w nm f bl bk) (p : PW h col w m) {i : Nat} {l : List Value} (hi : i + l.length <= 8) {Q : H -> Prop}
    (hk : ∀ h', Var h' a 168 (setAll (agCells w nm f bl bk) i l) -> col a.block = some (4, 0) -> PW h' col w m -> ExtP PA h col h' col -> KX a.block h h' -> Q h') : stL (a.add i) l 0 h Q := by
  refine stL_var (m := i) (i := 0) g.v (by show i + 0 + l.length <= 8; omega) fun h3 v3 k3 s3 => ?_
  have E : ExtP (fun s => s = 4) h col h3 col := ExtP.kx k3 g.c rfl
  exact hk h3 v3 g.c (p.ext E (by decide) (by decide) fun k hk => p.fresh k (by omega)) (E.mono fun s hs => .inr hs) k3
theorem agAt_calls (g : AgW h col a w nm f bl bk) (p : PW h col w m) {id : Int} (hk : ∀ h', KB h h' -> K (.int .i64 (atO m.op id)) h') :
    HCalls Tryz.prog 222 ⟨[.pointer (some a), .int .i64 id]⟩ h K := by
  obtain ⟨t, ads, T, W⟩ := p.ex
  obtain ⟨ob, oc, mb, mn, mc, v, o, om⟩ := W.ex
  refine Sx.adopt_agency_at.ok _ _ _ _ (newx_var fun a1 h1 v1 k1 e1 s1 => vSomeMk ⟨_, (g.v.kb k1).cell 0 rfl, vSomeMk ⟨_, _, _, (v.kb k1).cell 1 rfl, ?_⟩⟩)
  refine indexFuncOpen_calls (p := fun x => decide (x.1 = id)) (o.kb k1).row (fun x h2 next hx k2 hR hn => ?_) fun h2 k2 => vIntMk (hk h2 (k1.trans k2))
  have e : CallV Tryz.prog 4 (.func (.func 236) ⟨[]⟩ ⟨[.pointer (some a1)]⟩) ⟨[.agg ⟨[.int .i64 x.1, .int .u8 x.2.1, S x.2.2.1, .int .u8 x.2.2.2]⟩]⟩ h2 next =
      HCalls Tryz.prog 236 ⟨[.agg ⟨[.int .i64 x.1, .int .u8 x.2.1, S x.2.2.1, .int .u8 x.2.2.2]⟩, .pointer (some a1)]⟩ h2 fun v h' => vBool v fun b => cond b (next (.bool true) h') (next (.bool false) h') := by kernel_rfl
  rw [e]
  refine Sx.adopt_agency_at_1.ok _ _ _ _ _ _ _ (newx_var fun a8 h8 v8 k8 e8 _ => ⟨_, v8.cell 0 rfl, _, ((v1.kb k2).kb k8).cell0 rfl, ?_⟩)
  have := hn h8 k8
  refine spl (fun e => ?_) fun e => ?_
  · rw [decide_eq_true e] at this; exact this
  · rw [decide_eq_false e] at this; exact this
theorem book_eq {k bk : Nat} : ((unbook bk k : Nat) : Int) = if (k : Int) < (bk : Int) then (bk : Int) - 1 else (bk : Int) := by
  unfold unbook
  split
  · rw [if_pos (by omega)]; omega
  · rw [if_neg (by omega)]
theorem unmark_calls (g : AgW h col a w nm f bl bk) (p : PW h col w m) {k b : Nat} (hb : bk = (b : Int)) (hb2 : b <= 1000000) (hkl : k < m.mks.length) (hml : m.mks.length <= 1000000)
    (hk : ∀ h' col', PW h' col' w (unmark m k) -> AgW h' col' a w nm f bl (unbook b k : Nat) -> ExtP PA h col h' col' -> (∃ b c, cell h' (w.add 2) = some (.slice b (m.mks.length - 1) c) /\ m.mks.length <= c) -> K (.tuple ⟨[]⟩) h') :
    HCalls Tryz.prog 223 ⟨[.pointer (some a), .int .i64 (k : Int)]⟩ h K := by
  subst hb
  obtain ⟨t, ads, T, W⟩ := p.ex
  obtain ⟨ob, oc, mb, mn, mc, v, o, om⟩ := W.ex
  have hlen := om.len
  have hcap := om.cap
  obtain ⟨xs, he, hc, _⟩ := om.parts
  have e1 : ((k : Int) + (1 : Int)) = ((k + 1 : Nat) : Int) := rfl
  have fin : ∀ h1 b' c', KB h h1 -> OwnA elMark (Free col h) h1 h.size 79 b' (mn - 1) c' (m.mks.eraseIdx k) -> mn <= c' -> stL (w.add 2) [.slice b' (mn - 1) c'] 0 h1 fun h14 => vSome (some a) fun a15 => ∃ i16, cell h14 (a15.add 7) = some (.int .i64 i16) /\ (Spl ((k : Int) < i16) (vSome (some a) fun a17 => ∃ i18, cell h14 (a17.add 7) = some (.int .i64 i18) /\ (Rng .i64 (i18 - (1 : Int)) /\ (vSome (some a) fun a19 => stL (a19.add 7) [(.int .i64 (i18 - (1 : Int)))] 0 h14 fun h20 => K (.tuple ⟨[]⟩) h20))) (K (.tuple ⟨[]⟩) h14)) := fun h1 b' c' k1 o1 hc1 => by
    refine setMarks_k W p.fresh k1 o1 fun h2 W2 E2 f2 c2 => vSomeMk ?_
    have E2s : ExtP PS h col h2 (putB col h b' (2, 2)) := E2.mono fun s hs => .inr hs
    have p2 : PW h2 (putB col h b' (2, 2)) w (unmark m k) := ⟨t, ads, T.otherP (S := fun k => k = 2) (by decide) E2 f2, W2⟩
    have g2 := g.ps E2s
    refine ⟨_, g2.v.cell 7 rfl, spl (fun hlt => vSomeMk ⟨_, g2.v.cell 7 rfl, rng64 (by omega) (by omega), vSomeMk ?_⟩) fun hnl => ?_⟩
    · have hne : a.block ≠ w.block := fun e => by have := g2.c; rw [e, W2.col] at this; cases this
      refine agSt g2 p2 (i := 7) (by show 7 + 1 <= 8; omega) fun h3 v3 c3 p3 E3 k3 => hk h3 _ p3 ⟨?_, c3⟩ (E2s.pa.trans E3) ⟨b', c', ?_, by omega⟩
      · have hbk := book_eq (k := k) (bk := b)
        rw [if_pos hlt] at hbk
        rw [hbk]; exact v3
      · rw [hlen]
        exact k3.w.cell (by rw [add_block]; exact fun e => hne e.symm) c2
    · have hbk := book_eq (k := k) (bk := b)
      rw [if_neg hnl] at hbk
      refine hk h2 _ p2 ?_ E2s.pa ⟨b', c', by rw [hlen]; exact c2, by omega⟩
      rw [hbk]; exact g2
  have g7 : ∀ {h7 h10 : H} {b' : Option Addr}, KB h h7 -> Grow h7 h10 b' -> (∀ q, b' = some q -> h.size <= q.block) -> KB h h10 := fun k g lo => g.kb0 k lo
  refine Sx.adopt_agency_unmark.ok _ _ _ _ ⟨?_, ?_⟩
  · refine vSomeMk (vSomeMk ⟨_, g.v.cell 0 rfl, vSomeMk ⟨_, _, _, v.cell 2 rfl, rng64 (by omega) (by omega), ?_⟩⟩)
    refine cloneM_calls (A := Free col h) (fun k hk => hk.2) he hc hlen hcap.1 om.nil (by omega) fun b' c' h7 o7 k7 => vSliceMk ⟨k7.ext, ?_⟩
    rw [e1]
    refine deleteM_calls o7 (fun k hk => hk.2) (by omega) fun h10 o10 g10 => vSliceMk ?_
    have k10 := g7 k7 g10 o7.lo
    exact ⟨_, (g.kb k10).v.cell 0 rfl, vSomeMk (fin h10 b' c' k10 o10 o7.own.cap.1)⟩
  · refine vSomeMk ⟨_, g.v.cell 0 rfl, vSomeMk ⟨_, g.v.cell 0 rfl, vSomeMk ⟨_, _, _, v.cell 2 rfl, rng64 (by omega) (by omega), ?_⟩⟩⟩
    refine cloneM_calls (A := Free col h) (fun k hk => hk.2) he hc hlen hcap.1 om.nil (by omega) fun b' c' h7 o7 k7 => vSliceMk ⟨k7.ext, ?_⟩
    rw [e1]
    refine deleteM_calls o7 (fun k hk => hk.2) (by omega) fun h10 o10 g10 => vSliceMk ?_
    exact vSomeMk (fin h10 b' c' (g7 k7 g10 o7.lo) o10 o7.own.cap.1)
theorem scoped_calls (L : Lib0 h col) (g : AgW h col a w nm f bl bk) (p : PW h col w m) (hop : m.op.length <= 1000000) (hnm : ∀ x ∈ m.op, x.2.2.1.length <= 1000000000) {i : Nat} (hi : i < m.op.length) (hk : ∀ h', KB h h' -> K (.bool (scopedP (m.op.drop (i + 1)))) h') :
    HCalls Tryz.prog 224 ⟨[.pointer (some a), .int .i64 (i : Int)]⟩ h K := by
  obtain ⟨t, ads, T, W⟩ := p.ex
  obtain ⟨ob, oc, mb, mn, mc, v, o, om⟩ := W.ex
  have hcap := o.cap
  have hmax := hcap.2
  simp only [maxLen] at hmax
  have e1 : ((i : Int) + (1 : Int)) = ((i + 1 : Nat) : Int) := rfl
  refine Sx.adopt_agency_scoped.ok _ _ _ _ (vSomeMk ⟨_, g.v.cell 0 rfl, vSomeMk ⟨_, _, _, v.cell 1 rfl, rng64 (by omega) (by omega), ⟨by omega, by omega, by omega⟩, ?_⟩⟩)
  rw [e1]
  have r0 : Row elOpen (Bel h.size) h (if oc = i + 1 then ob else Option.map (fun q => q.add ((i + 1) * 4)) ob) (m.op.length - (i + 1)) (oc - (i + 1)) ((m.op.take m.op.length).drop (i + 1)) := o.row.sub (lo := i + 1) (hi := m.op.length) (by omega) (Nat.le_refl _) rfl
  rw [List.take_length] at r0
  have e2 : Int.toNat (m.op.length : Int) - Int.toNat ((i + 1 : Nat) : Int) = m.op.length - (i + 1) := rfl
  have e3 : oc - Int.toNat ((i + 1 : Nat) : Int) = oc - (i + 1) := rfl
  have e4 : Int.toNat ((i + 1 : Nat) : Int) = i + 1 := rfl
  rw [e2, e3, e4]
  have hn2 := r0.len
  refine ⟨m.op.length - (i + 1) + 1, ?_⟩
  have key : ∀ N j h2, j + N = m.op.length - (i + 1) -> KB h h2 -> ((m.op.drop (i + 1)).take j).all freeO = true ->
      Sx.adopt_agency_scoped.n6_L (fun h => K (.bool true) h) (fun h => K (.bool true) h) (fun y4 h => K (.bool y4) h) (N + 1) (if oc = i + 1 then ob else Option.map (fun q => q.add ((i + 1) * 4)) ob) (m.op.length - (i + 1)) (oc - (i + 1)) ((m.op.length - (i + 1) : Nat) : Int) (j : Int) h2 := by
    intro N
    induction N with
    | zero =>
      intro j h2 hj k2 hall
      refine splF (by omega) ?_
      have := hk h2 k2
      rw [List.take_of_length_le (by omega)] at hall
      unfold scopedP at this
      rwa [hall] at this
    | succ N ih =>
      intro j h2 hj k2 hall
      have hjl : j < (m.op.drop (i + 1)).length := by omega
      refine splT (by omega) ((r0.kb k2).idxN (i := j) hjl rfl fun q hA => ldOpen hA fun ow => newx_var fun a6 h7 v6 k6 e6 s6 => stL_var0 v6 (by show 4 <= 4; omega) fun h8 v8 k8 s8 => ldVar (m := (m.op.drop (i + 1))[j]) v8 ?_)
      have k28 : KB h2 h8 := KB.step k6 k8 (by omega)
      refine newx_var fun a13 h14 v13 k13 e13 s13 => newx_var (cs := wStar.map S) fun a15 h16 v15 k15 e15 s15 => ?_
      have hx : (m.op.drop (i + 1))[j] ∈ m.op := List.mem_of_mem_drop (List.getElem_mem hjl)
      have ow0 : OpenW (0, 0, [42], 0) := ⟨⟨by decide, by decide⟩, ⟨by decide, by decide⟩, by decide, ⟨by decide, by decide⟩⟩
      have r2 : Row elOpen (Bel h16.size) h16 (some a13) 2 2 [(0, 0, [42], 0), (m.op.drop (i + 1))[j]] :=
        Row.of (xs := cellsO (0, 0, [42], 0) ++ cellsO (m.op.drop (i + 1))[j]) ⟨cellsO (0, 0, [42], 0), _, rfl, ow0.r, cellsO (m.op.drop (i + 1))[j], [], by simp, ow.r, rfl⟩ (fun jj x hx => ⟨a13, rfl, (v13.kb k15).cell jj hx⟩) rfl (Nat.le_refl _) (by decide) fun x e => by cases e; exact (v13.kb k15).lt
      have k216 := (k28.trans k13).trans k15
      refine openIn_calls (sc := 0) (L.ml.kb (k2.trans k216)) (fun k hk => hk) r2 (fun x hx2 => ?_) (rowLit (ws := wStar) v15 (by decide) (by decide)) fun h18 k18 => vBool_mk (condB (fun hb => ⟨rng64 (by omega) (by omega), ih (j + 1) h18 (by omega) ((k2.trans k216).trans k18) ?_⟩) fun hb => ?_)
      · rcases List.mem_cons.1 hx2 with e | e
        · rw [e]; decide
        · rw [List.mem_singleton.1 e]; have := hnm _ hx; omega
      · rw [List.take_add_one, List.getElem?_eq_getElem hjl, List.all_append, hall]
        show (true && [_].all freeO) = true
        rw [List.all_cons, List.all_nil, Bool.and_true]
        exact hb
      · have := hk h18 ((k2.trans k216).trans k18)
        have hno : scopedP (m.op.drop (i + 1)) = false := by
          unfold scopedP
          rw [Bool.eq_false_iff]
          intro hh
          have h2 := List.all_eq_true.1 hh _ (List.getElem_mem hjl)
          have hb : freeO (m.op.drop (i + 1))[j] = false := hb
          rw [hb] at h2; cases h2
        rwa [hno] at this
  exact key (m.op.length - (i + 1)) 0 h (by omega) (KB.refl h) rfl
end
end Go.Proofs
