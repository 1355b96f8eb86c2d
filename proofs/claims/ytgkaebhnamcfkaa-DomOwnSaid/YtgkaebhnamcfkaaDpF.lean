/- dom: DomOwn. No condition. -/
import Derived.Test.YtgkaebhnamcfkaaDpH
import Derived.Test.YtgkaebhnamcfkaaTxE
import Derived.Test.YtgkaebhnamcfkaaDpE
namespace Go.Proofs
open Go Go.Sh
set_option linter.unusedVariables false
set_option maxRecDepth 100000
theorem thawK.kb {h h' : H} {g : Nat} (t : thawK h g) (k : KB h h') : thawK h' g := by
  obtain ⟨c, e, hg⟩ := t
  exact ⟨c, e, by rw [k.2 g (Array.getElem?_eq_some_iff.1 hg).1]; exact hg⟩
theorem cellB {h h' : H} {a : Addr} {v : Value} (e : cell h a = some v) (k : KB h h') : cell h' a = some v := (KB.w k).cell (cell_lt e) e
theorem shAttr.kb {A : Nat → Prop} {h h' : H} {b : Option Addr} {n : Nat} (s : shAttr A h b n) (k : KB h h') : shAttr A h' b n :=
  ⟨s.1, fun i hi => by
    obtain ⟨a, e, hA, ht, ⟨s1, c1⟩, s2, c2⟩ := s.2 i hi
    exact ⟨a, e, hA, ht.kb k, ⟨s1, cellB c1 k⟩, s2, cellB c2 k⟩⟩
theorem shNode.kb {A : Nat → Prop} {h h' : H} (k : KB h h') : ∀ {d : Nat} {q : Addr}, shNode d A h q → shNode d A h' q
  | 0, _, s => s.elim
  | d + 1, q, ⟨hA, ht, i, j, s, ab, an, ac, tx, kb, kn, kc, c0, c1, c2, c3, c4, c5, sa, hk, sk⟩ =>
    ⟨hA, ht.kb k, i, j, s, ab, an, ac, tx, kb, kn, kc, cellB c0 k, cellB c1 k, cellB c2 k, cellB c3 k, cellB c4 k, cellB c5 k, sa.kb k, hk, fun m hm => by
      obtain ⟨a, e, hs⟩ := sk m hm
      exact ⟨a, e, shNode.kb k hs⟩⟩
theorem fewA_nil (d : Nat) : fewA d [] := by
  cases d with
  | zero => trivial
  | succ d => exact ⟨Nat.zero_le _, fun x hx => by cases hx⟩
section
variable {h h0 h' : H} {K : Value → H → Prop} {col col' : Col} {s i p : Nat} {t a : Addr} {ads : List Addr} {ns ns' : List NodeM}
theorem whole_few (T : TreeP h col s t ads ns) (G : GoodT ns) : ∀ (d : Nat) (id : Int), fewA d (wholeL d ns id)
  | 0, _ => trivial
  | d + 1, id => by
    have hf := T.few
    have hlen := T.len
    have hks : (kidsI ns id).length ≤ 1000000 := by
      unfold kidsI
      split
      · cases hx : ns[id.toNat]? with
        | none => exact Nat.zero_le _
        | some z => exact Nat.le_trans (G.few hx) hf
      · exact Nat.zero_le _
    refine ⟨by unfold wholeL; rw [List.length_map]; exact hks, fun x hx => ?_⟩
    unfold wholeL at hx
    obtain ⟨k, hk, rfl⟩ := List.mem_map.1 hx
    unfold nodeVI
    cases hz : ns[k.toNat]? with
    | none => exact ⟨Nat.zero_le _, fewA_nil d⟩
    | some z =>
      have hlt := getI hz
      exact ⟨(T.nodes _ z _ hz (List.getElem?_eq_getElem (by omega))).fa, whole_few T G d k⟩
theorem own_end (T : TreeP h col 0 t ads ns) (G : GoodT ns) (hlen : ns.length ≤ 200) (hk : ∀ h', KB h h' → K (.bool true) h') : Sx.l10_DomOwn.n5 (some t) (fun y2 h => K (.bool y2) h) (fun y2 h => K (.bool y2) h) h := by
  obtain ⟨D, hD⟩ := G.deep
  have hd := hD D (Nat.le_refl _) 0
  refine wholeT_calls G D 0 T hd fun h1 b1 n1 c1 k1 o1 => vSliceMk ?_
  have hm1 : n1 ≤ maxLen := Nat.le_trans o1.row.cap o1.row.max
  have s1 := k1.1
  refine lentN_calls D o1.weakT.row (whole_few T G D 0) fun b2 c2 h2 o2 k2 => vSliceMk ?_
  have hw := whole_few T G D 0
  refine spoil_calls D (A := fun k => h.size ≤ k ∧ k < h1.size) hm1 (fun i hi => by
    obtain ⟨a, e, hs⟩ := shape_own o1 i hi
    exact ⟨a, e, hs.kb k2⟩) fun h3 f3 => ?_
  have k12 := k1.trans k2
  have k03 : KB h h3 := SK.trans k12 (f3.sk.less fun k hk => by have hk : k < h.size := hk; intro hn; omega)
  have R2 := o2.row
  have R3 : Row (elNode D) (fun _ => True) h3 b2 _ c2 (wholeL D ns 0) := R2.keep (SK.w (f3.sk.less fun k hk => by intro hn; have := hk.1.1; omega)) fun _ _ _ => trivial
  obtain ⟨r, hr0, hr⟩ := G.root
  have hlr := getI hr0
  refine kids_calls (T.kb k03) (fun hn => absurd ⟨Int.le_refl 0, by omega⟩ hn) G fun i x b4 c4 h4 ei hx o4 k4 => vSliceMk ⟨x.kids.length + 1, ?_⟩
  have hi0 : i = 0 := by omega
  subst hi0
  have hfx := G.few hx
  have fin : ∀ h5, KB h3 h5 → Sx.l10_DomOwn.n10 (some t) b2 n1 c2 b4 x.kids.length c4 (fun y2 h => K (.bool y2) h) (fun y2 h => K (.bool y2) h) h5 := fun h5 k5 => by
    have k05 := k03.trans k5
    refine whole_calls G D 0 (T.kb k05) hd fun h6 b6 n6 c6 k6 o6 => vSliceMk (sameNodes_calls D o6.row (R3.kb (k5.trans k6)) fun h7 k7 => vBool_mk ?_)
    rw [sameN_true rfl]
    have k07 := (k05.trans k6).trans k7
    refine condT (kids_calls (T.kb k07) (fun hn => absurd ⟨Int.le_refl 0, by omega⟩ hn) G fun i x2 b8 c8 h8 ei hx2 o8 k8 => vSliceMk ?_)
    have hi0 : i = 0 := by omega
    subst hi0
    rw [hx] at hx2
    cases hx2
    exact splT rfl (hk h8 (k07.trans k8))
  have key : ∀ N k h5 (l : List Int), k + N = x.kids.length → KB h3 h5 → OwnF (elInt .i64) h5 h3.size 3 b4 x.kids.length c4 l →
      Sx.l10_DomOwn.n13_L (fun z3 z7b z7n z7c z8b z8n z8c h => Sx.l10_DomOwn.n10 z3 z7b z7n z7c z8b z8n z8c (fun y2 h => K (.bool y2) h) (fun y2 h => K (.bool y2) h) h) (fun z3 z7b z7n z7c z8b z8n z8c h => Sx.l10_DomOwn.n10 z3 z7b z7n z7c z8b z8n z8c (fun y2 h => K (.bool y2) h) (fun y2 h => K (.bool y2) h) h) (fun y2 h => K (.bool y2) h) (N + 1) (some t) b2 n1 c2 b4 x.kids.length c4 (k : Int) h5 := by
    intro N
    induction N with
    | zero =>
      intro k h5 l hkn k5 o5
      unfold Sx.l10_DomOwn.n13_L
      exact splF (by omega) (fin h5 k5)
    | succ N ih =>
      intro k h5 l hkn k5 o5
      have hl := o5.own.len
      unfold Sx.l10_DomOwn.n13_L
      refine splT (by omega) (ownF_setF (f := 0) (x := l[k]'(by omega)) (x' := -5) (z := 1) (fun _ _ _ _ _ _ h => h) o5 (List.getElem?_eq_getElem (by omega)) rfl (by decide) rfl (fun A h cs hR => ?_) fun a h6 ea o6 k6 s6 hb => ⟨rngI (by omega) (by omega), ih (k + 1) h6 _ (by omega) (KB.step k5 k6 hb) o6⟩)
      rw [hR.1]
      exact ⟨rfl, by decide, by decide⟩
  exact key _ 0 h4 x.kids (by omega) k4 o4
theorem lawOwn_calls {d : Nat} {A : Nat → Prop} {b : Option Addr} {n c : Nat} {l : List OpP} (R : Row (elOp d) A h b n c l)
    (hk : ∀ h', KB h h' → K (.bool true) h') : HCalls Try.prog 3 ⟨[.slice b n c]⟩ h K := by
  have hl := R.len
  refine Sx.l10_DomOwn.ok _ _ _ _ _ (heavy_calls R fun h2 v k2 hv => vBool_mk (condB (fun _ => known_calls fun h3 k3 => vBool_mk (condT (hk h3 (k2.trans k3)))) fun e => ?_))
  obtain ⟨hn, hw⟩ := hv e
  refine known_calls fun h4 k4 => vBool_mk (condT ?_)
  have k14 := k2.trans k4
  refine new_calls (s := 0) (col := fun _ => none) (fun _ _ => rfl) fun t h5 c5 a5 T5 E5 => vPtrMk ⟨n + 1, ?_⟩
  have key : ∀ N i h6 c6 ads ns, i + N = n → TreeP h6 c6 0 t ads ns → GoodT ns → Ext 0 h4 (fun _ => none) h6 c6 → ns.length ≤ i + 1 →
      Sx.l10_DomOwn.n16_L (fun z3 h => Sx.l10_DomOwn.n5 z3 (fun y2 h => K (.bool y2) h) (fun y2 h => K (.bool y2) h) h) (fun z3 h => Sx.l10_DomOwn.n5 z3 (fun y2 h => K (.bool y2) h) (fun y2 h => K (.bool y2) h) h) (fun y2 h => K (.bool y2) h) (N + 1) b n c (some t) (i : Int) h6 := by
    intro N
    induction N with
    | zero =>
      intro i h6 c6 ads ns hi T G E hlen
      unfold Sx.l10_DomOwn.n16_L
      exact splF (by omega) (own_end T G (by omega) fun h' k => hk h' ((k14.trans (ext0 E)).trans k))
    | succ N ih =>
      intro i h6 c6 ads ns hi T G E hlen
      unfold Sx.l10_DomOwn.n16_L
      have hil : i < l.length := by omega
      have k6 := k14.trans (ext0 E)
      refine splT (by omega) ((R.kb k6).idxN hil rfl fun a hA => ldNode (at_up hA.snd.fst) fun bb bn bc eb en ec rb hbz re hez q1 q2 q3 q4 => ?_)
      have han := sum_mem_tot hil (d := d) (by omega)
      have hrb := rb.len
      refine make_calls T rb hbz (by omega) q1 q2 q3 q4 (by omega) fun h7 c7 a7 T7 E7 => vIntMk ?_
      have E' := E.trans E7
      have G7 := G.addM l[i].2.1.kind l[i].2.1.space l[i].2.1.name l[i].2.1.attrs l[i].2.1.text
      have al := add_len (ns := ns) (o := bareM l[i].2.1.kind l[i].2.1.space l[i].2.1.name l[i].2.1.attrs l[i].2.1.text)
      refine (R.kb (k14.trans (ext0 E'))).idxN hil rfl fun a hA => ldI (hA.snd.sndAt (m := 1) (k := 7) rfl).fst fun _ => ⟨rngI (by omega) (by omega), by omega, ?_⟩
      refine put_calls T7 G7 fun h8 c8 T8 E8 => vBool_mk ?_
      have next := ih (i + 1) h8 c8 a7 _ (by omega) T8 (G7.putM _ _ _) (E'.trans E8) (by rw [put_len G7]; omega)
      exact condB (fun _ => ⟨rngI (by omega) (by omega), next⟩) fun _ => ⟨rngI (by omega) (by omega), next⟩
  exact key n 0 h5 c5 a5 [rootM] (by omega) T5 good_root E5 (by decide)
end
end Go.Proofs
