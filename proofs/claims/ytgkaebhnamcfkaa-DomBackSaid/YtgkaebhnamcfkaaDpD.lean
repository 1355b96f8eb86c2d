/- dom: DomBack. No condition. -/
import Derived.Test.YtgkaebhnamcfkaaDpC
namespace Go.Proofs
open Go Go.Sh
set_option linter.unusedVariables false
set_option maxRecDepth 100000
section
variable {h h0 h' : H} {K : Value → H → Prop} {col col' : Col} {s i p : Nat} {t a : Addr} {ads : List Addr} {ns ns' : List NodeM}
theorem add_len {ns : List NodeM} {o : Option NodeM} : (addM ns o).1.length ≤ ns.length + 1 := by
  cases o with
  | none => exact Nat.le_succ _
  | some x => show (ns ++ [x]).length ≤ _; simp
theorem put_len {ns : List NodeM} (G : GoodT ns) (p b i : Int) : (putM ns p b i).1.length = ns.length := by
  unfold putM
  by_cases hc : holdB ns p = true ∧ (0 ≤ i ∧ i < ns.length) ∧ i ≠ 0 ∧ b ≠ i ∧ 0 ≤ plcP (((ns[p.toNat]?).map (·.kids)).getD []) b ∧ withinP ns p i = false
  · rw [if_pos hc]
    show (putAt _ _ _ _).length = _
    unfold putAt
    split
    · exact cutM_len ns G i
    · split
      · exact cutM_len ns G i
      · rw [List.length_set, List.length_set]; exact cutM_len ns G i
  · rw [if_neg hc]
theorem sum_mem_tot {d : Nat} {l : List OpP} {i : Nat} (hi : i < l.length) (hw : sumN (fun x : OpP => totN (d + 1) [x.2.1]) l ≤ 600) : l[i].2.1.attrs.length ≤ 1000000 := by
  have h1 : totN (d + 1) [l[i].2.1] ≤ sumN (fun x : OpP => totN (d + 1) [x.2.1]) l := sumN_mem (f := fun x : OpP => totN (d + 1) [x.2.1]) (List.getElem_mem hi)
  have h2 : l[i].2.1.attrs.length ≤ totN (d + 1) [l[i].2.1] := tot_attrs (List.mem_singleton.2 rfl)
  omega
theorem lawBack_calls {d d2 : Nat} {A B : Nat → Prop} {b : Option Addr} {n c : Nat} {l : List OpP} {x : NodeV} {cs : List Value} (R : Row (elOp d) A h b n c l) (Rx : nodeR d2 B h x cs)
    (hk : ∀ h', KB h h' → K (.bool true) h') : HCalls Try.prog 6 ⟨[.slice b n c, .agg ⟨cs⟩]⟩ h K := by
  obtain ⟨ab, an, ac, kb, kn, kc, rfl, ra, hz, rk, hz2, r1, r2, r3, r4⟩ := nodeR_inv (nodeR_up Rx)
  have hl := R.len
  refine Sx.l10_DomBack.ok _ _ _ _ _ _ _ _ _ _ _ _ _ _ _ (newx_var fun a3 h1 v3 k1 e1 s1 => heavy_calls (R.kb k1) fun h2 v k2 hv => vBool_mk (condB (fun _ => known_calls fun h3 k3 => vBool_mk (condT (hk h3 ((k1.trans k2).trans k3)))) fun e => ?_))
  obtain ⟨hn, hw⟩ := hv e
  have k12 := k1.trans k2
  have v4 := v3.kb k2
  refine ⟨_, v4.cell 0 rfl, _, v4.cell 1 rfl, _, v4.cell 2 rfl, _, _, _, v4.cell 3 rfl, _, v4.cell 4 rfl, _, _, _, v4.cell 5 rfl, newx_var fun a4 h3 v5 k3 e3 s3 => ?_⟩
  have k13 := k12.trans k3
  refine nodes_calls (by decide) (by decide) (d2 + 1) (row_one v5 (ra.kb k13) hz (rk.kb k13) hz2 r1 r2 r3 r4) (by decide) (by decide) fun w g1 g2 g3 => vIntMk (spl (fun _ => known_calls fun h4 k4 => vBool_mk (condT (hk h4 (k13.trans k4)))) fun hle => known_calls fun h4 k4 => vBool_mk (condT ?_))
  have ht := g3 (by omega)
  have hat : x.attrs.length ≤ totN (d2 + 1) [x] := tot_attrs (List.mem_singleton.2 rfl)
  have hra := ra.len
  have k14 := k13.trans k4
  have v6 := (v4.kb k3).kb k4
  refine new_calls (s := 0) (col := fun _ => none) (fun _ _ => rfl) fun t h5 c5 a5 T5 E5 => vPtrMk ⟨n + 1, ?_⟩
  have key : ∀ N i h6 c6 ads ns, i + N = n → TreeP h6 c6 0 t ads ns → GoodT ns → Ext 0 h4 (fun _ => none) h6 c6 → ns.length ≤ i + 1 →
      Sx.l10_DomBack.n19_L (fun z3 z5 h => Sx.l10_DomBack.n5 z3 z5 (fun y2 h => K (.bool y2) h) (fun y2 h => K (.bool y2) h) h) (fun z3 z5 h => Sx.l10_DomBack.n5 z3 z5 (fun y2 h => K (.bool y2) h) (fun y2 h => K (.bool y2) h) h) (fun y2 h => K (.bool y2) h) (N + 1) b n c a3 (some t) (i : Int) h6 := by
    intro N
    induction N with
    | zero =>
      intro i h6 c6 ads ns hi T G E hlen
      unfold Sx.l10_DomBack.n19_L
      exact splF (by omega) (back_end T G E (by omega) v6 (ra.kb k14) hz (by omega) r1 r2 r3 r4 fun h' k => hk h' (k14.trans k))
    | succ N ih =>
      intro i h6 c6 ads ns hi T G E hlen
      unfold Sx.l10_DomBack.n19_L
      have hil : i < l.length := by omega
      have k6 := k14.trans (ext0 E)
      refine splT (by omega) ((R.kb k6).idxN hil rfl fun a hA => ldNode (at_up hA.snd.fst) fun bb bn bc eb en ec rb hbz re hez q1 q2 q3 q4 => ?_)
      have han := sum_mem_tot hil (d := d) (by omega)
      have hrb := rb.len
      refine make_calls T rb hbz (by omega) q1 q2 q3 q4 (by omega) fun h7 c7 a7 T7 E7 => vIntMk ?_
      have E' := E.trans E7
      have G7 := G.addM l[i].2.1.kind l[i].2.1.space l[i].2.1.name l[i].2.1.attrs l[i].2.1.text
      have al := add_len (ns := ns) (o := bareM l[i].2.1.kind l[i].2.1.space l[i].2.1.name l[i].2.1.attrs l[i].2.1.text)
      refine (R.kb (k14.trans (ext0 E'))).idxN hil rfl fun a hA => ldI (hA.snd.sndAt (m := 1) (k := 7) rfl).fst fun _ => ⟨rngI (by omega) (by omega), by omega, ?_⟩
      refine put_calls T7 G7 fun h8 c8 T8 E8 => vBool_mk ?_
      have next := ih (i + 1) h8 c8 a7 _ (by omega) T8 (G7.putM _ _ _) (E'.trans E8) (by rw [put_len G7]; omega)
      exact condB (fun _ => ⟨rngI (by omega) (by omega), next⟩) fun _ => ⟨rngI (by omega) (by omega), next⟩
  exact key n 0 h5 c5 a5 [rootM] (by omega) T5 good_root E5 (by decide)
end
end Go.Proofs
