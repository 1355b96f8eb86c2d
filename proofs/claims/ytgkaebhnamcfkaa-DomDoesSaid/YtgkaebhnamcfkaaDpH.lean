/- dom: acts with their answers told, and rows that stand beside a tree. No condition. -/
import Derived.Test.YtgkaebhnamcfkaaDpA
import Derived.Test.YtgkaebhnamcfkaaDoR
namespace Go.Proofs
open Go Go.Sh
set_option linter.unusedVariables false
set_option maxRecDepth 100000
theorem tot_attrs {d : Nat} {x : NodeV} {l : List NodeV} (h : x ∈ l) : x.attrs.length ≤ totN (d + 1) l := by
  have h1 : nodeW (totN d) x ≤ totN (d + 1) l := sumN_mem h
  rw [nodeW_eq] at h1
  have := attrs_len x.attrs
  omega
section
variable {h h0 h' : H} {K : Value → H → Prop} {col col' : Col} {s i p : Nat} {t a : Addr} {ads : List Addr} {ns ns' : List NodeM}
theorem row_ext {α : Type} {E : El α} {b : Option Addr} {n c : Nat} {l : List α} (r : Row E (fun k => col k = none) h b n c l) (e : Ext s h col h' col') : Row E (fun k => col' k = none) h' b n c l :=
  r.keep (SK.w (e.sk.less fun k hk => ⟨hk.2, fun p he => by rw [hk.1] at he; cases he⟩)) fun k hk hs => (e.cl k hs).trans hk
theorem row_new {α : Type} {E : El α} {b : Option Addr} {n c e : Nat} {l : List α} (T : TreeP h col s t ads ns) (o : OwnR E h' h.size e b n c l) : Row E (fun k => col k = none) h' b n c l :=
  o.row.keep (Keep.refl _ _) fun k hk _ => T.fresh k hk.1
theorem ext0 (e : Ext 0 h0 (fun _ => none) h col) : KB h0 h := e.sk.less fun k hk => ⟨hk, fun p e => by cases e⟩
theorem put_eq (T : TreeP h col s t ads ns) (G : GoodT ns) {parent before id : Int} {ok : Bool} (e : putM ns parent before id = (ns', ok)) (hk : ∀ h' col', TreeP h' col' s t ads ns' → Ext s h col h' col' → K (.bool ok) h') :
    HCalls Try.prog 11 ⟨[.pointer (some t), .int .i64 parent, .int .i64 before, .int .i64 id]⟩ h K := put_calls T G (by rw [e]; exact hk)
theorem cut_eq (T : TreeP h col s t ads ns) (G : GoodT ns) {id : Int} {ok : Bool} (e : cutM ns id = (ns', ok)) (hk : ∀ h' col', TreeP h' col' s t ads ns' → Ext s h col h' col' → K (.bool ok) h') :
    HCalls Try.prog 22 ⟨[.pointer (some t), .int .i64 id]⟩ h K := cut_calls T G (by rw [e]; exact hk)
theorem copy_eq (T : TreeP h col s t ads ns) {id v : Int} (hfew : ns.length < 1000000) (e : copyM ns id = (ns', v)) (hk : ∀ h' col' ads', TreeP h' col' s t ads' ns' → Ext s h col h' col' → K (.int .i64 v) h') :
    HCalls Try.prog 19 ⟨[.pointer (some t), .int .i64 id]⟩ h K := copy_calls T hfew (by rw [e]; exact hk)
theorem make_eq (T : TreeP h col s t ads ns) {v kd sp : Int} {nm tx : Bs} {ab kb : Option Addr} {an ac kn kc : Nat} {attrs : List AttrP} {A : Nat → Prop} (r : Row elAttr A h ab an ac attrs) (hz : ab = none → ac = 0) (han : an ≤ 1000000) (hkd : Rng .u8 kd) (hsp : Rng .u8 sp) (hxn : nm.length ≤ maxLen) (hxt : tx.length ≤ maxLen) (hfew : ns.length < 1000000)
    (e : addM ns (bareM kd sp nm attrs tx) = (ns', v)) (hk : ∀ h' col' ads', TreeP h' col' s t ads' ns' → Ext s h col h' col' → K (.int .i64 v) h') :
    HCalls Try.prog 10 ⟨[.pointer (some t), .agg ⟨[.int .u8 kd, .int .u8 sp, S nm, .slice ab an ac, S tx, .slice kb kn kc]⟩]⟩ h K := make_calls T r hz han hkd hsp hxn hxt hfew (by rw [e]; exact hk)
theorem add_len {ns : List NodeM} {o : Option NodeM} : (addM ns o).1.length ≤ ns.length + 1 := by
  cases o with
  | none => exact Nat.le_succ _
  | some x => show (ns ++ [x]).length ≤ _; simp
theorem put_len {ns : List NodeM} (G : GoodT ns) (p b i : Int) : (putM ns p b i).1.length = ns.length := by
  unfold putM
  by_cases hc : holdB ns p = true ∧ (0 ≤ i ∧ i < ns.length) ∧ i ≠ 0 ∧ b ≠ i ∧ 0 ≤ plcP (((ns[p.toNat]?).map (·.kids)).getD []) b ∧ withinP ns p i = false
  · rw [if_pos hc]
    show (putAt _ _ _ _).length = _
    unfold putAt
    split
    · exact cutM_len ns G i
    · split
      · exact cutM_len ns G i
      · rw [List.length_set, List.length_set]; exact cutM_len ns G i
  · rw [if_neg hc]
theorem sum_mem_tot {d : Nat} {l : List OpP} {i : Nat} (hi : i < l.length) (hw : sumN (fun x : OpP => totN (d + 1) [x.2.1]) l ≤ 600) : l[i].2.1.attrs.length ≤ 1000000 := by
  have h1 : totN (d + 1) [l[i].2.1] ≤ sumN (fun x : OpP => totN (d + 1) [x.2.1]) l := sumN_mem (f := fun x : OpP => totN (d + 1) [x.2.1]) (List.getElem_mem hi)
  have h2 : l[i].2.1.attrs.length ≤ totN (d + 1) [l[i].2.1] := tot_attrs (List.mem_singleton.2 rfl)
  omega
end
end Go.Proofs
