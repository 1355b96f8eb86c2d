/- dom: the chapter's tree: Move, Write. No condition but that the tree is one. -/
import Derived.Test.YtmnjhhgdhlgjfaaGreatDrD
namespace Go.Proofs
open Go Go.Sh
set_option linter.unusedVariables false
set_option maxRecDepth 100000
section
variable {h h' : H} {K : Value → H → Prop} {col col' : Col} {s i p : Nat} {t a : Addr} {ns : List NodeM} {x y : NodeM} {lb : Option Addr} {lc : Nat} {rs : List RawN} {r : RawN}
theorem write_r (T : RefP h col s t ns) (G : GoodT ns) {parent before : Int} {tx : Bs} (hlen : ∀ (i : Nat) x, ns[i]? = some x → x.text.length + tx.length ≤ 9223372036854775807) (htx : tx.length ≤ maxLen) (hfew : ns.length < 1000000)
    (hk : ∀ h' col', RefP h' col' s t (writeM ns parent before tx).1 → Ext s h col h' col' → K (.bool (writeM ns parent before tx).2) h') :
    HCalls Tryz.prog 39 ⟨[.pointer (some t), .int .i64 parent, .int .i64 before, S tx]⟩ h K := by
  refine Sx.r10_Tree_Write.ok _ _ _ _ _ _ (holds_r T (vBool_mk (condB (fun hh => ?_) fun hh => ?_)))
  · obtain ⟨p, y, ep, hy, hor⟩ := holdB_nat hh
    have hpl := getI hy
    have ekids : (((ns[parent.toNat]?).map (·.kids)).getD []) = y.kids := by rw [ep, Int.toNat_natCast, hy]; rfl
    unfold writeM at hk
    rw [ekids] at hk
    have T0 := T
    have hft := T.few
    have hfk := G.few hy
    rw [ep]
    refine condT (place_r T hy (vIntMk (spl (fun e => ?_) fun e => ?_)))
    · rw [if_pos (fun hh2 => by have := hh2.2; omega)] at hk
      exact hk h col T (Ext.refl _ _ _)
    · rw [if_neg (fun hn => hn ⟨hh, by omega⟩)] at hk
      refine spl (fun e2 => ?_) fun e2 => ?_
      · rw [if_pos e2] at hk
        exact hk h col T (Ext.refl _ _ _)
      · rw [if_neg e2] at hk
        obtain ⟨k, hkk⟩ := Int.eq_ofNat_of_zero_le (show 0 ≤ plcP y.kids before by omega)
        have hkk : plcP y.kids before = (k : Int) := hkk
        rw [hkk, Int.toNat_natCast, ep] at hk
        have other : ((y.kids[k - 1]?).bind (fun q : Int => if 0 < (k : Int) then (ns[q.toNat]?).bind fun z => if z.kind = 2 then some (q.toNat, z) else none else none)) = none → Sx.r10_Tree_Write.n8 (some t) (p : Int) before tx (fun y8 h => K (.bool y8) h) (fun y8 h => K (.bool y8) h) h := fun hnone => by
          rw [hnone] at hk
          refine make_r T (A := fun _ => True) (attrs := []) ⟨rfl, Nat.le_refl _, Nat.zero_le _, fun i x hx => by simp at hx⟩ (by omega) ⟨by decide, by decide⟩ ⟨by decide, by decide⟩ (Nat.zero_le _) htx hfew fun h2 col2 T2 E2 => vIntMk ?_
          exact put_r T2 (G.addM _ _ _ _ _) fun h3 col3 T3 E3 => vBool_mk (condB (fun eb => by have := hk h3 col3 T3 (E2.trans E3); rw [eb] at this; exact this) fun eb => by have := hk h3 col3 T3 (E2.trans E3); rw [eb] at this; exact this)
        rw [hkk]
        refine spl (fun e3 => ?_) fun e3 => other (by
          have e4 : ¬ 0 < (k : Int) := e3
          simp only [if_neg e4]
          cases y.kids[k - 1]? <;> rfl)
        obtain ⟨lb, lc, rs, C, em⟩ := T
        obtain ⟨q, hq, rfl⟩ := map_get em hy
        have N := C.nodes p q hq
        have hkl := N.ok.len
        have hkn : k ≤ q.x.kids.length := by
          have := hkk
          unfold plcP idxP at this
          by_cases eb : before = -1
          · rw [if_pos eb] at this; omega
          · rw [if_neg eb] at this
            by_cases em : before ∈ q.x.kids
            · rw [if_pos em] at this; have := idxN_lt em; omega
            · rw [if_neg em] at this; omega
        have ek : ((k : Int) - 1) = ((k - 1 : Nat) : Int) := by omega
        refine condT (rf_rd C hq fun a hc => ⟨_, _, _, hc 7 _ rfl, rngI (by omega) (by omega), ?_⟩)
        rw [ek]
        have hil : k - 1 < q.x.kids.length := by omega
        refine (N.ok.row (A := fun _ => True) fun _ _ => trivial).idxN hil rfl fun a hA => ldI hA fun _ => ?_
        obtain ⟨j, z, ej, hz', hpz⟩ := (G.kid p _ _ hy).1 (List.getElem_mem hil)
        have hjl := getI hz'
        rw [ej]
        obtain ⟨w, hw, rfl⟩ := map_get em hz'
        have Nw := C.nodes j w hw
        have ebind : ((q.x.kids[k - 1]?).bind (fun q : Int => if 0 < (k : Int) then (ns[q.toNat]?).bind fun z => if z.kind = 2 then some (q.toNat, z) else none else none)) = if w.x.kind = 2 then some (j, w.x) else none := by
          rw [List.getElem?_eq_getElem hil, ej]
          show (if 0 < (k : Int) then (ns[((j : Nat) : Int).toNat]?).bind _ else none) = _
          rw [if_pos (by omega), Int.toNat_natCast, hz']
          rfl
        refine rf_rd C hw fun a2 hc2 => ⟨_, hcZ hc2 0 rfl, spl (fun e4 => ?_) fun e4 => condF (other (by rw [ebind, if_neg e4]))⟩
        rw [ebind, if_pos e4] at hk
        have hlz := hlen j _ hz'
        refine condT (vSomeMk ⟨_, _, _, C.v.cell 0 rfl, rf_rd C hw fun a3 hc3 => ⟨_, hcZ hc3 4 rfl, ?_, ?_⟩⟩)
        · show ((w.x.text.length + tx.length : Nat) : Int) ≤ 9223372036854775807
          omega
        · refine ref_field C hw (f := 4) (r' := { w with x := { w.x with text := w.x.text ++ tx } }) (by omega) rfl rfl ⟨rfl, rfl, rfl, rfl, rfl, rfl, rfl, rfl⟩ ⟨Nw.rk, Nw.rs, Nw.rp, Nw.fn, ?_⟩ fun h2 C2 E2 _ => hk h2 col ⟨_, _, _, C2, map_set em⟩ E2
          show (w.x.text ++ tx).length ≤ _
          rw [List.length_append]; simp only [maxLen]; omega
  · have : writeM ns parent before tx = (ns, false) := by
      unfold writeM
      rw [if_pos (fun hy => by rw [hh] at hy; cases hy.1)]
    rw [this] at hk
    exact hk h col T (Ext.refl _ _ _)
end
end Go.Proofs
