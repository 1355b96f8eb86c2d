/- place: what is put, or written, at the end of a node. Plain. -/
import Derived.Test.YtmnjhhgdhlgjfaaPcI
namespace Go.Proofs
open Go Go.Sh
set_option linter.unusedVariables false
set_option maxRecDepth 100000
/-- only the root and elements hold something -/
def KidsH (ns : List NodeM) : Prop := ∀ (i : Nat) x, ns[i]? = some x → x.kids ≠ [] → i = 0 ∨ x.kind = 1
/-- above something stands a parent -/
theorem inC_kid {ns : List NodeM} : ∀ (f : Nat) {i q : Int}, q ∈ chainP ns f i → q ≠ i → ∃ (j : Nat) (y : NodeM), ns[j]? = some y ∧ y.parent = q
  | 0, _, _, h, _ => by cases h
  | f + 1, i, q, h, hne => by
    unfold chainP at h
    by_cases h0 : 0 ≤ i
    · rw [if_pos h0] at h
      rcases List.mem_cons.1 h with e | h
      · exact absurd e hne
      · by_cases e : q = parI ns i
        · cases hx : ns[i.toNat]? with
          | none =>
            have : parI ns i = -1 := by unfold parI; rw [hx]; rfl
            rw [this, chain_neg (by decide)] at h; cases h
          | some x => exact ⟨i.toNat, x, hx, by rw [e]; unfold parI; rw [hx]; rfl⟩
        · exact inC_kid f h e
    · rw [if_neg h0] at h; cases h
theorem holdB_app {ns : List NodeM} {x : NodeM} {p : Int} (h : holdB ns p = true) : holdB (ns ++ [x]) p = true := by
  obtain ⟨q, y, rfl, hy, hq⟩ := holdB_nat h
  unfold holdB
  have hlt := getI hy
  rw [Int.toNat_natCast, List.getElem?_append_left hlt, hy, Bool.and_eq_true]
  refine ⟨decide_eq_true ⟨by omega, by rw [List.length_append]; show (q : Int) < ((ns.length + 1 : Nat) : Int); omega⟩, decide_eq_true (hq.imp (by omega) id)⟩
theorem holdB_mk {ns : List NodeM} {q : Nat} {y : NodeM} (hy : ns[q]? = some y) (h : q = 0 ∨ y.kind = 1) : holdB ns (q : Int) = true := by
  unfold holdB
  have hlt := getI hy
  rw [Int.toNat_natCast, hy, Bool.and_eq_true]
  exact ⟨decide_eq_true ⟨by omega, by omega⟩, decide_eq_true (h.imp (by omega) id)⟩
/-- a new node, put behind the others of a node -/
def appK (ns : List NodeM) (p : Nat) (y x : NodeM) : List NodeM := ((ns ++ [x]).set p { y with kids := y.kids ++ [(ns.length : Int)] }).set ns.length { x with parent := (p : Int) }
theorem put_new {ns : List NodeM} (G : GoodT ns) {x y : NodeM} {p : Nat} (hp : x.parent = -1) (hk : x.kids = []) (hy : ns[p]? = some y) (hh : p = 0 ∨ y.kind = 1) :
    putM (ns ++ [x]) (p : Int) (-1) (ns.length : Int) = (appK ns p y x, true) := by
  have hlt := getI hy
  have hn : (ns ++ [x])[ns.length]? = some x := List.getElem?_concat_length
  have hyp : (ns ++ [x])[p]? = some y := by rw [List.getElem?_append_left hlt]; exact hy
  have hl : (ns ++ [x]).length = ns.length + 1 := by simp
  have hw : withinP (ns ++ [x]) (p : Int) (ns.length : Int) = false := by
    unfold withinP
    refine @decide_eq_false _ (Classical.propDecidable _) fun ⟨f, hf⟩ => ?_
    obtain ⟨j, z, hz, e⟩ := inC_kid f hf (by omega)
    have := ((G.add hp hk).kid ns.length x (j : Int) hn).2 ⟨j, z, rfl, hz, e⟩
    rw [hk] at this; cases this
  have hplc : plcP y.kids (-1) = (y.kids.length : Int) := if_pos rfl
  have hc : (cutM (ns ++ [x]) (ns.length : Int)).1 = ns ++ [x] := by
    unfold cutM
    rw [if_pos ⟨by omega, by omega⟩, Int.toNat_natCast, hn]
    have hp0 : x.parent < 0 := by omega
    simp only [if_pos hp0]
  have hkk : 0 ≤ plcP ((((ns ++ [x])[(p : Int).toNat]?).map (·.kids)).getD []) (-1) := by
    rw [Int.toNat_natCast, hyp]
    show 0 ≤ plcP y.kids (-1)
    rw [hplc]; omega
  unfold putM
  rw [if_pos ⟨holdB_app (holdB_mk hy hh), ⟨by omega, by omega⟩, by omega, by omega, hkk, hw⟩]
  · rw [hc, Int.toNat_natCast, Int.toNat_natCast]
    unfold putAt
    rw [hyp]
    simp only [hplc, Int.toNat_natCast, List.take_length, List.drop_length]
    rw [List.getElem?_set_ne (by omega), hn]
    rfl
theorem appK_get {ns : List NodeM} {p : Nat} {y x : NodeM} (hp : p < ns.length) (j : Nat) : (appK ns p y x)[j]? = if j = ns.length then some { x with parent := (p : Int) } else if j = p then some { y with kids := y.kids ++ [(ns.length : Int)] } else ns[j]? := by
  unfold appK
  rw [get_set2 (by simp) (by simp; omega) j]
  by_cases h1 : j = ns.length
  · rw [if_pos h1, if_pos h1]
  · rw [if_neg h1, if_neg h1]
    by_cases h2 : j = p
    · rw [if_pos h2, if_pos h2]
    · rw [if_neg h2, if_neg h2]
      rcases Nat.lt_or_ge j ns.length with h3 | h3
      · rw [List.getElem?_append_left h3]
      · rw [List.getElem?_eq_none (by simp; omega), List.getElem?_eq_none h3]
theorem appK_kids {ns : List NodeM} {p : Nat} {y x : NodeM} (hy : ns[p]? = some y) (hk : x.kids = []) (j : Nat) : kidsI (appK ns p y x) (j : Int) = if j = ns.length then [] else if j = p then y.kids ++ [(ns.length : Int)] else kidsI ns (j : Int) := by
  unfold kidsI
  rw [if_pos (by omega), Int.toNat_natCast, appK_get (getI hy)]
  by_cases h1 : j = ns.length
  · rw [if_pos h1, if_pos h1]
    show x.kids = []
    exact hk
  · rw [if_neg h1, if_neg h1]
    by_cases h2 : j = p
    · rw [if_pos h2, if_pos h2]; rfl
    · rw [if_neg h2, if_neg h2, if_pos (by omega)]
theorem own_app {ns : List NodeM} {p : Nat} {y x : NodeM} (hy : ns[p]? = some y) {j : Nat} (hj : j < ns.length) : ownT (appK ns p y x) (j : Int) = ownT ns (j : Int) := by
  unfold ownT
  rw [Int.toNat_natCast, appK_get (getI hy), if_neg (by omega)]
  by_cases h2 : j = p
  · subst h2; rw [if_pos rfl, hy]
  · rw [if_neg h2]
theorem atEnd_app {ns : List NodeM} (G : GoodT ns) {x y : NodeM} {p : Nat} (hp : x.parent = -1) (hk : x.kids = []) (hy : ns[p]? = some y) : AtEnd ns (appK ns p y x) p (if x.kind = 2 then x.text else []) := by
  have hlt := getI hy
  have Ek : ∀ k : Nat, k < ns.length → k ≠ p → kidsI (appK ns p y x) (k : Int) = kidsI ns (k : Int) := fun k h1 h2 => by rw [appK_kids hy hk, if_neg (by omega), if_neg h2]
  have Eo : ∀ (k : Nat) z, ns[k]? = some z → z.parent ≠ (p : Int) → ownT (appK ns p y x) (k : Int) = ownT ns (k : Int) := fun k z hz _ => own_app hy (getI hz)
  refine ⟨Ek, Eo, fun d => ?_⟩
  show (kidsI (appK ns p y x) (p : Int)).flatMap _ = (kidsI ns (p : Int)).flatMap _ ++ _
  rw [appK_kids hy hk, if_neg (by omega), if_pos rfl, List.flatMap_append, kidsI_some hy]
  congr 1
  · refine flatMap_congrL fun k hkm => ?_
    obtain ⟨j, z, rfl, hz, hpz⟩ := (G.kid p y k hy).1 hkm
    rw [own_app hy (getI hz), asideT Ek Eo G d j (getI hz) (kid_not G hz hpz)]
  · simp only [List.flatMap_cons, List.flatMap_nil, List.append_nil]
    rw [txI_none (by rw [appK_kids hy hk, if_pos rfl]), List.append_nil]
    unfold ownT
    rw [Int.toNat_natCast, appK_get hlt, if_pos rfl]
theorem KidsH.app {ns : List NodeM} (H : KidsH ns) {x y : NodeM} {p : Nat} (hk : x.kids = []) (hy : ns[p]? = some y) (hh : p = 0 ∨ y.kind = 1) : KidsH (appK ns p y x) := fun i z hz hne => by
  rw [appK_get (getI hy)] at hz
  by_cases h1 : i = ns.length
  · rw [if_pos h1] at hz; cases hz; exact absurd hk hne
  · rw [if_neg h1] at hz
    by_cases h2 : i = p
    · rw [if_pos h2] at hz; cases hz; exact hh.imp (fun h => by omega) id
    · rw [if_neg h2] at hz; exact H i z hz hne
theorem hold_app {ns : List NodeM} {x y : NodeM} {p : Nat} (hy : ns[p]? = some y) {q : Int} (hq : holdB ns q = true) : holdB (appK ns p y x) q = true := by
  obtain ⟨j, z, rfl, hz, hj⟩ := holdB_nat hq
  have hlt := getI hz
  have := appK_get (x := x) (y := y) (getI hy) j
  rw [if_neg (by omega)] at this
  by_cases h2 : j = p
  · rw [if_pos h2] at this
    subst h2
    rw [hy] at hz; cases hz
    exact holdB_mk this hj
  · rw [if_neg h2, hz] at this
    exact holdB_mk this hj
/-! ### text that goes on -/
theorem setTx_get {ns : List NodeM} {j : Nat} {z z' : NodeM} (hz : ns[j]? = some z) (k : Nat) : (ns.set j z')[k]? = if k = j then some z' else ns[k]? := by
  by_cases h : k = j
  · subst h; rw [if_pos rfl, List.getElem?_set_self (getI hz)]
  · rw [if_neg h, List.getElem?_set_ne (fun e => h e.symm)]
theorem setTx_kids {ns : List NodeM} {j : Nat} {z : NodeM} {tx : Bs} (hz : ns[j]? = some z) (k : Int) : kidsI (ns.set j { z with text := tx }) k = kidsI ns k := by
  unfold kidsI
  split
  · rw [setTx_get hz]
    by_cases h : k.toNat = j
    · rw [if_pos h, h, hz]; rfl
    · rw [if_neg h]
  · rfl
theorem atEnd_set {ns : List NodeM} (G : GoodT ns) (H : KidsH ns) {y z : NodeM} {p j : Nat} {tx : Bs} (hy : ns[p]? = some y) (hz : ns[j]? = some z) (hl : y.kids.getLast? = some (j : Int)) (h2 : z.kind = 2) : AtEnd ns (ns.set j { z with text := z.text ++ tx }) p tx := by
  have hjm : (j : Int) ∈ y.kids := List.mem_of_getLast? hl
  have hzp : z.parent = (p : Int) := by
    obtain ⟨j2, z2, e, hz2, hp2⟩ := (G.kid p y (j : Int) hy).1 hjm
    have : j = j2 := by omega
    subst this
    rw [hz] at hz2; cases hz2; exact hp2
  have hj0 : j ≠ 0 := fun e => by
    subst e
    obtain ⟨r, h1, h3⟩ := G.root
    rw [hz] at h1; cases h1
    rw [h3] at hzp; omega
  have hzk : z.kids = [] := by
    rcases Decidable.em (z.kids = []) with h | h
    · exact h
    · rcases H j z hz h with h | h
      · exact absurd h hj0
      · omega
  have Ek : ∀ k : Nat, k < ns.length → k ≠ p → kidsI (ns.set j { z with text := z.text ++ tx }) (k : Int) = kidsI ns (k : Int) := fun k _ _ => setTx_kids hz _
  have Eo1 : ∀ k : Nat, k ≠ j → ownT (ns.set j { z with text := z.text ++ tx }) (k : Int) = ownT ns (k : Int) := fun k hk => by
    unfold ownT; rw [Int.toNat_natCast, setTx_get hz, if_neg hk]
  have Eo : ∀ (k : Nat) u, ns[k]? = some u → u.parent ≠ (p : Int) → ownT (ns.set j { z with text := z.text ++ tx }) (k : Int) = ownT ns (k : Int) := fun k u hu hp => Eo1 k fun e => by subst e; rw [hz] at hu; cases hu; exact hp hzp
  refine ⟨Ek, Eo, fun d => ?_⟩
  show (kidsI _ (p : Int)).flatMap _ = (kidsI ns (p : Int)).flatMap _ ++ _
  rw [setTx_kids hz, kidsI_some hy]
  obtain ⟨init, hin⟩ : ∃ init, y.kids = init ++ [(j : Int)] := by
    obtain ⟨xs, x⟩ := List.eq_nil_or_concat y.kids |>.resolve_left (fun h => by rw [h] at hjm; cases hjm)
    obtain ⟨x, hx⟩ := x
    rw [List.concat_eq_append] at hx
    rw [hx, List.getLast?_concat] at hl
    cases hl
    exact ⟨xs, hx⟩
  have hnd := G.nodup p y hy
  rw [hin, List.flatMap_append, List.flatMap_append, List.append_assoc]
  congr 1
  · refine flatMap_congrL fun k hkm => ?_
    obtain ⟨j2, z2, rfl, hz2, hpz2⟩ := (G.kid p y k hy).1 (by rw [hin]; exact List.mem_append_left _ hkm)
    have hne : j2 ≠ j := fun e => by
      subst e
      rw [hin] at hnd
      exact absurd (List.nodup_append.1 hnd).2.2 (fun h => h (j2 : Int) hkm (j2 : Int) (by simp) rfl)
    rw [Eo1 j2 hne, asideT Ek Eo G d j2 (getI hz2) (kid_not G hz2 hpz2)]
  · simp only [List.flatMap_cons, List.flatMap_nil, List.append_nil]
    have hk : kidsI ns (j : Int) = [] := by rw [kidsI_some hz]; exact hzk
    rw [txI_none hk, txI_none (by rw [setTx_kids hz]; exact hk)]
    unfold ownT
    rw [Int.toNat_natCast, setTx_get hz, if_pos rfl, hz]
    show (if z.kind = 2 then z.text ++ tx else []) ++ [] = (if z.kind = 2 then z.text else []) ++ [] ++ tx
    rw [if_pos h2, if_pos h2, List.append_nil, List.append_nil]
theorem KidsH.setTx {ns : List NodeM} (H : KidsH ns) {j : Nat} {z : NodeM} {tx : Bs} (hz : ns[j]? = some z) : KidsH (ns.set j { z with text := tx }) := fun i u hu hne => by
  rw [setTx_get hz] at hu
  by_cases h : i = j
  · rw [if_pos h] at hu; cases hu; subst h; exact H i z hz hne
  · rw [if_neg h] at hu; exact H i u hu hne
theorem hold_setTx {ns : List NodeM} {j : Nat} {z : NodeM} {tx : Bs} (hz : ns[j]? = some z) {q : Int} (hq : holdB ns q = true) : holdB (ns.set j { z with text := tx }) q = true := by
  obtain ⟨k, u, rfl, hu, hk⟩ := holdB_nat hq
  have := setTx_get (z' := { z with text := tx }) hz k
  by_cases h : k = j
  · subst h
    rw [if_pos rfl] at this
    rw [hz] at hu; cases hu
    exact holdB_mk this hk
  · rw [if_neg h, hu] at this
    exact holdB_mk this hk
/-- text, written at the end of a node -/
theorem atEnd_write {ns : List NodeM} (G : GoodT ns) (H : KidsH ns) {y : NodeM} {p : Nat} {tx : Bs} (hy : ns[p]? = some y) (hh : p = 0 ∨ y.kind = 1) :
    AtEnd ns (writeM ns (p : Int) (-1) tx).1 p tx ∧ KidsH (writeM ns (p : Int) (-1) tx).1 ∧ ∀ q, holdB ns q = true → holdB (writeM ns (p : Int) (-1) tx).1 q = true := by
  have hplc : plcP y.kids (-1) = (y.kids.length : Int) := if_pos rfl
  have hkk : (((ns[(p : Int).toNat]?).map (·.kids)).getD []) = y.kids := by rw [Int.toNat_natCast, hy]; rfl
  have hhb := holdB_mk hy hh
  unfold writeM
  rw [hkk, hplc, if_neg (fun h => h ⟨hhb, by omega⟩)]
  by_cases ht : tx = []
  · rw [if_pos ht]
    subst ht
    exact ⟨⟨fun _ _ _ => rfl, fun _ _ _ _ => rfl, fun d => by rw [List.append_nil]⟩, H, fun q h => h⟩
  · rw [if_neg ht]
    rw [Int.toNat_natCast]
    have new : AtEnd ns (putM (addM ns (bareM 2 0 [] [] tx)).1 (p : Int) (-1) (addM ns (bareM 2 0 [] [] tx)).2).1 p tx ∧ KidsH (putM (addM ns (bareM 2 0 [] [] tx)).1 (p : Int) (-1) (addM ns (bareM 2 0 [] [] tx)).2).1 ∧ ∀ q, holdB ns q = true → holdB (putM (addM ns (bareM 2 0 [] [] tx)).1 (p : Int) (-1) (addM ns (bareM 2 0 [] [] tx)).2).1 q = true := by
      have e : putM (addM ns (bareM 2 0 [] [] tx)).1 (p : Int) (-1) (addM ns (bareM 2 0 [] [] tx)).2 = _ := put_new G (x := ⟨2, 0, [], [], tx, -1, []⟩) rfl rfl hy hh
      rw [e]
      exact ⟨atEnd_app G (x := ⟨2, 0, [], [], tx, -1, []⟩) rfl rfl hy, H.app rfl hy hh, fun q h => hold_app hy h⟩
    cases hg : y.kids[y.kids.length - 1]? with
    | none => exact new
    | some k =>
      have hpos : 0 < y.kids.length := by have := (List.getElem?_eq_some_iff.1 hg).1; omega
      have hl : y.kids.getLast? = some k := by rw [List.getLast?_eq_getElem?]; exact hg
      obtain ⟨j, z, rfl, hz, hpz⟩ := (G.kid p y k hy).1 (List.mem_of_getLast? hl)
      by_cases hk2 : z.kind = 2
      · have e : ((some (j : Int)).bind fun k : Int => if (0 : Int) < (y.kids.length : Int) then (ns[k.toNat]?).bind fun z => if z.kind = 2 then some (k.toNat, z) else none else none) = some (j, z) := by
          show (if (0 : Int) < (y.kids.length : Int) then (ns[(j : Int).toNat]?).bind fun z => if z.kind = 2 then some ((j : Int).toNat, z) else none else none) = _
          rw [if_pos (by omega), Int.toNat_natCast, hz]
          show (if z.kind = 2 then some (j, z) else none) = _
          rw [if_pos hk2]
        rw [e]
        exact ⟨atEnd_set G H hy hz hl hk2, H.setTx hz, fun q h => hold_setTx hz h⟩
      · have e : ((some (j : Int)).bind fun k : Int => if (0 : Int) < (y.kids.length : Int) then (ns[k.toNat]?).bind fun z => if z.kind = 2 then some (k.toNat, z) else none else none) = none := by
          show (if (0 : Int) < (y.kids.length : Int) then (ns[(j : Int).toNat]?).bind fun z => if z.kind = 2 then some ((j : Int).toNat, z) else none else none) = _
          rw [if_pos (by omega), Int.toNat_natCast, hz]
          show (if z.kind = 2 then some (j, z) else none) = _
          rw [if_neg hk2]
        rw [e]
        exact new
end Go.Proofs
