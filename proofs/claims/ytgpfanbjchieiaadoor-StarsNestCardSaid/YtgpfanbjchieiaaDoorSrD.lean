/- stars: the program's Match. No condition. -/
import Derived.Test.YtgpfanbjchieiaaDoorSrC
namespace Go.Proofs
open Go Go.Sh
set_option linter.unusedVariables false
set_option maxRecDepth 100000
/-! ### plain: the chain, run by run -/
def stepN (st : List Nd × List PairP) (c : Nd) : List Nd × List PairP := if c.r.cl = true then closeGo c.ov.toNat st.1 c st.2 else (c :: st.1, st.2)
def matchN (left cs : List Nd) (out : List PairP) : List PairP := (cs.foldl stepN (left, out)).2
theorem match_live (l : List RunP) : matchP l = matchN [] (liveL l) [] := by
  unfold matchP matchN
  congr 1
  generalize (([], []) : List Nd × List PairP) = st
  induction l generalizing st with
  | nil => rfl
  | cons r l ih =>
    rw [List.foldl_cons, ih]
    unfold liveL
    by_cases h : r.2.2.1 > 0
    · rw [List.filter_cons_of_pos (by simpa using h), List.map_cons, List.foldl_cons]
      congr 1
      unfold stepP stepN closeP
      rw [if_neg (by show ¬ r.2.2.1 ≤ 0; omega)]
      rfl
    · rw [List.filter_cons_of_neg (by simpa using h)]
      congr 1
      unfold stepP
      rw [if_pos (by show r.2.2.1 ≤ 0; omega)]
/-- a node's numbers -/
structure NdB (x : Nd) : Prop where
  r : RunR x.r
  mn : 1 ≤ x.r.mn
  mx : x.r.mn ≤ 100000
  fr : 0 ≤ x.fr
  ov : 1 ≤ x.ov
  sm : x.fr + x.ov ≤ 100000
theorem NdB.few {x : Nd} (h : NdB x) : Few x.r := ⟨h.r, h.mn, h.mx⟩
def meas (cs : List Nd) : Nat := (cs.map fun c => c.ov.toNat + 1).sum
theorem meas_cons (c : Nd) (cs : List Nd) : meas (c :: cs) = c.ov.toNat + 1 + meas cs := by unfold meas; rw [List.map_cons, List.sum_cons]
theorem matchN_open {left cs : List Nd} {c : Nd} {out : List PairP} (h : c.r.cl = false) : matchN left (c :: cs) out = matchN (c :: left) cs out := by
  unfold matchN
  rw [List.foldl_cons]
  unfold stepN
  rw [if_neg (by rw [h]; decide)]
theorem matchN_none {left cs : List Nd} {c : Nd} {out : List PairP} (h : c.r.cl = true) (h1 : 1 ≤ c.ov) (hs : splitO c.r left = none) : matchN left (c :: cs) out = matchN (if c.r.op = true then c :: left else left) cs out := by
  unfold matchN
  rw [List.foldl_cons]
  unfold stepN
  rw [if_pos h]
  obtain ⟨k, hk⟩ : ∃ k, c.ov.toNat = k + 1 := ⟨c.ov.toNat - 1, by omega⟩
  simp only [hk]
  unfold closeGo
  rw [hs]
theorem leftO_ov {o c : Nd} {rest : List Nd} (hl : ∀ x ∈ rest, 1 ≤ x.ov) (h1 : 1 ≤ o.ov) (h2 : 1 ≤ c.ov) : ∀ x ∈ leftO o c rest, 1 ≤ x.ov := by
  have := nOf_bd h1 h2
  intro x hx
  unfold leftO at hx
  split at hx
  · exact hl x hx
  · rcases List.mem_cons.1 hx with rfl | hx
    · show 1 ≤ o.ov - nOf o c; omega
    · exact hl x hx
theorem matchN_some {left cs : List Nd} {c o : Nd} {rest : List Nd} {out : List PairP} (h : c.r.cl = true) (h1 : 1 ≤ c.ov) (hl : ∀ x ∈ o :: rest, 1 ≤ x.ov) (hs : splitO c.r left = some (o, rest)) :
    matchN left (c :: cs) out = if c.ov - nOf o c = 0 then matchN (leftO o c rest) cs (out ++ [pairOf o c]) else matchN (leftO o c rest) (nextC o c :: cs) (out ++ [pairOf o c]) := by
  have hn := nOf_bd (hl o (by simp)) h1
  unfold matchN
  rw [List.foldl_cons, List.foldl_cons]
  unfold stepN
  rw [if_pos h]
  obtain ⟨k, hk⟩ : ∃ k, c.ov.toNat = k + 1 := ⟨c.ov.toNat - 1, by omega⟩
  simp only [hk]
  rw [closeGo, hs]
  simp only
  split
  · rfl
  · rw [if_pos (show (nextC o c).r.cl = true from h)]
    rw [closeGo_more (nextC o c).ov.toNat _ _ _ (leftO_ov (fun x hx => hl x (by simp [hx])) (hl o (by simp)) h1) (show 1 ≤ c.ov - nOf o c by omega) (by omega) k (show (c.ov - nOf o c).toNat ≤ k by omega)]
theorem split_drop (c : RunP) : ∀ l : NL, match l.dropWhile (fun x => !suitsP x.2.r c) with
    | [] => splitO c (l.map (·.2)) = none
    | x :: t => splitO c (l.map (·.2)) = some (x.2, t.map (·.2)) ∧ ∃ mid, l = mid ++ x :: t
  | [] => rfl
  | y :: l => by
    have ih := split_drop c l
    rw [List.dropWhile_cons]
    cases hs : suitsP y.2.r c with
    | true =>
      simp only [Bool.not_true, Bool.false_eq_true, if_false]
      refine ⟨?_, [], rfl⟩
      rw [List.map_cons, splitO, if_pos hs]
    | false =>
      simp only [Bool.not_false, if_true]
      have e : splitO c ((y :: l).map (·.2)) = splitO c (l.map (·.2)) := by rw [List.map_cons, splitO, if_neg (by rw [hs]; decide)]
      rw [e]
      split at ih
      · exact ih
      · obtain ⟨h1, mid, h2⟩ := ih
        exact ⟨h1, y :: mid, by rw [h2]; rfl⟩
/-! ### walks -/
section
variable {h : H} {K : Value → H → Prop}
/-- the nearest that suits -/
theorem search {ca : Addr} {c : Nd} {ah af : Option Addr} {ob : Option Addr} {on oc : Nat} {Kn Ke2 : Option Addr → Nat → Nat → Option Addr → Option Addr → H → Prop} {Ke1 : Option Addr → Nat → Nat → Option Addr → H → Prop} {Ke0 Kr : Option Addr → Nat → Nat → H → Prop} (vc : NodeAt h ca c ah af) (hc : Few c.r) :
    ∀ (l : NL), LeftC h l → (∀ x ∈ l, Few x.2.r) → Ke2 ob on oc (some ca) (hd (l.dropWhile fun x => !suitsP x.2.r c.r)) h → Sx.stars_Match.n26_L Kn Ke2 Ke1 Ke0 Kr (l.length + 1) ob on oc (some ca) (hd l) h
  | [], _, _, hk => by
    unfold Sx.stars_Match.n26_L
    exact ptrNe_k undP (vBool_mk (condF hk))
  | (a, x) :: l, ⟨⟨xf, vx⟩, t⟩, hf, hk => by
    unfold Sx.stars_Match.n26_L
    refine ptrNe_k undP (vBool_mk (condT (suits_calls vx vc (hf (a, x) (by simp)) hc (vBool_mk (condB (fun e => ?_) fun e => ?_)))))
    · rw [List.dropWhile_cons, e] at hk; exact hk
    · rw [List.dropWhile_cons, e] at hk
      exact nd_lah vx (search vc hc l t (fun y hy => hf y (by simp [hy])) hk)
theorem hd_mem {l : NL} {p : Addr} (e : hd l = some p) : p.block ∈ blks l := by
  cases l with
  | nil => cases e
  | cons x l => cases e; simp
theorem hd_app (l : NL) : ∀ p, hd l = some p → ∃ x t, l = (p, x) :: t := fun p e => by
  cases l with
  | nil => cases e
  | cons x l => cases e; exact ⟨x.2, l, rfl⟩
theorem LeftC.opt {l : NL} (hL : LeftC h l) : ∃ xp ph pf, OptAt h (hd l) xp ph pf ∧ ∀ h', (∀ p, hd l = some p → ∃ pf', NodeAt h' p xp ph pf') → (∀ B : Nat → Prop, SK B h h' → (∀ k ∈ blks l.tail, B k) → LeftC h' l) := by
  cases l with
  | nil => exact ⟨nd0 r0, none, none, (fun _ e => by cases e), fun _ _ _ _ _ => trivial⟩
  | cons x l =>
    obtain ⟨a, x⟩ := x
    obtain ⟨⟨af, v⟩, t⟩ := hL
    exact ⟨x, hd l, af, (fun _ e => by cases e; exact v), fun h' hh B k hb => ⟨hh a rfl, t.keep k hb⟩⟩
theorem RightC.opt {l : NL} {p0 : Option Addr} (hR : RightC h p0 l) : ∃ xn nf, OptAt h (hd l) xn p0 nf ∧ ∀ h' p1, OptAt h' (hd l) xn p1 nf → (∀ B : Nat → Prop, SK B h h' → (∀ k ∈ blks l.tail, B k) → RightC h' p1 l) := by
  cases l with
  | nil => exact ⟨nd0 r0, none, (fun _ e => by cases e), fun _ _ _ _ _ _ => trivial⟩
  | cons x l =>
    obtain ⟨a, x⟩ := x
    obtain ⟨v, t⟩ := hR
    exact ⟨x, hd l, (fun _ e => by cases e; exact v), fun h' p1 hh B k hb => ⟨hh a rfl, t.keep k hb⟩⟩
theorem nd_split {left cs : NL} {ca : Addr} {c : Nd} (hnd : (blks (left ++ (ca, c) :: cs)).Nodup) : (blks left).Nodup ∧ (blks cs).Nodup ∧ ca.block ∉ blks left ∧ ca.block ∉ blks cs ∧ ∀ x ∈ blks left, x ∉ blks cs := by
  unfold blks at *
  rw [List.map_append, List.map_cons, List.nodup_append, List.nodup_cons] at hnd
  obtain ⟨h1, ⟨h2, h3⟩, h4⟩ := hnd
  exact ⟨h1, h3, fun hm => h4 _ hm _ (by simp) rfl, h2, fun x hx hy => h4 x hx x (by simp only [List.mem_cons]; exact .inr hy) rfl⟩
/-- one is cut out of the chain -/
theorem cutC {left cs : NL} {ca : Addr} {c : Nd} (hL : LeftC h left) (vc : NodeAt h ca c (hd left) (hd cs)) (hR : RightC h (some ca) cs) (hnd : (blks (left ++ (ca, c) :: cs)).Nodup)
    (hk : ∀ h', LeftC h' left → RightC h' (hd left) cs → SK (fun k => k ∉ blks left ∧ k ∉ blks cs) h h' → h'.size = h.size → K (.tuple ⟨[]⟩) h') : HCalls Tryd.prog 26 ⟨[.pointer (some ca)]⟩ h K := by
  obtain ⟨n1, n2, n3, n4, n5⟩ := nd_split hnd
  obtain ⟨xp, ph, pf, o1, f1⟩ := hL.opt
  obtain ⟨xn, nf, o2, f2⟩ := hR.opt
  refine cut_calls vc o1 o2 (fun p n e1 e2 e => n5 _ (hd_mem e1) (e ▸ hd_mem e2)) (fun p e1 e => n3 (e ▸ hd_mem e1)) (fun p e1 e => n4 (e ▸ hd_mem e1)) fun h' vc' o1' o2' k' z' => hk h' (f1 h' (fun p e => ⟨_, o1' p e⟩) _ k' fun k hk => ⟨fun p e he => ?_, fun n e he => ?_⟩) (f2 h' _ o2' _ k' fun k hk => ⟨fun p e he => ?_, fun n e he => ?_⟩) (k'.less fun k hk => ⟨fun p e he => hk.1 (he ▸ hd_mem e), fun n e he => hk.2 (he ▸ hd_mem e)⟩) z'
  · obtain ⟨x, t, rfl⟩ := hd_app _ _ e
    subst he
    exact (List.nodup_cons.1 (show (p.block :: blks t).Nodup from n1)).1 hk
  · obtain ⟨x, t, rfl⟩ : ∃ x t, left = x :: t := by
      cases left with
      | nil => cases hk
      | cons x t => exact ⟨x, t, rfl⟩
    subst he
    exact n5 n.block (by simp only [blks, List.map_cons, List.mem_cons]; exact .inr hk) (hd_mem e)
  · subst he
    obtain ⟨x, t, rfl⟩ : ∃ x t, cs = x :: t := by
      cases cs with
      | nil => cases hk
      | cons x t => exact ⟨x, t, rfl⟩
    exact n5 p.block (hd_mem e) (by simp only [blks, List.map_cons, List.mem_cons]; exact .inr hk)
  · obtain ⟨x, t, rfl⟩ := hd_app _ _ e
    subst he
    exact (List.nodup_cons.1 (show (n.block :: blks t).Nodup from n2)).1 hk
/-- the opener is used up: it is cut out, ahead of c -/
theorem cutO {rest : NL} {oa ca : Addr} {o c : Nd} {cf : Option Addr} (hL : LeftC h rest) (vo : NodeAt h oa o (hd rest) (some ca)) (vc : NodeAt h ca c (some oa) cf) (n1 : (blks rest).Nodup) (n2 : oa.block ∉ blks rest) (n3 : ca.block ∉ blks rest) (n4 : oa.block ≠ ca.block)
    (hk : ∀ h', LeftC h' rest → NodeAt h' ca c (hd rest) cf → SK (fun k => k ∉ blks rest ∧ k ≠ ca.block) h h' → h'.size = h.size → K (.tuple ⟨[]⟩) h') : HCalls Tryd.prog 26 ⟨[.pointer (some oa)]⟩ h K := by
  obtain ⟨xp, ph, pf, o1, f1⟩ := hL.opt
  refine cut_calls vo o1 (xn := c) (nh := some oa) (nf := cf) (fun _ e => by cases e; exact vc) (fun p n e1 e2 e => by cases e2; exact n3 (e ▸ hd_mem e1)) (fun p e1 e => n2 (e ▸ hd_mem e1)) (fun p e1 e => by cases e1; exact n4 e.symm) fun h' vo' o1' o2' k' z' => hk h' (f1 h' (fun p e => ⟨_, o1' p e⟩) _ k' fun k hk => ⟨fun p e he => ?_, fun n e he => ?_⟩) (o2' ca rfl) (k'.less fun k hk => ⟨fun p e he => hk.1 (he ▸ hd_mem e), fun n e he => by cases e; exact hk.2 he⟩) z'
  · obtain ⟨x, t, rfl⟩ := hd_app _ _ e
    subst he
    exact (List.nodup_cons.1 (show (p.block :: blks t).Nodup from n1)).1 hk
  · cases e
    subst he
    obtain ⟨x, t, rfl⟩ : ∃ x t, rest = x :: t := by
      cases rest with
      | nil => cases hk
      | cons x t => exact ⟨x, t, rfl⟩
    exact n3 (by simp only [blks, List.map_cons, List.mem_cons]; exact .inr hk)
end
end Go.Proofs
