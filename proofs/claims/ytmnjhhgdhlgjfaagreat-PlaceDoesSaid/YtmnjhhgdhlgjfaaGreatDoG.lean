/- dom: trees stay trees: Cut, Put. Plain but for the names. No condition. dom: a tree stays one behind Put. Plain. No condition. -/
import Derived.Test.YtmnjhhgdhlgjfaaGreatDoE
namespace Go.Proofs
open Go Go.Sh
set_option linter.unusedVariables false
theorem get_set2 {ns : List NodeM} {i p : Nat} {x y : NodeM} (hi : i < ns.length) (hp : p < ns.length) (j : Nat) : ((ns.set p y).set i x)[j]? = if j = i then some x else if j = p then some y else ns[j]? := by
  by_cases e : j = i
  · rw [if_pos e, e, List.getElem?_set_self (by rw [List.length_set]; exact hi)]
  · rw [if_neg e, List.getElem?_set_ne (fun h => e h.symm)]
    by_cases e2 : j = p
    · rw [if_pos e2, e2, List.getElem?_set_self hp]
    · rw [if_neg e2, List.getElem?_set_ne (fun h => e2 h.symm)]
theorem mem_erase_idx {l : List Int} (hn : l.Nodup) {i : Int} (hi : i ∈ l) (k : Int) : k ∈ l.eraseIdx (idxN i l) ↔ k ∈ l ∧ k ≠ i := by
  have hg := idxN_get hi
  have hlt := idxN_lt hi
  rw [List.mem_eraseIdx_iff_getElem?]
  constructor
  · rintro ⟨m, hm, hk⟩
    refine ⟨List.mem_of_getElem? hk, fun e => hm ?_⟩
    subst e
    have h1 := (List.getElem?_eq_some_iff.1 hk).1
    have h2 := (List.getElem?_eq_some_iff.1 hg)
    have h3 := (List.getElem?_eq_some_iff.1 hk)
    exact (List.getElem_inj hn).1 (h3.2.trans h2.2.symm)
  · rintro ⟨hk, hne⟩
    obtain ⟨m, hm, e⟩ := List.getElem_of_mem hk
    refine ⟨m, fun e2 => hne ?_, by rw [List.getElem?_eq_getElem hm, e]⟩
    subst e2
    rw [List.getElem?_eq_getElem hm, e] at hg
    exact Option.some.inj hg
theorem few_ints : ∀ (N : Nat) (l : List Int), l.Nodup → (∀ x ∈ l, 0 ≤ x ∧ x < (N : Int)) → l.length ≤ N
  | 0, l, hn, h => by
    cases l with
    | nil => exact Nat.le_refl _
    | cons x l => have := h x (List.mem_cons_self ..); omega
  | N + 1, l, hn, h => by
    by_cases hm : (N : Int) ∈ l
    · have h1 := few_ints N (l.erase (N : Int)) (hn.erase _) fun x hx => by
        have h2 := (List.Nodup.mem_erase_iff hn).1 hx
        have := h x h2.2
        have h3 := h2.1
        omega
      rw [List.length_erase_of_mem hm] at h1
      omega
    · have h1 := few_ints N l hn fun x hx => by
        have := h x hx
        have h3 : x ≠ (N : Int) := fun e => hm (e ▸ hx)
        omega
      omega
theorem GoodT.few {ns : List NodeM} (G : GoodT ns) {i : Nat} {x : NodeM} (hx : ns[i]? = some x) : x.kids.length ≤ ns.length :=
  few_ints _ _ (G.nodup i x hx) fun k hk => by
    obtain ⟨j, y, rfl, hy, _⟩ := (G.kid i x k hx).1 hk
    have := getI hy
    omega
theorem GoodT.cut {ns : List NodeM} (G : GoodT ns) {i p : Nat} {x y : NodeM} (hx : ns[i]? = some x) (hp : x.parent = (p : Int)) (hy : ns[p]? = some y) : GoodT (cutAt ns i x p y) := by
  have hi := getI hx
  have hpl := getI hy
  have hne := G.ne_par hx hp
  have hmem : (i : Int) ∈ y.kids := (G.kid p y _ hy).2 ⟨i, x, rfl, hx, hp⟩
  have gs := fun j => get_set2 (ns := ns) (x := { x with parent := -1 }) (y := { y with kids := y.kids.eraseIdx (idxN (i : Int) y.kids) }) hi hpl j
  have hlen : (cutAt ns i x p y).length = ns.length := by unfold cutAt; simp
  -- a node's parent
  have par' : ∀ (j : Nat) z, (cutAt ns i x p y)[j]? = some z → (j = i ∧ z.parent = -1) ∨ (j ≠ i ∧ ∃ w, ns[j]? = some w ∧ w.parent = z.parent) := by
    intro j z hz
    unfold cutAt at hz
    rw [gs] at hz
    by_cases e : j = i
    · rw [if_pos e] at hz; cases hz; exact .inl ⟨e, rfl⟩
    · rw [if_neg e] at hz
      by_cases e2 : j = p
      · rw [if_pos e2] at hz; cases hz; exact .inr ⟨e, y, e2 ▸ hy, rfl⟩
      · rw [if_neg e2] at hz; exact .inr ⟨e, z, hz, rfl⟩
  have ex' : ∀ (j : Nat) w, ns[j]? = some w → j ≠ i → ∃ z, (cutAt ns i x p y)[j]? = some z ∧ z.parent = w.parent := by
    intro j w hw e
    unfold cutAt
    rw [gs, if_neg e]
    by_cases e2 : j = p
    · rw [if_pos e2]
      rw [e2, hy] at hw; cases hw
      exact ⟨_, rfl, rfl⟩
    · rw [if_neg e2]; exact ⟨w, hw, rfl⟩
  refine ⟨fun j z hz => ?_, fun j z k hz => ?_, fun j z hz => ?_, ?_, ?_⟩
  · rw [hlen]
    rcases par' j z hz with ⟨_, h⟩ | ⟨_, w, hw, h⟩
    · exact .inl h
    · rw [← h]; exact G.par j w hw
  · have key : ∀ (K : List Int), (k ∈ K ↔ (∃ (m : Nat) (w : NodeM), k = (m : Int) ∧ ns[m]? = some w ∧ w.parent = (j : Int)) ∧ k ≠ (i : Int)) → (k ∈ K ↔ ∃ (m : Nat) (w : NodeM), k = (m : Int) ∧ (cutAt ns i x p y)[m]? = some w ∧ w.parent = (j : Int)) := by
      intro K hK
      rw [hK]
      constructor
      · rintro ⟨⟨m, w, rfl, hw, hp2⟩, hk⟩
        obtain ⟨z2, hz2, hpz⟩ := ex' m w hw (by omega)
        exact ⟨m, z2, rfl, hz2, hpz.trans hp2⟩
      · rintro ⟨m, w, rfl, hw, hp2⟩
        rcases par' m w hw with ⟨_, h⟩ | ⟨h1, w2, hw2, h⟩
        · rw [h] at hp2; omega
        · exact ⟨⟨m, w2, rfl, hw2, h.trans hp2⟩, by omega⟩
    refine key z.kids ?_
    unfold cutAt at hz
    rw [gs] at hz
    by_cases e : j = i
    · rw [if_pos e] at hz; cases hz
      rw [e]
      show k ∈ x.kids ↔ _
      rw [G.kid i x k hx]
      exact ⟨fun h => ⟨h, by
        obtain ⟨m, w, rfl, hw, hp2⟩ := h
        intro e2
        have : m = i := by omega
        subst this
        rw [hx] at hw; cases hw
        rw [hp] at hp2; omega⟩, fun h => h.1⟩
    · rw [if_neg e] at hz
      by_cases e2 : j = p
      · rw [if_pos e2] at hz; cases hz
        rw [e2]
        show k ∈ y.kids.eraseIdx _ ↔ _
        rw [mem_erase_idx (G.nodup p y hy) hmem, G.kid p y k hy]
      · rw [if_neg e2] at hz
        rw [G.kid j z k hz]
        exact ⟨fun h => ⟨h, by
          obtain ⟨m, w, rfl, hw, hp2⟩ := h
          intro e3
          have : m = i := by omega
          subst this
          rw [hx] at hw; cases hw
          rw [hp] at hp2; omega⟩, fun h => h.1⟩
  · unfold cutAt at hz
    rw [gs] at hz
    by_cases e : j = i
    · rw [if_pos e] at hz; cases hz; exact G.nodup i x hx
    · rw [if_neg e] at hz
      by_cases e2 : j = p
      · rw [if_pos e2] at hz; cases hz; exact (G.nodup p y hy).sublist (List.eraseIdx_sublist ..)
      · rw [if_neg e2] at hz; exact G.nodup j z hz
  · obtain ⟨rk, hr⟩ := G.rank
    refine ⟨rk, fun j q z hz hq => ?_⟩
    rcases par' j z hz with ⟨_, h⟩ | ⟨_, w, hw, h⟩
    · rw [h] at hq; omega
    · exact hr j q w hw (h.trans hq)
  · obtain ⟨r, hr, hp0⟩ := G.root
    by_cases e : 0 = i
    · exact ⟨{ x with parent := -1 }, by unfold cutAt; rw [gs, if_pos e], rfl⟩
    · obtain ⟨z, hz, hpz⟩ := ex' 0 r hr e
      exact ⟨z, hz, hpz.trans hp0⟩
theorem cutM_cases {ns : List NodeM} (G : GoodT ns) (id : Int) : cutM ns id = (ns, false) ∨ ∃ (i p : Nat) (x y : NodeM), id = (i : Int) ∧ ns[i]? = some x ∧ x.parent = (p : Int) ∧ ns[p]? = some y ∧ cutM ns id = (cutAt ns i x p y, true) := by
  unfold cutM
  by_cases h : 0 ≤ id ∧ id < ns.length
  · rw [if_pos h]
    obtain ⟨i, rfl⟩ := Int.eq_ofNat_of_zero_le h.1
    have hi : i < ns.length := by omega
    have hx : ns[(i : Int).toNat]? = some ns[i] := by rw [Int.toNat_natCast]; exact List.getElem?_eq_getElem hi
    rw [hx]
    have hx' : ns[i]? = some ns[i] := List.getElem?_eq_getElem hi
    show (if ns[i].parent < 0 then (ns, false) else _) = _ ∨ _
    rcases G.par i _ hx' with h1 | ⟨h1, h2⟩
    · left; rw [if_pos (by omega)]
    · right
      obtain ⟨p, hp⟩ := Int.eq_ofNat_of_zero_le h1
      have hp : ns[i].parent = (p : Int) := hp
      have hpl : p < ns.length := by omega
      refine ⟨i, p, ns[i], ns[p], rfl, hx', hp, List.getElem?_eq_getElem hpl, ?_⟩
      dsimp only
      rw [if_neg (by omega), hp, Int.toNat_natCast, List.getElem?_eq_getElem hpl]
      dsimp only
      rw [Int.toNat_natCast]
  · left; rw [if_neg h]
theorem GoodT.cutM {ns : List NodeM} (G : GoodT ns) (id : Int) : GoodT (Go.Proofs.cutM ns id).1 := by
  rcases cutM_cases G id with h | ⟨i, p, x, y, _, hx, hp, hy, h⟩
  · rw [h]; exact G
  · rw [h]; exact G.cut hx hp hy
theorem cutM_len (ns : List NodeM) (G : GoodT ns) (id : Int) : (cutM ns id).1.length = ns.length := by
  rcases cutM_cases G id with h | ⟨i, p, x, y, _, hx, hp, hy, h⟩
  · rw [h]
  · rw [h]; unfold cutAt; simp
/-- a node behind Cut -/
theorem cutM_get {ns : List NodeM} (G : GoodT ns) {id : Int} {j : Nat} {z : NodeM} (hz : ns[j]? = some z) :
    ∃ z', (cutM ns id).1[j]? = some z' ∧ z'.kind = z.kind ∧ z'.space = z.space ∧ z'.name = z.name ∧ z'.attrs = z.attrs ∧ z'.text = z.text ∧ (∀ k, k ∈ z'.kids ↔ k ∈ z.kids ∧ k ≠ id) ∧ ((j : Int) = id → z'.parent = -1) ∧ ((j : Int) ≠ id → z'.parent = z.parent) := by
  have G' := G.cutM id
  have kids' : ∀ z', (cutM ns id).1[j]? = some z' → (∀ k, k ∈ z'.kids ↔ k ∈ z.kids ∧ k ≠ id) ∧ ((j : Int) = id → z'.parent = -1) ∧ ((j : Int) ≠ id → z'.parent = z.parent) ∧ z'.kind = z.kind ∧ z'.space = z.space ∧ z'.name = z.name ∧ z'.attrs = z.attrs ∧ z'.text = z.text := by
    intro z' hz'
    have root_or : ∀ {x : NodeM} {i : Nat}, ns[i]? = some x → cutM ns (i : Int) = (ns, false) → x.parent = -1 := by
      intro x i hx h
      rcases G.par i x hx with h1 | ⟨h1, h2⟩
      · exact h1
      · exfalso
        obtain ⟨p, hp⟩ := Int.eq_ofNat_of_zero_le h1
        have hp : x.parent = (p : Int) := hp
        unfold Go.Proofs.cutM at h
        have hi := getI hx
        rw [if_pos (by omega), Int.toNat_natCast, hx] at h
        simp only at h
        rw [if_neg (by omega), hp, Int.toNat_natCast, List.getElem?_eq_getElem (show p < ns.length by omega)] at h
        have := congrArg Prod.snd h
        cases this
    rcases cutM_cases G id with h | ⟨i, p, x, y, rfl, hx, hp, hy, h⟩
    · rw [h] at hz'
      rw [hz] at hz'; cases hz'
      refine ⟨fun k => ⟨fun hk => ⟨hk, fun e => ?_⟩, fun hk => hk.1⟩, fun e => root_or hz (by rw [e]; exact h), fun _ => rfl, rfl, rfl, rfl, rfl, rfl⟩
      subst e
      obtain ⟨m, w, rfl, hw, hpw⟩ := (G.kid j z k hz).1 hk
      have := root_or hw h
      omega
    · rw [h] at hz'
      have hi := getI hx
      have hpl := getI hy
      have hne := G.ne_par hx hp
      have hmem : (i : Int) ∈ y.kids := (G.kid p y _ hy).2 ⟨i, x, rfl, hx, hp⟩
      have other : ∀ (m : Nat) w, ns[m]? = some w → m ≠ p → (i : Int) ∉ w.kids := fun m w hw hmp hk => by
        obtain ⟨m2, w2, e, hw2, hp2⟩ := (G.kid m w _ hw).1 hk
        have : m2 = i := by omega
        subst this
        rw [hx] at hw2; cases hw2
        rw [hp] at hp2; omega
      unfold cutAt at hz'
      rw [get_set2 hi hpl] at hz'
      by_cases e : j = i
      · rw [if_pos e] at hz'; cases hz'
        subst e
        rw [hx] at hz; cases hz
        exact ⟨fun k => ⟨fun hk => ⟨hk, fun e => by subst e; exact other j _ hx hne hk⟩, fun hk => hk.1⟩, fun _ => rfl, fun e => absurd rfl e, rfl, rfl, rfl, rfl, rfl⟩
      · rw [if_neg e] at hz'
        by_cases e2 : j = p
        · rw [if_pos e2] at hz'; cases hz'
          subst e2
          rw [hy] at hz; cases hz
          exact ⟨fun k => mem_erase_idx (G.nodup j _ hy) hmem k, fun e3 => by omega, fun _ => rfl, rfl, rfl, rfl, rfl, rfl⟩
        · rw [if_neg e2] at hz'
          rw [hz] at hz'; cases hz'
          exact ⟨fun k => ⟨fun hk => ⟨hk, fun e3 => by subst e3; exact other j z hz e2 hk⟩, fun hk => hk.1⟩, fun e3 => by omega, fun _ => rfl, rfl, rfl, rfl, rfl, rfl⟩
  have hlt : j < (cutM ns id).1.length := by rw [cutM_len ns G]; exact getI hz
  obtain ⟨h1, h2, h3, h4, h5, h6, h7, h8⟩ := kids' _ (List.getElem?_eq_getElem hlt)
  exact ⟨_, List.getElem?_eq_getElem hlt, h4, h5, h6, h7, h8, h1, h2, h3⟩
end Go.Proofs
namespace Go.Proofs
open Go Go.Sh
set_option linter.unusedVariables false
theorem parI_some {ns : List NodeM} {j : Nat} {z : NodeM} (h : ns[j]? = some z) : parI ns (j : Int) = z.parent := by unfold parI; rw [Int.toNat_natCast, h]; rfl
theorem inC_step {ns : List NodeM} {j : Nat} {of : Int} : InC ns (j : Int) of ↔ of = (j : Int) ∨ InC ns (parI ns j) of := by
  constructor
  · rintro ⟨f, hf⟩
    cases f with
    | zero => cases hf
    | succ f =>
      unfold chainP at hf
      rw [if_pos (by omega)] at hf
      rcases List.mem_cons.1 hf with h | h
      · exact .inl h
      · exact .inr ⟨f, h⟩
  · rintro (h | ⟨f, hf⟩)
    · exact ⟨1, by unfold chainP; rw [if_pos (by omega), h]; exact List.mem_cons_self ..⟩
    · exact ⟨f + 1, by unfold chainP; rw [if_pos (by omega)]; exact List.mem_cons_of_mem _ hf⟩
theorem inC_neg {ns : List NodeM} {i of : Int} (h : i < 0) : ¬ InC ns i of := fun ⟨f, hf⟩ => by rw [chain_neg h] at hf; cases hf
/-- the way up is the same, where only another node's parent is another -/
theorem inC_same {ns ns1 : List NodeM} {i : Int} (hp : ∀ j : Nat, (j : Int) ≠ i → parI ns1 j = parI ns j) (f : Nat) : ∀ j : Int, i ∈ chainP ns1 f j → i ∈ chainP ns f j := by
  induction f with
  | zero => intro j h; cases h
  | succ f ih =>
    intro j h
    unfold chainP at h ⊢
    split at h
    · rename_i h0
      rw [if_pos h0]
      rcases List.mem_cons.1 h with rfl | h
      · exact List.mem_cons_self ..
      · by_cases e : j = i
        · rw [e]; exact List.mem_cons_self ..
        · obtain ⟨k, rfl⟩ := Int.eq_ofNat_of_zero_le h0
          rw [hp k e] at h
          exact List.mem_cons_of_mem _ (ih _ h)
    · cases h
noncomputable def shiftR (ns : List NodeM) (i m : Nat) (rk : Nat → Nat) (j : Nat) : Nat := @ite _ (InC ns (j : Int) (i : Int)) (Classical.propDecidable _) (rk j + m) (rk j)
theorem shiftR_in {ns : List NodeM} {i m j : Nat} {rk : Nat → Nat} (h : InC ns (j : Int) (i : Int)) : shiftR ns i m rk j = rk j + m := by unfold shiftR; exact if_pos h
theorem shiftR_out {ns : List NodeM} {i m j : Nat} {rk : Nat → Nat} (h : ¬ InC ns (j : Int) (i : Int)) : shiftR ns i m rk j = rk j := by unfold shiftR; exact if_neg h
theorem GoodT.put {ns : List NodeM} (G : GoodT ns) {i p : Nat} {x y : NodeM} {K' : List Int} (hx : ns[i]? = some x) (hy : ns[p]? = some y) (hpx : x.parent = -1) (hne : i ≠ p) (h0 : i ≠ 0) (hno : ¬ InC ns (p : Int) (i : Int))
    (hnd : K'.Nodup) (hK : ∀ k, k ∈ K' ↔ k = (i : Int) ∨ k ∈ y.kids) : GoodT ((ns.set p { y with kids := K' }).set i { x with parent := (p : Int) }) := by
  have hi := getI hx
  have hpl := getI hy
  have gs := fun j => get_set2 (ns := ns) (x := { x with parent := (p : Int) }) (y := { y with kids := K' }) hi hpl j
  have par' : ∀ (j : Nat) z, ((ns.set p { y with kids := K' }).set i { x with parent := (p : Int) })[j]? = some z → (j = i ∧ z.parent = (p : Int)) ∨ (j ≠ i ∧ ∃ w, ns[j]? = some w ∧ w.parent = z.parent) := by
    intro j z hz
    rw [gs] at hz
    by_cases e : j = i
    · rw [if_pos e] at hz; cases hz; exact .inl ⟨e, rfl⟩
    · rw [if_neg e] at hz
      by_cases e2 : j = p
      · rw [if_pos e2] at hz; cases hz; exact .inr ⟨e, y, e2 ▸ hy, rfl⟩
      · rw [if_neg e2] at hz; exact .inr ⟨e, z, hz, rfl⟩
  have ex' : ∀ (j : Nat) w, ns[j]? = some w → j ≠ i → ∃ z, ((ns.set p { y with kids := K' }).set i { x with parent := (p : Int) })[j]? = some z ∧ z.parent = w.parent := by
    intro j w hw e
    rw [gs, if_neg e]
    by_cases e2 : j = p
    · rw [if_pos e2]
      rw [e2, hy] at hw; cases hw
      exact ⟨_, rfl, rfl⟩
    · rw [if_neg e2]; exact ⟨w, hw, rfl⟩
  have exi : ∃ z, ((ns.set p { y with kids := K' }).set i { x with parent := (p : Int) })[i]? = some z ∧ z.parent = (p : Int) := ⟨_, by rw [gs, if_pos rfl], rfl⟩
  have noti : ∀ (j : Nat) w, ns[j]? = some w → (i : Int) ∉ w.kids := fun j w hw hm => by
    obtain ⟨m, v, e, hv, hq⟩ := (G.kid j w _ hw).1 hm
    have : m = i := by omega
    subst this
    rw [hx] at hv; cases hv
    omega
  have keyN : ∀ (j : Nat) (k : Int), j ≠ p → ((∃ (m : Nat) (w : NodeM), k = (m : Int) ∧ ns[m]? = some w ∧ w.parent = (j : Int)) ↔ ∃ (m : Nat) (w : NodeM), k = (m : Int) ∧ ((ns.set p { y with kids := K' }).set i { x with parent := (p : Int) })[m]? = some w ∧ w.parent = (j : Int)) := by
    intro j k hj
    constructor
    · rintro ⟨m, w, rfl, hw, hq⟩
      have hmi : m ≠ i := fun e => by subst e; rw [hx] at hw; cases hw; omega
      obtain ⟨z, hz, hzp⟩ := ex' m w hw hmi
      exact ⟨m, z, rfl, hz, hzp.trans hq⟩
    · rintro ⟨m, w, rfl, hw, hq⟩
      rcases par' m w hw with ⟨_, h⟩ | ⟨_, v, hv, h⟩
      · rw [h] at hq; omega
      · exact ⟨m, v, rfl, hv, h.trans hq⟩
  refine ⟨fun j z hz => ?_, fun j z k hz => ?_, fun j z hz => ?_, ?_, ?_⟩
  · rw [List.length_set, List.length_set]
    rcases par' j z hz with ⟨_, h⟩ | ⟨_, w, hw, h⟩
    · right; omega
    · rw [← h]; exact G.par j w hw
  · rw [gs] at hz
    by_cases e : j = i
    · rw [if_pos e] at hz; cases hz
      rw [e]
      show k ∈ x.kids ↔ _
      rw [G.kid i x k hx]
      exact keyN i k hne
    · rw [if_neg e] at hz
      by_cases e2 : j = p
      · rw [if_pos e2] at hz; cases hz
        rw [e2]
        show k ∈ K' ↔ _
        rw [hK, G.kid p y k hy]
        constructor
        · rintro (rfl | ⟨m, w, rfl, hw, hq⟩)
          · obtain ⟨z, hz, hzp⟩ := exi
            exact ⟨i, z, rfl, hz, hzp⟩
          · have hmi : m ≠ i := fun e => by subst e; rw [hx] at hw; cases hw; omega
            obtain ⟨z, hz, hzp⟩ := ex' m w hw hmi
            exact ⟨m, z, rfl, hz, hzp.trans hq⟩
        · rintro ⟨m, w, rfl, hw, hq⟩
          rcases par' m w hw with ⟨h, _⟩ | ⟨_, v, hv, h⟩
          · exact .inl (by rw [h])
          · exact .inr ⟨m, v, rfl, hv, h.trans hq⟩
      · rw [if_neg e2] at hz
        rw [G.kid j z k hz]
        exact keyN j k e2
  · rw [gs] at hz
    by_cases e : j = i
    · rw [if_pos e] at hz; cases hz; exact G.nodup i x hx
    · rw [if_neg e] at hz
      by_cases e2 : j = p
      · rw [if_pos e2] at hz; cases hz; exact hnd
      · rw [if_neg e2] at hz; exact G.nodup j z hz
  · obtain ⟨rk, hr⟩ := G.rank
    refine ⟨shiftR ns i (rk p + 1) rk, fun j q z hz hq => ?_⟩
    rcases par' j z hz with ⟨h, h2⟩ | ⟨hji, w, hw, h⟩
    · have e1 : q = p := by omega
      rw [e1, h, shiftR_out hno, shiftR_in (inC_step.2 (.inl rfl))]
      omega
    · have hwq : w.parent = (q : Int) := h.trans hq
      have hlt := hr j q w hw hwq
      have hiff : InC ns (j : Int) (i : Int) ↔ InC ns (q : Int) (i : Int) := by
        rw [inC_step (j := j), parI_some hw, hwq]
        exact ⟨fun h => h.resolve_left (by omega), .inr⟩
      by_cases hc : InC ns (q : Int) (i : Int)
      · rw [shiftR_in hc, shiftR_in (hiff.2 hc)]; omega
      · rw [shiftR_out hc, shiftR_out (fun h => hc (hiff.1 h))]; exact hlt
  · obtain ⟨r, hr, hp0⟩ := G.root
    obtain ⟨z, hz, hpz⟩ := ex' 0 r hr (Ne.symm h0)
    exact ⟨z, hz, hpz.trans hp0⟩
theorem ins_mem {l : List Int} {k : Nat} {i x : Int} : x ∈ l.take k ++ i :: l.drop k ↔ x = i ∨ x ∈ l := by
  have hp : (l.take k ++ i :: l.drop k).Perm (i :: l) := by
    refine List.perm_middle.trans ?_
    rw [List.take_append_drop]
  rw [hp.mem_iff, List.mem_cons]
theorem ins_nodup {l : List Int} {k : Nat} {i : Int} (hn : l.Nodup) (hi : i ∉ l) : (l.take k ++ i :: l.drop k).Nodup := by
  have hp : (l.take k ++ i :: l.drop k).Perm (i :: l) := by
    refine List.perm_middle.trans ?_
    rw [List.take_append_drop]
  exact hp.nodup_iff.2 (List.nodup_cons.2 ⟨hi, hn⟩)
end Go.Proofs
