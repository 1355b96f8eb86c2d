import Derived.Test.YtijoifkjeamonaaGreatDoE
import Derived.Test.YtijoifkjeamonaaGreatShD
import Derived.Lib.IndexMore
import Derived.Lib.IndexLaws
namespace Go.Proofs
open Go Go.Sh
set_option linter.unusedVariables false
theorem get_set2 {ns : List NodeM} {i p : Nat} {x y : NodeM} (hi : i < ns.length) (hp : p < ns.length) (j : Nat) : ((ns.set p y).set i x)[j]? = if j = i then some x else if j = p then some y else ns[j]? := by
  by_cases e : j = i
  · rw [if_pos e, e, List.getElem?_set_self (by rw [List.length_set]; exact hi)]
  · rw [if_neg e, List.getElem?_set_ne (fun h => e h.symm)]
    by_cases e2 : j = p
    · rw [if_pos e2, e2, List.getElem?_set_self hp]
    · rw [if_neg e2, List.getElem?_set_ne (fun h => e2 h.symm)]
theorem mem_erase_idx {l : List Int} (hn : l.Nodup) {i : Int} (hi : i ∈ l) (k : Int) : k ∈ l.eraseIdx (idxN i l) ↔ k ∈ l /\ k ≠ i := by
  have hg := idxN_get hi
  have hlt := idxN_lt hi
  rw [List.mem_eraseIdx_iff_getElem?]
  constructor
  · rintro ⟨m, hm, hk⟩
    refine ⟨List.mem_of_getElem? hk, fun e => hm ?_⟩
    subst e
    have h1 := (List.getElem?_eq_some_iff.1 hk).1
    have h2 := (List.getElem?_eq_some_iff.1 hg)
    have h3 := (List.getElem?_eq_some_iff.1 hk)
    exact (List.getElem_inj hn).1 (h3.2.trans h2.2.symm)
  · rintro ⟨hk, hne⟩
    obtain ⟨m, hm, e⟩ := List.getElem_of_mem hk
    refine ⟨m, fun e2 => hne ?_, by rw [List.getElem?_eq_getElem hm, e]⟩
    subst e2
    rw [List.getElem?_eq_getElem hm, e] at hg
    exact Option.some.inj hg
theorem few_ints : ∀ (N : Nat) (l : List Int), l.Nodup -> (∀ x ∈ l, 0 <= x /\ x < (N : Int)) -> l.length <= N
  | 0, l, hn, h => by
    cases l with
    | nil => exact Nat.le_refl _
    | cons x l => have := h x (List.mem_cons_self ..); omega
  | N + 1, l, hn, h => by
    by_cases hm : (N : Int) ∈ l
    · have h1 := few_ints N (l.erase (N : Int)) (hn.erase _) fun x hx => by
        have h2 := (List.Nodup.mem_erase_iff hn).1 hx
        have := h x h2.2
        have h3 := h2.1
        omega
      rw [List.length_erase_of_mem hm] at h1
      omega
    · have h1 := few_ints N l hn fun x hx => by
        have := h x hx
        have h3 : x ≠ (N : Int) := fun e => hm (e ▸ hx)
        omega
      omega
theorem GoodT.few {ns : List NodeM} (G : GoodT ns) {i : Nat} {x : NodeM} (hx : ns[i]? = some x) : x.kids.length <= ns.length :=
  few_ints _ _ (G.nodup i x hx) fun k hk => by
    obtain ⟨j, y, rfl, hy, _⟩ := (G.kid i x k hx).1 hk
    have := getI hy
    omega
theorem GoodT.cut {ns : List NodeM} (G : GoodT ns) {i p : Nat} {x y : NodeM} (hx : ns[i]? = some x) (hp : x.parent = (p : Int)) (hy : ns[p]? = some y) : GoodT (cutAt ns i x p y) := by
  have hi := getI hx
  have hpl := getI hy
  have hne := G.ne_par hx hp
  have hmem : (i : Int) ∈ y.kids := (G.kid p y _ hy).2 ⟨i, x, rfl, hx, hp⟩
  have gs := fun j => get_set2 (ns := ns) (x := { x with parent := -1 }) (y := { y with kids := y.kids.eraseIdx (idxN (i : Int) y.kids) }) hi hpl j
  have hlen : (cutAt ns i x p y).length = ns.length := by unfold cutAt; simp
  have par' : ∀ (j : Nat) z, (cutAt ns i x p y)[j]? = some z -> (j = i /\ z.parent = -1) ∨ (j ≠ i /\ ∃ w, ns[j]? = some w /\ w.parent = z.parent) := by
    intro j z hz
    unfold cutAt at hz
    rw [gs] at hz
    by_cases e : j = i
    · rw [if_pos e] at hz; cases hz; exact .inl ⟨e, rfl⟩
    · rw [if_neg e] at hz
      by_cases e2 : j = p
      · rw [if_pos e2] at hz; cases hz; exact .inr ⟨e, y, e2 ▸ hy, rfl⟩
      · rw [if_neg e2] at hz; exact .inr ⟨e, z, hz, rfl⟩
  have ex' : ∀ (j : Nat) w, ns[j]? = some w -> j ≠ i -> ∃ z, (cutAt ns i x p y)[j]? = some z /\ z.parent = w.parent := by
    intro j w hw e
    unfold cutAt
    rw [gs, if_neg e]
    by_cases e2 : j = p
    · rw [if_pos e2]
      rw [e2, hy] at hw; cases hw
      exact ⟨_, rfl, rfl⟩
    · rw [if_neg e2]; exact ⟨w, hw, rfl⟩
  refine ⟨fun j z hz => ?_, fun j z k hz => ?_, fun j z hz => ?_, ?_, ?_⟩
  · rw [hlen]
    rcases par' j z hz with ⟨_, h⟩ | ⟨_, w, hw, h⟩
    · exact .inl h
    · rw [<- h]; exact G.par j w hw
  · have key : ∀ (K : List Int), (k ∈ K ↔ (∃ (m : Nat) (w : NodeM), k = (m : Int) /\ ns[m]? = some w /\ w.parent = (j : Int)) /\ k ≠ (i : Int)) -> (k ∈ K ↔ ∃ (m : Nat) (w : NodeM), k = (m : Int) /\ (cutAt ns i x p y)[m]? = some w /\ w.parent = (j : Int)) := by
      intro K hK
      rw [hK]
      constructor
      · rintro ⟨⟨m, w, rfl, hw, hp2⟩, hk⟩
        obtain ⟨z2, hz2, hpz⟩ := ex' m w hw (by omega)
        exact ⟨m, z2, rfl, hz2, hpz.trans hp2⟩
      · rintro ⟨m, w, rfl, hw, hp2⟩
        rcases par' m w hw with ⟨_, h⟩ | ⟨h1, w2, hw2, h⟩
        · rw [h] at hp2; omega
        · exact ⟨⟨m, w2, rfl, hw2, h.trans hp2⟩, by omega⟩
    refine key z.kids ?_
    unfold cutAt at hz
    rw [gs] at hz
    by_cases e : j = i
    · rw [if_pos e] at hz; cases hz
      rw [e]
      show k ∈ x.kids ↔ _
      rw [G.kid i x k hx]
      exact ⟨fun h => ⟨h, by
        obtain ⟨m, w, rfl, hw, hp2⟩ := h
        intro e2
        have : m = i := by omega
        subst this
        rw [hx] at hw; cases hw
        rw [hp] at hp2; omega⟩, fun h => h.1⟩
    · rw [if_neg e] at hz
      by_cases e2 : j = p
      · rw [if_pos e2] at hz; cases hz
        rw [e2]
        show k ∈ y.kids.eraseIdx _ ↔ _
        rw [mem_erase_idx (G.nodup p y hy) hmem, G.kid p y k hy]
      · rw [if_neg e2] at hz
        rw [G.kid j z k hz]
        exact ⟨fun h => ⟨h, by
          obtain ⟨m, w, rfl, hw, hp2⟩ := h
          intro e3
          have : m = i := by omega
          subst this
          rw [hx] at hw; cases hw
          rw [hp] at hp2; omega⟩, fun h => h.1⟩
  · unfold cutAt at hz
    rw [gs] at hz
    by_cases e : j = i
    · rw [if_pos e] at hz; cases hz; exact G.nodup i x hx
    · rw [if_neg e] at hz
      by_cases e2 : j = p
      · rw [if_pos e2] at hz; cases hz; exact (G.nodup p y hy).sublist (List.eraseIdx_sublist ..)
      · rw [if_neg e2] at hz; exact G.nodup j z hz
  · obtain ⟨rk, hr⟩ := G.rank
    refine ⟨rk, fun j q z hz hq => ?_⟩
    rcases par' j z hz with ⟨_, h⟩ | ⟨_, w, hw, h⟩
    · rw [h] at hq; omega
    · exact hr j q w hw (h.trans hq)
  · obtain ⟨r, hr, hp0⟩ := G.root
    by_cases e : 0 = i
    · exact ⟨{ x with parent := -1 }, by unfold cutAt; rw [gs, if_pos e], rfl⟩
    · obtain ⟨z, hz, hpz⟩ := ex' 0 r hr e
      exact ⟨z, hz, hpz.trans hp0⟩
theorem cutM_cases {ns : List NodeM} (G : GoodT ns) (id : Int) : cutM ns id = (ns, false) ∨ ∃ (i p : Nat) (x y : NodeM), id = (i : Int) /\ ns[i]? = some x /\ x.parent = (p : Int) /\ ns[p]? = some y /\ cutM ns id = (cutAt ns i x p y, true) := by
  unfold cutM
  by_cases h : 0 <= id /\ id < ns.length
  · rw [if_pos h]
    obtain ⟨i, rfl⟩ := Int.eq_ofNat_of_zero_le h.1
    have hi : i < ns.length := by omega
    have hx : ns[(i : Int).toNat]? = some ns[i] := by rw [Int.toNat_natCast]; exact List.getElem?_eq_getElem hi
    rw [hx]
    have hx' : ns[i]? = some ns[i] := List.getElem?_eq_getElem hi
    show (if ns[i].parent < 0 then (ns, false) else _) = _ ∨ _
    rcases G.par i _ hx' with h1 | ⟨h1, h2⟩
    · left; rw [if_pos (by omega)]
    · right
      obtain ⟨p, hp⟩ := Int.eq_ofNat_of_zero_le h1
      have hp : ns[i].parent = (p : Int) := hp
      have hpl : p < ns.length := by omega
      refine ⟨i, p, ns[i], ns[p], rfl, hx', hp, List.getElem?_eq_getElem hpl, ?_⟩
      dsimp only
      rw [if_neg (by omega), hp, Int.toNat_natCast, List.getElem?_eq_getElem hpl]
      dsimp only
      rw [Int.toNat_natCast]
  · left; rw [if_neg h]
theorem GoodT.cutM {ns : List NodeM} (G : GoodT ns) (id : Int) : GoodT (Go.Proofs.cutM ns id).1 := by
  rcases cutM_cases G id with h | ⟨i, p, x, y, _, hx, hp, hy, h⟩
  · rw [h]; exact G
  · rw [h]; exact G.cut hx hp hy
theorem cutM_len (ns : List NodeM) (G : GoodT ns) (id : Int) : (cutM ns id).1.length = ns.length := by
  rcases cutM_cases G id with h | ⟨i, p, x, y, _, hx, hp, hy, h⟩
  · rw [h]
  · rw [h]; unfold cutAt; simp
theorem cutM_get {ns : List NodeM} (G : GoodT ns) {id : Int} {j : Nat} {z : NodeM} (hz : ns[j]? = some z) :
    ∃ z', (cutM ns id).1[j]? = some z' /\ z'.kind = z.kind /\ z'.space = z.space /\ z'.name = z.name /\ z'.attrs = z.attrs /\ z'.text = z.text /\ (∀ k, k ∈ z'.kids ↔ k ∈ z.kids /\ k ≠ id) /\ ((j : Int) = id -> z'.parent = -1) /\ ((j : Int) ≠ id -> z'.parent = z.parent) := by
  have G' := G.cutM id
  have kids' : ∀ z', (cutM ns id).1[j]? = some z' -> (∀ k, k ∈ z'.kids ↔ k ∈ z.kids /\ k ≠ id) /\ ((j : Int) = id -> z'.parent = -1) /\ ((j : Int) ≠ id -> z'.parent = z.parent) /\ z'.kind = z.kind /\ z'.space = z.space /\ z'.name = z.name /\ z'.attrs = z.attrs /\ z'.text = z.text := by
    intro z' hz'
    have root_or : ∀ {x : NodeM} {i : Nat}, ns[i]? = some x -> cutM ns (i : Int) = (ns, false) -> x.parent = -1 := by
      intro x i hx h
      rcases G.par i x hx with h1 | ⟨h1, h2⟩
      · exact h1
      · exfalso
        obtain ⟨p, hp⟩ := Int.eq_ofNat_of_zero_le h1
        have hp : x.parent = (p : Int) := hp
        unfold Go.Proofs.cutM at h
        have hi := getI hx
        rw [if_pos (by omega), Int.toNat_natCast, hx] at h
        simp only at h
        rw [if_neg (by omega), hp, Int.toNat_natCast, List.getElem?_eq_getElem (show p < ns.length by omega)] at h
        have := congrArg Prod.snd h
        cases this
    rcases cutM_cases G id with h | ⟨i, p, x, y, rfl, hx, hp, hy, h⟩
    · rw [h] at hz'
      rw [hz] at hz'; cases hz'
      refine ⟨fun k => ⟨fun hk => ⟨hk, fun e => ?_⟩, fun hk => hk.1⟩, fun e => root_or hz (by rw [e]; exact h), fun _ => rfl, rfl, rfl, rfl, rfl, rfl⟩
      subst e
      obtain ⟨m, w, rfl, hw, hpw⟩ := (G.kid j z k hz).1 hk
      have := root_or hw h
      omega
    · rw [h] at hz'
      have hi := getI hx
      have hpl := getI hy
      have hne := G.ne_par hx hp
      have hmem : (i : Int) ∈ y.kids := (G.kid p y _ hy).2 ⟨i, x, rfl, hx, hp⟩
      have other : ∀ (m : Nat) w, ns[m]? = some w -> m ≠ p -> (i : Int) ∉ w.kids := fun m w hw hmp hk => by
        obtain ⟨m2, w2, e, hw2, hp2⟩ := (G.kid m w _ hw).1 hk
        have : m2 = i := by omega
        subst this
        rw [hx] at hw2; cases hw2
        rw [hp] at hp2; omega
      unfold cutAt at hz'
      rw [get_set2 hi hpl] at hz'
      by_cases e : j = i
      · rw [if_pos e] at hz'; cases hz'
        subst e
        rw [hx] at hz; cases hz
        exact ⟨fun k => ⟨fun hk => ⟨hk, fun e => by subst e; exact other j _ hx hne hk⟩, fun hk => hk.1⟩, fun _ => rfl, fun e => absurd rfl e, rfl, rfl, rfl, rfl, rfl⟩
      · rw [if_neg e] at hz'
        by_cases e2 : j = p
        · rw [if_pos e2] at hz'; cases hz'
          subst e2
          rw [hy] at hz; cases hz
          exact ⟨fun k => mem_erase_idx (G.nodup j _ hy) hmem k, fun e3 => by omega, fun _ => rfl, rfl, rfl, rfl, rfl, rfl⟩
        · rw [if_neg e2] at hz'
          rw [hz] at hz'; cases hz'
          exact ⟨fun k => ⟨fun hk => ⟨hk, fun e3 => by subst e3; exact other j z hz e2 hk⟩, fun hk => hk.1⟩, fun e3 => by omega, fun _ => rfl, rfl, rfl, rfl, rfl, rfl⟩
  have hlt : j < (cutM ns id).1.length := by rw [cutM_len ns G]; exact getI hz
  obtain ⟨h1, h2, h3, h4, h5, h6, h7, h8⟩ := kids' _ (List.getElem?_eq_getElem hlt)
  exact ⟨_, List.getElem?_eq_getElem hlt, h4, h5, h6, h7, h8, h1, h2, h3⟩
end Go.Proofs
namespace Go.Proofs
open Go Go.Sh
set_option linter.unusedVariables false
theorem parI_some {ns : List NodeM} {j : Nat} {z : NodeM} (h : ns[j]? = some z) : parI ns (j : Int) = z.parent := by unfold parI; rw [Int.toNat_natCast, h]; rfl
theorem inC_step {ns : List NodeM} {j : Nat} {of : Int} : InC ns (j : Int) of ↔ of = (j : Int) ∨ InC ns (parI ns j) of := by
  constructor
  · rintro ⟨f, hf⟩
    cases f with
    | zero => cases hf
    | succ f =>
      unfold chainP at hf
      rw [if_pos (by omega)] at hf
      rcases List.mem_cons.1 hf with h | h
      · exact .inl h
      · exact .inr ⟨f, h⟩
  · rintro (h | ⟨f, hf⟩)
    · exact ⟨1, by unfold chainP; rw [if_pos (by omega), h]; exact List.mem_cons_self ..⟩
    · exact ⟨f + 1, by unfold chainP; rw [if_pos (by omega)]; exact List.mem_cons_of_mem _ hf⟩
theorem inC_neg {ns : List NodeM} {i of : Int} (h : i < 0) : ¬ InC ns i of := fun ⟨f, hf⟩ => by rw [chain_neg h] at hf; cases hf
theorem inC_same {ns ns1 : List NodeM} {i : Int} (hp : ∀ j : Nat, (j : Int) ≠ i -> parI ns1 j = parI ns j) (f : Nat) : ∀ j : Int, i ∈ chainP ns1 f j -> i ∈ chainP ns f j := by
  induction f with
  | zero => intro j h; cases h
  | succ f ih =>
    intro j h
    unfold chainP at h ⊢
    split at h
    · rename_i h0
      rw [if_pos h0]
      rcases List.mem_cons.1 h with rfl | h
      · exact List.mem_cons_self ..
      · by_cases e : j = i
        · rw [e]; exact List.mem_cons_self ..
        · obtain ⟨k, rfl⟩ := Int.eq_ofNat_of_zero_le h0
          rw [hp k e] at h
          exact List.mem_cons_of_mem _ (ih _ h)
    · cases h
noncomputable def shiftR (ns : List NodeM) (i m : Nat) (rk : Nat -> Nat) (j : Nat) : Nat := @ite _ (InC ns (j : Int) (i : Int)) (Classical.propDecidable _) (rk j + m) (rk j)
theorem shiftR_in {ns : List NodeM} {i m j : Nat} {rk : Nat -> Nat} (h : InC ns (j : Int) (i : Int)) : shiftR ns i m rk j = rk j + m := by unfold shiftR; exact if_pos h
theorem shiftR_out {ns : List NodeM} {i m j : Nat} {rk : Nat -> Nat} (h : ¬ InC ns (j : Int) (i : Int)) : shiftR ns i m rk j = rk j := by unfold shiftR; exact if_neg h
theorem GoodT.put {ns : List NodeM} (G : GoodT ns) {i p : Nat} {x y : NodeM} {K' : List Int} (hx : ns[i]? = some x) (hy : ns[p]? = some y) (hpx : x.parent = -1) (hne : i ≠ p) (h0 : i ≠ 0) (hno : ¬ InC ns (p : Int) (i : Int))
    (hnd : K'.Nodup) (hK : ∀ k, k ∈ K' ↔ k = (i : Int) ∨ k ∈ y.kids) : GoodT ((ns.set p { y with kids := K' }).set i { x with parent := (p : Int) }) := by
  have hi := getI hx
  have hpl := getI hy
  have gs := fun j => get_set2 (ns := ns) (x := { x with parent := (p : Int) }) (y := { y with kids := K' }) hi hpl j
  have par' : ∀ (j : Nat) z, ((ns.set p { y with kids := K' }).set i { x with parent := (p : Int) })[j]? = some z -> (j = i /\ z.parent = (p : Int)) ∨ (j ≠ i /\ ∃ w, ns[j]? = some w /\ w.parent = z.parent) := by
    intro j z hz
    rw [gs] at hz
    by_cases e : j = i
    · rw [if_pos e] at hz; cases hz; exact .inl ⟨e, rfl⟩
    · rw [if_neg e] at hz
      by_cases e2 : j = p
      · rw [if_pos e2] at hz; cases hz; exact .inr ⟨e, y, e2 ▸ hy, rfl⟩
      · rw [if_neg e2] at hz; exact .inr ⟨e, z, hz, rfl⟩
  have ex' : ∀ (j : Nat) w, ns[j]? = some w -> j ≠ i -> ∃ z, ((ns.set p { y with kids := K' }).set i { x with parent := (p : Int) })[j]? = some z /\ z.parent = w.parent := by
    intro j w hw e
    rw [gs, if_neg e]
    by_cases e2 : j = p
    · rw [if_pos e2]
      rw [e2, hy] at hw; cases hw
      exact ⟨_, rfl, rfl⟩
    · rw [if_neg e2]; exact ⟨w, hw, rfl⟩
  have exi : ∃ z, ((ns.set p { y with kids := K' }).set i { x with parent := (p : Int) })[i]? = some z /\ z.parent = (p : Int) := ⟨_, by rw [gs, if_pos rfl], rfl⟩
  have noti : ∀ (j : Nat) w, ns[j]? = some w -> (i : Int) ∉ w.kids := fun j w hw hm => by
    obtain ⟨m, v, e, hv, hq⟩ := (G.kid j w _ hw).1 hm
    have : m = i := by omega
    subst this
    rw [hx] at hv; cases hv
    omega
  have keyN : ∀ (j : Nat) (k : Int), j ≠ p -> ((∃ (m : Nat) (w : NodeM), k = (m : Int) /\ ns[m]? = some w /\ w.parent = (j : Int)) ↔ ∃ (m : Nat) (w : NodeM), k = (m : Int) /\ ((ns.set p { y with kids := K' }).set i { x with parent := (p : Int) })[m]? = some w /\ w.parent = (j : Int)) := by
    intro j k hj
    constructor
    · rintro ⟨m, w, rfl, hw, hq⟩
      have hmi : m ≠ i := fun e => by subst e; rw [hx] at hw; cases hw; omega
      obtain ⟨z, hz, hzp⟩ := ex' m w hw hmi
      exact ⟨m, z, rfl, hz, hzp.trans hq⟩
    · rintro ⟨m, w, rfl, hw, hq⟩
      rcases par' m w hw with ⟨_, h⟩ | ⟨_, v, hv, h⟩
      · rw [h] at hq; omega
      · exact ⟨m, v, rfl, hv, h.trans hq⟩
  refine ⟨fun j z hz => ?_, fun j z k hz => ?_, fun j z hz => ?_, ?_, ?_⟩
  · rw [List.length_set, List.length_set]
    rcases par' j z hz with ⟨_, h⟩ | ⟨_, w, hw, h⟩
    · right; omega
    · rw [<- h]; exact G.par j w hw
  · rw [gs] at hz
    by_cases e : j = i
    · rw [if_pos e] at hz; cases hz
      rw [e]
      show k ∈ x.kids ↔ _
      rw [G.kid i x k hx]
      exact keyN i k hne
    · rw [if_neg e] at hz
      by_cases e2 : j = p
      · rw [if_pos e2] at hz; cases hz
        rw [e2]
        show k ∈ K' ↔ _
        rw [hK, G.kid p y k hy]
        constructor
        · rintro (rfl | ⟨m, w, rfl, hw, hq⟩)
          · obtain ⟨z, hz, hzp⟩ := exi
            exact ⟨i, z, rfl, hz, hzp⟩
          · have hmi : m ≠ i := fun e => by subst e; rw [hx] at hw; cases hw; omega
            obtain ⟨z, hz, hzp⟩ := ex' m w hw hmi
            exact ⟨m, z, rfl, hz, hzp.trans hq⟩
        · rintro ⟨m, w, rfl, hw, hq⟩
          rcases par' m w hw with ⟨h, _⟩ | ⟨_, v, hv, h⟩
          · exact .inl (by rw [h])
          · exact .inr ⟨m, v, rfl, hv, h.trans hq⟩
      · rw [if_neg e2] at hz
        rw [G.kid j z k hz]
        exact keyN j k e2
  · rw [gs] at hz
    by_cases e : j = i
    · rw [if_pos e] at hz; cases hz; exact G.nodup i x hx
    · rw [if_neg e] at hz
      by_cases e2 : j = p
      · rw [if_pos e2] at hz; cases hz; exact hnd
      · rw [if_neg e2] at hz; exact G.nodup j z hz
  · obtain ⟨rk, hr⟩ := G.rank
    refine ⟨shiftR ns i (rk p + 1) rk, fun j q z hz hq => ?_⟩
    rcases par' j z hz with ⟨h, h2⟩ | ⟨hji, w, hw, h⟩
    · have e1 : q = p := by omega
      rw [e1, h, shiftR_out hno, shiftR_in (inC_step.2 (.inl rfl))]
      omega
    · have hwq : w.parent = (q : Int) := h.trans hq
      have hlt := hr j q w hw hwq
      have hiff : InC ns (j : Int) (i : Int) ↔ InC ns (q : Int) (i : Int) := by
        rw [inC_step (j := j), parI_some hw, hwq]
        exact ⟨fun h => h.resolve_left (by omega), .inr⟩
      by_cases hc : InC ns (q : Int) (i : Int)
      · rw [shiftR_in hc, shiftR_in (hiff.2 hc)]; omega
      · rw [shiftR_out hc, shiftR_out (fun h => hc (hiff.1 h))]; exact hlt
  · obtain ⟨r, hr, hp0⟩ := G.root
    obtain ⟨z, hz, hpz⟩ := ex' 0 r hr (Ne.symm h0)
    exact ⟨z, hz, hpz.trans hp0⟩
theorem ins_mem {l : List Int} {k : Nat} {i x : Int} : x ∈ l.take k ++ i :: l.drop k ↔ x = i ∨ x ∈ l := by
  have hp : (l.take k ++ i :: l.drop k).Perm (i :: l) := by
    refine List.perm_middle.trans ?_
    rw [List.take_append_drop]
  rw [hp.mem_iff, List.mem_cons]
theorem ins_nodup {l : List Int} {k : Nat} {i : Int} (hn : l.Nodup) (hi : i ∉ l) : (l.take k ++ i :: l.drop k).Nodup := by
  have hp : (l.take k ++ i :: l.drop k).Perm (i :: l) := by
    refine List.perm_middle.trans ?_
    rw [List.take_append_drop]
  exact hp.nodup_iff.2 (List.nodup_cons.2 ⟨hi, hn⟩)
end Go.Proofs
namespace Go.Proofs
open Go Go.Sh
set_option linter.unusedVariables false
set_option maxRecDepth 100000
theorem plc_nn {kids kids' : List Int} {b id : Int} (hm : ∀ k, k ∈ kids' ↔ k ∈ kids /\ k ≠ id) (hb : b ≠ id) (h : 0 <= plcP kids b) : 0 <= plcP kids' b /\ plcP kids' b <= kids'.length := by
  unfold plcP idxP at h ⊢
  by_cases e : b = -1
  · rw [if_pos e]; omega
  · rw [if_neg e] at h ⊢
    by_cases hk : b ∈ kids
    · have h2 := (hm b).2 ⟨hk, hb⟩
      rw [if_pos h2]
      have := idxN_lt h2
      omega
    · rw [if_neg hk] at h; omega
section
variable {h : H} {K : Value -> H -> Prop} {col : Col} {s i p : Nat} {t a : Addr} {ads : List Addr} {ns : List NodeM} {x y : NodeM}
theorem put_tail (T : TreeP h col s t ads ns) (G : GoodT ns) {ai ap av : Addr} (ha : ads[i]? = some ai) (hx : ns[i]? = some x) (hap : ads[p]? = some ap) (hy : ns[p]? = some y) (hne : i ≠ p) {ab kb : Option Addr} {an ac kn kc : Nat}
    (v : Var h ap 84 (nodeC y ab an ac kb kn kc)) (ra : Row elAttr (Free col h) h ab an ac y.attrs) (hz : ab = none -> ac = 0) (ok : OwnI h kb kn kc y.kids) (hkc : ∀ q, kb = some q -> col q.block = some (s, 2 * p + 3))
    (vv : Var h av 3 [.int .i64 (i : Int)]) (hav : col av.block = none) {k : Nat} (hk0 : k <= y.kids.length)
    {Q : H -> Prop} (hk : ∀ h' col', TreeP h' col' s t ads ((ns.set p { y with kids := y.kids.take k ++ (i : Int) :: y.kids.drop k }).set i { x with parent := (p : Int) }) -> Ext s h col h' col' -> Q h') :
    HCalls Tryz.prog 142 ⟨[.slice kb kn kc, .int .i64 (k : Int), .slice (some av) 1 1]⟩ h fun v72 h73 => vSlice v72 fun b n c => vSome (some ap) fun a75 => stL (a75.add 7) [(.slice b n c)] 0 h73 fun h76 => vSome (some ai) fun a77 => stL (a77.add 6) [(.int .i64 (p : Int))] 0 h76 fun h78 => Q h78 := by
  have hkl := ok.len
  have hfew := G.few hy
  have hf := T.few
  have hil := getI hx
  refine insI_calls ok (by omega) vv (fun q e e2 => by have := hkc q e; rw [e2, hav] at this; cases this) (rngI (by omega) (by omega)) (by omega) fun b' c' h3 o3 g3 nb => vSliceMk (vSomeMk (stKidsG T hap hy v ra hz hkc g3 o3 nb fun h4 col4 T4 E4 => vSomeMk ?_))
  exact stPar T4 ha (by rw [List.getElem?_set_ne (Ne.symm hne)]; exact hx) (rngI (by have := getI hy; omega) (by have := getI hy; omega)) fun h5 T5 E5 _ => hk h5 col4 T5 (E4.trans E5)
theorem put_calls (T : TreeP h col s t ads ns) (G : GoodT ns) {parent before id : Int} (hk : ∀ h' col', TreeP h' col' s t ads (putM ns parent before id).1 -> Ext s h col h' col' -> K (.bool (putM ns parent before id).2) h') :
    HCalls Tryz.prog 65 ⟨[.pointer (some t), .int .i64 parent, .int .i64 before, .int .i64 id]⟩ h K := by
  have hlen := T.len
  have no : ¬ (holdB ns parent = true /\ (0 <= id /\ id < ns.length) /\ id ≠ 0 /\ before ≠ id /\ 0 <= plcP (((ns[parent.toNat]?).map (·.kids)).getD []) before /\ withinP ns parent id = false) -> ∀ h', KB h h' -> K (.bool false) h' := fun hn h' k => by
    have : putM ns parent before id = (ns, false) := by unfold putM; rw [if_neg hn]
    rw [this] at hk
    exact hk h' col (T.kb k) (Ext.kb k)
  have hold_of : ∀ (p : Nat) y, parent = (p : Int) -> ns[p]? = some y -> holdB ns parent = decide (p = 0 ∨ y.kind = 1) := fun p y e hy => by
    have := getI hy
    unfold holdB
    rw [e, Int.toNat_natCast, hy, decide_eq_true (show 0 <= (p : Int) /\ (p : Int) < ns.length by omega)]
    show decide _ = decide _
    congr 1
    exact propext ⟨fun h => h.imp (fun h => by omega) (fun h => h), fun h => h.imp (fun h => by omega) (fun h => h)⟩
  refine Sx.dom_Tree_Put.ok _ _ _ _ _ _ (holder_calls T (fun hn => vPtrMk ?_) fun p ap y ep hy hap hor => vPtrMk ?_)
  · have hh : ¬ holdB ns parent = true := fun hb => by
      unfold holdB at hb
      rw [Bool.and_eq_true] at hb
      have h1 := of_decide_eq_true hb.1
      obtain ⟨p, rfl⟩ := Int.eq_ofNat_of_zero_le h1.1
      have hy : ns[p]? = some ns[p] := List.getElem?_eq_getElem (by omega)
      have h2 := hb.2
      rw [Int.toNat_natCast, hy] at h2
      refine hn ⟨p, ns[p], rfl, hy, ?_⟩
      have h2 := of_decide_eq_true h2
      exact h2.imp (fun h => by omega) (fun h => h)
    refine at_calls T (fun hn2 => vPtrMk (ptrEq_k (by kernel_rfl) (vBool_mk (condT (no (fun hh2 => hh hh2.1) h (KB.refl h)))))) fun i a x e hx ha => vPtrMk (ptrEq_k (by kernel_rfl) (vBool_mk (condT (no (fun hh2 => hh hh2.1) h (KB.refl h)))))
  · refine at_calls T (fun hn2 => vPtrMk (ptrEq_k (by kernel_rfl) (vBool_mk (condF (ptrEq_k (by kernel_rfl) (vBool_mk (condT (no (fun hh => hn2 hh.2.1) h (KB.refl h))))))))) fun i ai x ei hx hai => vPtrMk (ptrEq_k (by kernel_rfl) (vBool_mk (condF (ptrEq_k (by kernel_rfl) (vBool_mk (condF ?_))))))
    have hpl := getI hy
    have hil := getI hx
    have Np := T.nodes p y ap hy hap
    have ekids : (((ns[parent.toNat]?).map (·.kids)).getD []) = y.kids := by rw [ep, Int.toNat_natCast, hy]; rfl
    rw [ekids] at no
    refine spl (fun e => no (fun hh => hh.2.2.1 e) h (KB.refl h)) fun h0 => spl (fun e => no (fun hh => hh.2.2.2.1 e) h (KB.refl h)) fun hb => index_calls Np (vIntMk (spl (fun e => no (fun hh => by have := hh.2.2.2.2.1; omega) h (KB.refl h)) fun hplc => within_calls T G (by omega) fun h1 k1 => vBool_mk (condB (fun e => no (fun hh => by rw [e] at hh; cases hh.2.2.2.2.2) h1 k1) fun hw => ?_)))
    have T1 := T.kb k1
    have hyes : holdB ns parent = true /\ (0 <= id /\ id < ns.length) /\ id ≠ 0 /\ before ≠ id /\ 0 <= plcP (((ns[parent.toNat]?).map (·.kids)).getD []) before /\ withinP ns parent id = false :=
      ⟨by rw [hold_of p y ep hy]; exact decide_eq_true hor, by omega, h0, hb, by rw [ekids]; omega, hw⟩
    have epm : putM ns parent before id = (putAt (cutM ns id).1 parent.toNat before id.toNat, true) := by unfold putM; rw [if_pos hyes]
    rw [epm, ep, ei, Int.toNat_natCast, Int.toNat_natCast, <- ei] at hk
    have G1 := G.cutM id
    obtain ⟨y1, hy1, _, _, _, _, _, hmem, _, _⟩ := cutM_get G (id := id) hy
    obtain ⟨x1, hx1, _, _, _, _, _, _, _, _⟩ := cutM_get G (id := id) hx
    have hnw : ¬ InC ns parent id := fun hh => by
      unfold withinP at hw
      rw [@decide_eq_true (InC ns parent id) (Classical.propDecidable _) hh] at hw; cases hw
    have hne : i ≠ p := fun e => hnw (by rw [ep, ei, <- e]; exact inC_step.2 (.inl rfl))
    obtain ⟨hp1, hp2⟩ := plc_nn hmem hb (by omega)
    obtain ⟨k, hkk⟩ := Int.eq_ofNat_of_zero_le hp1
    have hkk : plcP y1.kids before = (k : Int) := hkk
    have hres : putAt (cutM ns id).1 p before i = (((cutM ns id).1.set p { y1 with kids := y1.kids.take k ++ (i : Int) :: y1.kids.drop k }).set i { x1 with parent := (p : Int) }) := by
      unfold putAt
      rw [hy1]
      dsimp only
      rw [hkk, Int.toNat_natCast, List.getElem?_set_ne (Ne.symm hne), hx1]
    rw [hres] at hk
    have tailA : ∀ h2 col2, TreeP h2 col2 s t ads (cutM ns id).1 -> Ext s h col h2 col2 -> Sx.dom_Tree_Put.n5 parent before id (some ap) (some ai) (fun y8 h => K (.bool y8) h) (fun y8 h => K (.bool y8) h) h2 := by
      intro h2 col2 T2 E2
      have N2 := T2.nodes p y1 ap hy1 hap
      obtain ⟨ab, an, ac, kb, kn, kc, v, ra, hz, ok, hkc⟩ := N2.ex
      refine ⟨vSomeMk ⟨_, _, _, v.cell 7 rfl, index_calls N2 (vIntMk ⟨ExtH.refl _, newx_var fun av h3 v3 k3 e3 s3 => ⟨k3.ext, ?_⟩⟩)⟩, vSomeMk ⟨_, _, _, v.cell 7 rfl, newx_var fun av h3 v3 k3 e3 s3 => ⟨k3.ext, index_calls ((T2.kb k3).nodes p y1 ap hy1 hap) (vIntMk ⟨ExtH.refl _, ?_⟩)⟩⟩⟩
      all_goals
        rw [hkk, ei] at *
        rw [ep]
        have T3 := T2.kb k3
        have fr : col2 av.block = none := T2.fresh _ (by omega)
        exact put_tail T3 G1 hai hx1 hap hy1 hne (v.kb k3) (ra.keep ((KB.w k3).less fun q hq => hq.2) fun q hq hs => ⟨hq.1, Nat.lt_of_lt_of_le hs k3.1⟩) hz (ok.keep (KB.w k3) fun q e => ok.hi q e) hkc v3 fr (by omega) fun h' col' T' E' => hk h' col' T' ((E2.trans (Ext.kb k3)).trans E')
    refine cut_calls T1 G fun h2 col2 T2 E2 => vBool_mk ?_
    have E02 : Ext s h col h2 col2 := (Ext.kb k1).trans E2
    exact condB (fun _ => tailA h2 col2 T2 E02) fun _ => tailA h2 col2 T2 E02
end
end Go.Proofs
namespace Go.Proofs
open Go Go.Sh
set_option linter.unusedVariables false
set_option maxRecDepth 100000
theorem holdB_nat {ns : List NodeM} {p : Int} (h : holdB ns p = true) : ∃ (q : Nat) (y : NodeM), p = (q : Int) /\ ns[q]? = some y /\ (q = 0 ∨ y.kind = 1) := by
  unfold holdB at h
  rw [Bool.and_eq_true] at h
  have h1 := of_decide_eq_true h.1
  obtain ⟨q, rfl⟩ := Int.eq_ofNat_of_zero_le h1.1
  have hy : ns[q]? = some ns[q] := List.getElem?_eq_getElem (by omega)
  have h2 := h.2
  rw [Int.toNat_natCast, hy] at h2
  have h2 := of_decide_eq_true h2
  exact ⟨q, ns[q], rfl, hy, h2.imp (fun h => by omega) (fun h => h)⟩
theorem GoodT.putM {ns : List NodeM} (G : GoodT ns) (parent before id : Int) : GoodT (Go.Proofs.putM ns parent before id).1 := by
  unfold Go.Proofs.putM
  by_cases hc : holdB ns parent = true /\ (0 <= id /\ id < ns.length) /\ id ≠ 0 /\ before ≠ id /\ 0 <= plcP (((ns[parent.toNat]?).map (·.kids)).getD []) before /\ withinP ns parent id = false
  · rw [if_pos hc]
    obtain ⟨hh, hid, h0, hb, hpl, hw⟩ := hc
    obtain ⟨p, y, ep, hy, _⟩ := holdB_nat hh
    obtain ⟨i, ei⟩ := Int.eq_ofNat_of_zero_le hid.1
    have ei : id = (i : Int) := ei
    have hil : i < ns.length := by omega
    have hx : ns[i]? = some ns[i] := List.getElem?_eq_getElem hil
    have ekids : (((ns[parent.toNat]?).map (·.kids)).getD []) = y.kids := by rw [ep, Int.toNat_natCast, hy]; rfl
    rw [ekids] at hpl
    have G1 := G.cutM id
    obtain ⟨y1, hy1, _, _, _, _, _, hmem, _, _⟩ := cutM_get G (id := id) hy
    obtain ⟨x1, hx1, _, _, _, _, _, _, hpar, _⟩ := cutM_get G (id := id) hx
    have hnw : ¬ InC ns parent id := fun hh => by
      unfold withinP at hw
      rw [@decide_eq_true (InC ns parent id) (Classical.propDecidable _) hh] at hw; cases hw
    have hne : i ≠ p := fun e => hnw (by rw [ep, ei, <- e]; exact inC_step.2 (.inl rfl))
    obtain ⟨hp1, hp2⟩ := plc_nn hmem hb hpl
    obtain ⟨k, hkk⟩ := Int.eq_ofNat_of_zero_le hp1
    have hkk : plcP y1.kids before = (k : Int) := hkk
    have hsame : ∀ j : Nat, (j : Int) ≠ id -> parI (Go.Proofs.cutM ns id).1 j = parI ns j := fun j hj => by
      cases hz : ns[j]? with
      | none =>
        have h1 : (Go.Proofs.cutM ns id).1[j]? = none := by
          rw [List.getElem?_eq_none_iff, cutM_len ns G]
          exact List.getElem?_eq_none_iff.1 hz
        unfold parI
        rw [Int.toNat_natCast, h1, hz]
      | some z =>
        obtain ⟨z1, hz1, _, _, _, _, _, _, _, hp⟩ := cutM_get G (id := id) hz
        rw [parI_some hz1, parI_some hz]
        exact hp hj
    have hno : ¬ InC (Go.Proofs.cutM ns id).1 (p : Int) (i : Int) := fun ⟨f, hf⟩ => hnw (by
      rw [<- ei, <- ep] at hf
      exact ⟨f, inC_same hsame f _ hf⟩)
    have hni : (i : Int) ∉ y1.kids := fun hm => ((hmem _).1 hm).2 ei.symm
    have hres : putAt (Go.Proofs.cutM ns id).1 parent.toNat before id.toNat = (((Go.Proofs.cutM ns id).1.set p { y1 with kids := y1.kids.take k ++ (i : Int) :: y1.kids.drop k }).set i { x1 with parent := (p : Int) }) := by
      have e1 : parent.toNat = p := by rw [ep]; exact Int.toNat_natCast p
      have e2 : id.toNat = i := by rw [ei]; exact Int.toNat_natCast i
      rw [e1, e2]
      unfold putAt
      rw [hy1]
      dsimp only
      rw [hkk, Int.toNat_natCast, List.getElem?_set_ne (Ne.symm hne), hx1]
    show GoodT (putAt (Go.Proofs.cutM ns id).1 parent.toNat before id.toNat)
    rw [hres]
    exact G1.put hx1 hy1 (hpar ei.symm) hne (by omega) hno (ins_nodup (G1.nodup p y1 hy1) hni) fun k' => ins_mem
  · rw [if_neg hc]; exact G
theorem GoodT.add {ns : List NodeM} (G : GoodT ns) {x : NodeM} (hp : x.parent = -1) (hk : x.kids = []) : GoodT (ns ++ [x]) := by
  have get : ∀ (j : Nat) z, (ns ++ [x])[j]? = some z -> (j < ns.length /\ ns[j]? = some z) ∨ (j = ns.length /\ z = x) := fun j z hz => by
    by_cases h : j < ns.length
    · rw [List.getElem?_append_left h] at hz; exact .inl ⟨h, hz⟩
    · have hl := getI hz
      rw [List.length_append, List.length_singleton] at hl
      have e : j = ns.length := by omega
      rw [e, List.getElem?_append_right (Nat.le_refl _), Nat.sub_self] at hz
      simp at hz
      exact .inr ⟨e, hz.symm⟩
  have keyN : ∀ (j : Nat) (k : Int), (∃ (m : Nat) (w : NodeM), k = (m : Int) /\ ns[m]? = some w /\ w.parent = (j : Int)) ↔ ∃ (m : Nat) (w : NodeM), k = (m : Int) /\ (ns ++ [x])[m]? = some w /\ w.parent = (j : Int) := fun j k => by
    constructor
    · rintro ⟨m, w, rfl, hw, hq⟩
      exact ⟨m, w, rfl, by rw [List.getElem?_append_left (getI hw)]; exact hw, hq⟩
    · rintro ⟨m, w, rfl, hw, hq⟩
      rcases get m w hw with ⟨_, h⟩ | ⟨_, rfl⟩
      · exact ⟨m, w, rfl, h, hq⟩
      · rw [hp] at hq; omega
  refine ⟨fun j z hz => ?_, fun j z k hz => ?_, fun j z hz => ?_, ?_, ?_⟩
  · rw [List.length_append, List.length_singleton]
    rcases get j z hz with ⟨_, h⟩ | ⟨_, rfl⟩
    · rcases G.par j z h with h | h
      · exact .inl h
      · right; omega
    · exact .inl hp
  · rw [<- keyN]
    rcases get j z hz with ⟨_, h⟩ | ⟨e, rfl⟩
    · exact G.kid j z k h
    · rw [hk]
      refine ⟨fun h => (by cases h), ?_⟩
      rintro ⟨m, w, rfl, hw, hq⟩
      rcases G.par m w hw with h | h <;> omega
  · rcases get j z hz with ⟨_, h⟩ | ⟨e, rfl⟩
    · exact G.nodup j z h
    · rw [hk]; exact List.nodup_nil
  · obtain ⟨rk, hr⟩ := G.rank
    refine ⟨rk, fun j q z hz hq => ?_⟩
    rcases get j z hz with ⟨_, h⟩ | ⟨_, rfl⟩
    · exact hr j q z h hq
    · rw [hp] at hq; omega
  · obtain ⟨r, hr, hp0⟩ := G.root
    exact ⟨r, by rw [List.getElem?_append_left (getI hr)]; exact hr, hp0⟩
theorem GoodT.addM {ns : List NodeM} (G : GoodT ns) (kd sp : Int) (nm : Bs) (at' : List AttrP) (tx : Bs) : GoodT (Go.Proofs.addM ns (bareM kd sp nm at' tx)).1 := by
  unfold bareM
  by_cases h1 : kd = 1
  · rw [if_pos h1]; exact G.add rfl rfl
  · rw [if_neg h1]
    by_cases h2 : kd = 2 ∨ kd = 3
    · rw [if_pos h2]; exact G.add rfl rfl
    · rw [if_neg h2]; exact G
theorem GoodT.copyM {ns : List NodeM} (G : GoodT ns) (id : Int) : GoodT (Go.Proofs.copyM ns id).1 := by
  unfold Go.Proofs.copyM
  by_cases h : 0 <= id /\ id < ns.length
  · rw [if_pos h]
    cases hx : ns[id.toNat]? with
    | none => exact G
    | some x => exact G.addM _ _ _ _ _
  · rw [if_neg h]; exact G
theorem good_root : GoodT [rootM] := by
  have get : ∀ (j : Nat) z, [rootM][j]? = some z -> j = 0 /\ z = rootM := fun j z hz => by
    cases j with
    | zero => simp at hz; exact ⟨rfl, hz.symm⟩
    | succ j => simp at hz
  refine ⟨fun j z hz => ?_, fun j z k hz => ?_, fun j z hz => ?_, ⟨fun _ => 0, fun j q z hz hq => ?_⟩, rootM, rfl, rfl⟩
  · rw [(get j z hz).2]; exact .inl rfl
  · rw [(get j z hz).2]
    refine ⟨fun h => (by cases h), ?_⟩
    rintro ⟨m, w, rfl, hw, hq⟩
    rw [(get m w hw).2] at hq
    have : (-1 : Int) = (j : Int) := hq
    omega
  · rw [(get j z hz).2]; exact List.nodup_nil
  · rw [(get j z hz).2] at hq
    have : (-1 : Int) = (q : Int) := hq
    omega
noncomputable def writeM (ns : List NodeM) (parent before : Int) (tx : Bs) : List NodeM × Bool :=
  if ¬ (holdB ns parent = true /\ 0 <= plcP (((ns[parent.toNat]?).map (·.kids)).getD []) before) then (ns, false)
  else if tx = [] then (ns, true)
  else
    match ((((ns[parent.toNat]?).map (·.kids)).getD [])[(plcP (((ns[parent.toNat]?).map (·.kids)).getD []) before).toNat - 1]?).bind (fun k : Int => if 0 < plcP (((ns[parent.toNat]?).map (·.kids)).getD []) before then (ns[k.toNat]?).bind fun z => if z.kind = 2 then some (k.toNat, z) else none else none) with
    | some (j, z) => (ns.set j { z with text := z.text ++ tx }, true)
    | none => putM (addM ns (bareM 2 0 [] [] tx)).1 parent before (addM ns (bareM 2 0 [] [] tx)).2
theorem GoodT.setText {ns : List NodeM} (G : GoodT ns) {j : Nat} {z : NodeM} (hz : ns[j]? = some z) (tx : Bs) : GoodT (ns.set j { z with text := tx }) := by
  have hj := getI hz
  have get : ∀ (m : Nat) w, (ns.set j { z with text := tx })[m]? = some w -> ∃ v, ns[m]? = some v /\ v.parent = w.parent /\ v.kids = w.kids := fun m w hw => by
    by_cases e : j = m
    · subst e
      rw [List.getElem?_set_self hj] at hw; cases hw
      exact ⟨z, hz, rfl, rfl⟩
    · rw [List.getElem?_set_ne e] at hw; exact ⟨w, hw, rfl, rfl⟩
  have get' : ∀ (m : Nat) w, ns[m]? = some w -> ∃ v, (ns.set j { z with text := tx })[m]? = some v /\ v.parent = w.parent := fun m w hw => by
    by_cases e : j = m
    · subst e
      rw [hz] at hw; cases hw
      exact ⟨_, List.getElem?_set_self hj, rfl⟩
    · exact ⟨w, by rw [List.getElem?_set_ne e]; exact hw, rfl⟩
  refine ⟨fun m w hw => ?_, fun m w k hw => ?_, fun m w hw => ?_, ?_, ?_⟩
  · rw [List.length_set]
    obtain ⟨v, hv, hp, _⟩ := get m w hw
    rw [<- hp]; exact G.par m v hv
  · obtain ⟨v, hv, _, hk⟩ := get m w hw
    rw [<- hk, G.kid m v k hv]
    constructor
    · rintro ⟨q, u, rfl, hu, hq⟩
      obtain ⟨u', hu', hp'⟩ := get' q u hu
      exact ⟨q, u', rfl, hu', hp'.trans hq⟩
    · rintro ⟨q, u, rfl, hu, hq⟩
      obtain ⟨u', hu', hp', _⟩ := get q u hu
      exact ⟨q, u', rfl, hu', hp'.trans hq⟩
  · obtain ⟨v, hv, _, hk⟩ := get m w hw
    rw [<- hk]; exact G.nodup m v hv
  · obtain ⟨rk, hr⟩ := G.rank
    refine ⟨rk, fun m q w hw hq => ?_⟩
    obtain ⟨v, hv, hp, _⟩ := get m w hw
    exact hr m q v hv (hp.trans hq)
  · obtain ⟨r, hr, hp0⟩ := G.root
    obtain ⟨v, hv, hp⟩ := get' 0 r hr
    exact ⟨v, hv, hp.trans hp0⟩
theorem GoodT.writeM {ns : List NodeM} (G : GoodT ns) (parent before : Int) (tx : Bs) : GoodT (Go.Proofs.writeM ns parent before tx).1 := by
  unfold Go.Proofs.writeM
  by_cases h1 : ¬ (holdB ns parent = true /\ 0 <= plcP (((ns[parent.toNat]?).map (·.kids)).getD []) before)
  · rw [if_pos h1]; exact G
  rw [if_neg h1]
  by_cases h2 : tx = []
  · rw [if_pos h2]; exact G
  rw [if_neg h2]
  split
  · rename_i j z hm
    obtain ⟨k, hk, hb⟩ := Option.bind_eq_some_iff.1 hm
    split at hb
    · obtain ⟨z', hz', hb2⟩ := Option.bind_eq_some_iff.1 hb
      split at hb2
      · cases hb2; exact G.setText hz' _
      · cases hb2
    · cases hb
  · exact (G.addM _ _ _ _ _).putM _ _ _
section
variable {h : H} {K : Value -> H -> Prop} {col : Col} {s i p : Nat} {t a : Addr} {ads : List Addr} {ns : List NodeM} {x y : NodeM}
theorem write_calls (T : TreeP h col s t ads ns) (G : GoodT ns) {parent before : Int} {tx : Bs} (hlen : ∀ (i : Nat) x, ns[i]? = some x -> x.text.length + tx.length <= 9223372036854775807) (htx : tx.length <= maxLen) (hfew : ns.length < 1000000)
    (hk : ∀ h' col' ads', TreeP h' col' s t ads' (writeM ns parent before tx).1 -> Ext s h col h' col' -> K (.bool (writeM ns parent before tx).2) h') :
    HCalls Tryz.prog 56 ⟨[.pointer (some t), .int .i64 parent, .int .i64 before, S tx]⟩ h K := by
  have hl := T.len
  refine Sx.dom_Tree_Write.ok _ _ _ _ _ _ (holder_calls T (fun hn => vPtrMk (ptrEq_k (by kernel_rfl) (vBool_mk (condT ?_)))) fun p ap y ep hy hap hor => vPtrMk (ptrEq_k (by kernel_rfl) (vBool_mk (condF ?_))))
  · have : writeM ns parent before tx = (ns, false) := by
      unfold writeM
      rw [if_pos (fun hh => hn (holdB_nat hh.1))]
    rw [this] at hk
    exact hk h col ads T (Ext.refl _ _ _)
  · have Np := T.nodes p y ap hy hap
    have hpl := getI hy
    have ekids : (((ns[parent.toNat]?).map (·.kids)).getD []) = y.kids := by rw [ep, Int.toNat_natCast, hy]; rfl
    have hh : holdB ns parent = true := by
      unfold holdB
      rw [ep, Int.toNat_natCast, hy, decide_eq_true (show 0 <= (p : Int) /\ (p : Int) < ns.length by omega)]
      exact decide_eq_true (hor.imp (fun h => by omega) (fun h => h))
    unfold writeM at hk
    rw [ekids] at hk
    refine index_calls Np (vIntMk (spl (fun e => ?_) fun e => ?_))
    · rw [if_pos (fun hh2 => by have := hh2.2; omega)] at hk
      exact hk h col ads T (Ext.refl _ _ _)
    · rw [if_neg (fun hn => hn ⟨hh, by omega⟩)] at hk
      refine spl (fun e2 => ?_) fun e2 => ?_
      · rw [if_pos e2] at hk
        exact hk h col ads T (Ext.refl _ _ _)
      · rw [if_neg e2] at hk
        obtain ⟨k, hkk⟩ := Int.eq_ofNat_of_zero_le (show 0 <= plcP y.kids before by omega)
        have hkk : plcP y.kids before = (k : Int) := hkk
        rw [hkk, Int.toNat_natCast] at hk
        have other : ((y.kids[k - 1]?).bind (fun q : Int => if 0 < (k : Int) then (ns[q.toNat]?).bind fun z => if z.kind = 2 then some (q.toNat, z) else none else none)) = none -> Sx.dom_Tree_Write.n6 (some t) parent before tx (fun y8 h => K (.bool y8) h) (fun y8 h => K (.bool y8) h) h := fun hnone => by
          rw [hnone] at hk
          refine make_calls T (A := fun _ => True) (attrs := []) ⟨rfl, Nat.le_refl _, Nat.zero_le _, fun i x hx => by simp at hx⟩ (fun _ => rfl) (by omega) ⟨by decide, by decide⟩ ⟨by decide, by decide⟩ (Nat.zero_le _) htx hfew fun h2 col2 ads2 T2 E2 => vIntMk ?_
          exact put_calls T2 (G.addM _ _ _ _ _) fun h3 col3 T3 E3 => vBool_mk (condB (fun eb => by have := hk h3 col3 ads2 T3 (E2.trans E3); rw [eb] at this; exact this) fun eb => by have := hk h3 col3 ads2 T3 (E2.trans E3); rw [eb] at this; exact this)
        refine index_calls Np (vIntMk ?_)
        rw [hkk]
        refine spl (fun e3 => condT ?_) fun e3 => condF (other (by
          have e4 : ¬ 0 < (k : Int) := e3
          simp only [if_neg e4]
          cases y.kids[k - 1]? <;> rfl))
        obtain ⟨ab, an, ac, kb, kn, kc, v, ra, hz, ok, hkc⟩ := Np.ex
        obtain ⟨lb, lc, vt, o, hl2⟩ := T.ex
        have hkl := ok.len
        have hkn : k <= y.kids.length := by
          have := hkk
          unfold plcP idxP at this
          by_cases eb : before = -1
          · rw [if_pos eb] at this; omega
          · rw [if_neg eb] at this
            by_cases em : before ∈ y.kids
            · rw [if_pos em] at this; have := idxN_lt em; omega
            · rw [if_neg em] at this; omega
        have ek : ((k : Int) - 1) = ((k - 1 : Nat) : Int) := by omega
        have hfk := G.few hy
        have hft := T.few
        refine vSomeMk ⟨_, _, _, vt.cell 0 rfl, vSomeMk ⟨_, _, _, v.cell 7 rfl, rngI (by omega) (by omega), ?_⟩⟩
        rw [ek]
        have hil : k - 1 < y.kids.length := by omega
        refine (ok.row (A := fun _ => True) fun _ _ => trivial).idxN hil rfl fun q hA => ldI hA fun _ => ?_
        obtain ⟨j, z, ej, hz', hpz⟩ := (G.kid p y _ hy).1 (List.getElem_mem hil)
        have hjl := getI hz'
        rw [ej]
        refine o.row.idxN (i := j) (by omega) rfl fun q2 hA2 => ldPtr hA2 (vSomeMk ?_)
        have haj : ads[j]? = some (ads[j]'(by omega)) := List.getElem?_eq_getElem (by omega)
        have Nj := T.nodes j z _ hz' haj
        obtain ⟨ab2, an2, ac2, kb2, kn2, kc2, v2, _⟩ := Nj.ex
        have ebind : ((y.kids[k - 1]?).bind (fun q : Int => if 0 < (k : Int) then (ns[q.toNat]?).bind fun z => if z.kind = 2 then some (q.toNat, z) else none else none)) = if z.kind = 2 then some (j, z) else none := by
          rw [List.getElem?_eq_getElem hil, ej]
          show (if 0 < (k : Int) then (ns[((j : Nat) : Int).toNat]?).bind _ else none) = _
          rw [if_pos (by omega), Int.toNat_natCast, hz']
          rfl
        refine ⟨_, v2.cellZ 0 rfl, spl (fun e4 => vSomeMk ⟨_, v2.cellZ 4 rfl, ?_, vSomeMk ?_⟩) fun e4 => other (by rw [ebind, if_neg e4])⟩
        · have := hlen j z hz'
          show ((z.text.length + tx.length : Nat) : Int) <= 9223372036854775807
          omega
        · rw [ebind, if_pos e4] at hk
          exact stText T haj hz' (by have := hlen j z hz'; rw [List.length_append]; simp only [maxLen]; omega) fun h2 T2 E2 => hk h2 col ads T2 E2
end
theorem add_len {ns : List NodeM} {o : Option NodeM} : (addM ns o).1.length <= ns.length + 1 := by
  cases o with
  | none => exact Nat.le_succ _
  | some x => show (ns ++ [x]).length <= _; simp
theorem put_len {ns : List NodeM} (G : GoodT ns) (p b i : Int) : (putM ns p b i).1.length = ns.length := by
  unfold putM
  by_cases hc : holdB ns p = true /\ (0 <= i /\ i < ns.length) /\ i ≠ 0 /\ b ≠ i /\ 0 <= plcP (((ns[p.toNat]?).map (·.kids)).getD []) b /\ withinP ns p i = false
  · rw [if_pos hc]
    show (putAt _ _ _ _).length = _
    unfold putAt
    split
    · exact cutM_len ns G i
    · split
      · exact cutM_len ns G i
      · rw [List.length_set, List.length_set]; exact cutM_len ns G i
  · rw [if_neg hc]
end Go.Proofs
namespace Go.Proofs
open Go Go.Sh
set_option linter.unusedVariables false
set_option maxRecDepth 100000
def parsTo (ns : List NodeM) (ks : List Int) (p : Nat) : List NodeM := ns.mapIdx fun j z => if (j : Int) ∈ ks then { z with parent := (p : Int) } else z
def moveAt (ns : List NodeM) (i p : Nat) (xk yk : List Int) : List NodeM := ns.mapIdx fun j z => { z with parent := if (j : Int) ∈ xk then (p : Int) else z.parent, kids := if j = i then [] else if j = p then yk ++ xk else z.kids }
noncomputable def moveM (ns : List NodeM) (from' dst : Int) : List NodeM × Bool :=
  if (0 <= from' /\ from' < ns.length) /\ holdB ns dst = true /\ (((ns[from'.toNat]?).map (·.kids)).getD []) ≠ [] /\ withinP ns dst from' = false then
    (moveAt ns from'.toNat dst.toNat (((ns[from'.toNat]?).map (·.kids)).getD []) (((ns[dst.toNat]?).map (·.kids)).getD []), true)
  else (ns, false)
theorem parsTo_get {ns : List NodeM} {ks : List Int} {p j : Nat} {z : NodeM} (h : ns[j]? = some z) : (parsTo ns ks p)[j]? = some (if (j : Int) ∈ ks then { z with parent := (p : Int) } else z) := by
  unfold parsTo; rw [List.getElem?_mapIdx, h]; rfl
theorem parsTo_len {ns : List NodeM} {ks : List Int} {p : Nat} : (parsTo ns ks p).length = ns.length := by unfold parsTo; simp
theorem parsTo_nil {ns : List NodeM} {p : Nat} : parsTo ns [] p = ns := by
  unfold parsTo
  refine List.ext_getElem? fun j => ?_
  rw [List.getElem?_mapIdx]
  cases ns[j]? <;> simp
theorem parsTo_step {ns : List NodeM} {ks : List Int} {p j : Nat} {z : NodeM} (h : ns[j]? = some z) (hno : (j : Int) ∉ ks) : (parsTo ns ks p).set j { z with parent := (p : Int) } = parsTo ns (ks ++ [(j : Int)]) p := by
  refine List.ext_getElem? fun m => ?_
  have hj := getI h
  by_cases e : j = m
  · subst e
    rw [List.getElem?_set_self (by rw [parsTo_len]; exact hj), parsTo_get h, if_pos (by simp)]
  · rw [List.getElem?_set_ne e]
    cases hm : ns[m]? with
    | none =>
      unfold parsTo
      rw [List.getElem?_mapIdx, List.getElem?_mapIdx, hm]
      rfl
    | some w =>
      rw [parsTo_get hm, parsTo_get hm]
      have : ((m : Int) ∈ ks ++ [(j : Int)]) ↔ (m : Int) ∈ ks := by
        rw [List.mem_append, List.mem_singleton]
        exact ⟨fun h => h.resolve_right (by omega), .inl⟩
      simp only [this]
theorem moveAt_get {ns : List NodeM} {i p j : Nat} {xk yk : List Int} {z : NodeM} (h : ns[j]? = some z) : (moveAt ns i p xk yk)[j]? = some { z with parent := if (j : Int) ∈ xk then (p : Int) else z.parent, kids := if j = i then [] else if j = p then yk ++ xk else z.kids } := by
  unfold moveAt; rw [List.getElem?_mapIdx, h]; rfl
theorem moveAt_len {ns : List NodeM} {i p : Nat} {xk yk : List Int} : (moveAt ns i p xk yk).length = ns.length := by unfold moveAt; simp
theorem moveAt_inv {ns : List NodeM} {i p j : Nat} {xk yk : List Int} {w : NodeM} (h : (moveAt ns i p xk yk)[j]? = some w) : ∃ z, ns[j]? = some z /\ w = { z with parent := if (j : Int) ∈ xk then (p : Int) else z.parent, kids := if j = i then [] else if j = p then yk ++ xk else z.kids } := by
  have hl := getI h
  rw [moveAt_len] at hl
  have hz : ns[j]? = some ns[j] := List.getElem?_eq_getElem hl
  rw [moveAt_get hz] at h
  exact ⟨_, hz, (Option.some.inj h).symm⟩
theorem shiftR_le {ns : List NodeM} {i m j : Nat} {rk : Nat -> Nat} : shiftR ns i m rk j <= rk j + m := by
  unfold shiftR
  rcases Classical.em (InC ns (j : Int) (i : Int)) with h | h
  · rw [if_pos h]; exact Nat.le_refl _
  · rw [if_neg h]; exact Nat.le_add_right _ _
theorem GoodT.move {ns : List NodeM} (G : GoodT ns) {i p : Nat} {x y : NodeM} (hx : ns[i]? = some x) (hy : ns[p]? = some y) (hno : ¬ InC ns (p : Int) (i : Int)) : GoodT (moveAt ns i p x.kids y.kids) := by
  have hi := getI hx
  have hpl := getI hy
  have hne : i ≠ p := fun e => hno (by rw [<- e]; exact inC_step.2 (.inl rfl))
  have kin : ∀ (m : Nat) w, ns[m]? = some w -> ((m : Int) ∈ x.kids ↔ w.parent = (i : Int)) := fun m w hw => by
    rw [G.kid i x _ hx]
    refine ⟨fun ⟨q, v, e, hv, hq⟩ => ?_, fun h => ⟨m, w, rfl, hw, h⟩⟩
    have : q = m := by omega
    subst this
    rw [hw] at hv; cases hv
    exact hq
  have keyN : ∀ (j : Nat) (k : Int), j ≠ i -> j ≠ p -> ((∃ (m : Nat) (w : NodeM), k = (m : Int) /\ ns[m]? = some w /\ w.parent = (j : Int)) ↔ ∃ (m : Nat) (w : NodeM), k = (m : Int) /\ (moveAt ns i p x.kids y.kids)[m]? = some w /\ w.parent = (j : Int)) := fun j k hji hjp => by
    constructor
    · rintro ⟨m, w, rfl, hw, hq⟩
      refine ⟨m, _, rfl, moveAt_get hw, ?_⟩
      show (if (m : Int) ∈ x.kids then (p : Int) else w.parent) = _
      rw [if_neg (fun h => by have := (kin m w hw).1 h; omega)]; exact hq
    · rintro ⟨m, w, rfl, hw, hq⟩
      obtain ⟨z, hz, rfl⟩ := moveAt_inv hw
      have hq : (if (m : Int) ∈ x.kids then (p : Int) else z.parent) = (j : Int) := hq
      by_cases hm : (m : Int) ∈ x.kids
      · rw [if_pos hm] at hq; omega
      · rw [if_neg hm] at hq; exact ⟨m, z, rfl, hz, hq⟩
  refine ⟨fun j z hz => ?_, fun j z k hz => ?_, fun j z hz => ?_, ?_, ?_⟩
  · rw [moveAt_len]
    obtain ⟨w, hw, rfl⟩ := moveAt_inv hz
    show (if (j : Int) ∈ x.kids then (p : Int) else w.parent) = -1 ∨ (0 <= (if (j : Int) ∈ x.kids then (p : Int) else w.parent) /\ (if (j : Int) ∈ x.kids then (p : Int) else w.parent) < _)
    by_cases hm : (j : Int) ∈ x.kids
    · rw [if_pos hm]; right; omega
    · rw [if_neg hm]; exact G.par j w hw
  · obtain ⟨w, hw, rfl⟩ := moveAt_inv hz
    show k ∈ (if j = i then [] else if j = p then y.kids ++ x.kids else w.kids) ↔ _
    by_cases e : j = i
    · rw [if_pos e]
      refine ⟨fun h => (by cases h), ?_⟩
      rintro ⟨m, v, rfl, hv, hq⟩
      obtain ⟨u, hu, rfl⟩ := moveAt_inv hv
      have hq : (if (m : Int) ∈ x.kids then (p : Int) else u.parent) = (j : Int) := hq
      by_cases hm : (m : Int) ∈ x.kids
      · rw [if_pos hm] at hq; omega
      · rw [if_neg hm] at hq
        exact absurd ((kin m u hu).2 (by omega)) hm
    · rw [if_neg e]
      by_cases e2 : j = p
      · rw [if_pos e2]
        subst e2
        rw [hy] at hw; cases hw
        rw [List.mem_append, G.kid j _ k hy, G.kid i _ k hx]
        constructor
        · rintro (⟨m, v, rfl, hv, hq⟩ | ⟨m, v, rfl, hv, hq⟩)
          · refine ⟨m, _, rfl, moveAt_get hv, ?_⟩
            show (if (m : Int) ∈ x.kids then (j : Int) else v.parent) = _
            rw [if_neg (fun h => by have := (kin m v hv).1 h; omega)]; exact hq
          · refine ⟨m, _, rfl, moveAt_get hv, ?_⟩
            show (if (m : Int) ∈ x.kids then (j : Int) else v.parent) = _
            rw [if_pos ((kin m v hv).2 hq)]
        · rintro ⟨m, v, rfl, hv, hq⟩
          obtain ⟨u, hu, rfl⟩ := moveAt_inv hv
          have hq : (if (m : Int) ∈ x.kids then (j : Int) else u.parent) = (j : Int) := hq
          by_cases hm : (m : Int) ∈ x.kids
          · exact .inr ⟨m, u, rfl, hu, (kin m u hu).1 hm⟩
          · rw [if_neg hm] at hq; exact .inl ⟨m, u, rfl, hu, hq⟩
      · rw [if_neg e2, G.kid j w k hw]
        exact keyN j k e e2
  · obtain ⟨w, hw, rfl⟩ := moveAt_inv hz
    show (if j = i then [] else if j = p then y.kids ++ x.kids else w.kids).Nodup
    by_cases e : j = i
    · rw [if_pos e]; exact List.nodup_nil
    · rw [if_neg e]
      by_cases e2 : j = p
      · rw [if_pos e2]
        refine List.nodup_append.2 ⟨G.nodup p y hy, G.nodup i x hx, fun a ha b hb e3 => ?_⟩
        subst e3
        obtain ⟨m, v, rfl, hv, hq⟩ := (G.kid p y a hy).1 ha
        have := (kin m v hv).1 hb
        omega
      · rw [if_neg e2]; exact G.nodup j w hw
  · obtain ⟨rk, hr⟩ := G.rank
    refine ⟨shiftR ns i (rk p + 1) rk, fun j q z hz hq => ?_⟩
    obtain ⟨w, hw, rfl⟩ := moveAt_inv hz
    have hq : (if (j : Int) ∈ x.kids then (p : Int) else w.parent) = (q : Int) := hq
    by_cases hm : (j : Int) ∈ x.kids
    · rw [if_pos hm] at hq
      have e1 : q = p := by omega
      have hji : InC ns (j : Int) (i : Int) := inC_step.2 (.inr (by rw [parI_some hw, (kin j w hw).1 hm]; exact inC_step.2 (.inl rfl)))
      rw [e1, shiftR_out hno, shiftR_in hji]; omega
    · rw [if_neg hm] at hq
      have hlt := hr j q w hw hq
      by_cases hj : InC ns (j : Int) (i : Int)
      · rw [shiftR_in hj]
        have := shiftR_le (ns := ns) (i := i) (m := rk p + 1) (j := q) (rk := rk)
        omega
      · have hq2 : ¬ InC ns (q : Int) (i : Int) := fun h => hj (inC_step.2 (.inr (by rw [parI_some hw, hq]; exact h)))
        rw [shiftR_out hj, shiftR_out hq2]; exact hlt
  · obtain ⟨r, hr, hp0⟩ := G.root
    refine ⟨_, moveAt_get hr, ?_⟩
    show (if ((0 : Nat) : Int) ∈ x.kids then (p : Int) else r.parent) = -1
    rw [if_neg (fun h => by have := (kin 0 r hr).1 h; omega)]; exact hp0
theorem GoodT.moveM {ns : List NodeM} (G : GoodT ns) (f dst : Int) : GoodT (Go.Proofs.moveM ns f dst).1 := by
  unfold Go.Proofs.moveM
  by_cases hc : (0 <= f /\ f < ns.length) /\ holdB ns dst = true /\ (((ns[f.toNat]?).map (·.kids)).getD []) ≠ [] /\ withinP ns dst f = false
  · rw [if_pos hc]
    obtain ⟨hf, hh, hk, hw⟩ := hc
    obtain ⟨p, y, ep, hy, _⟩ := holdB_nat hh
    obtain ⟨i, ei⟩ := Int.eq_ofNat_of_zero_le hf.1
    have ei : f = (i : Int) := ei
    have hil : i < ns.length := by omega
    have hx : ns[i]? = some ns[i] := List.getElem?_eq_getElem hil
    have hnw : ¬ InC ns dst f := fun hh => by
      unfold withinP at hw
      rw [@decide_eq_true (InC ns dst f) (Classical.propDecidable _) hh] at hw; cases hw
    have e1 : f.toNat = i := by rw [ei]; exact Int.toNat_natCast i
    have e2 : dst.toNat = p := by rw [ep]; exact Int.toNat_natCast p
    show GoodT (moveAt ns f.toNat dst.toNat (((ns[f.toNat]?).map (·.kids)).getD []) (((ns[dst.toNat]?).map (·.kids)).getD []))
    rw [e1, e2, hx, hy]
    exact G.move hx hy (by rw [<- ei, <- ep]; exact hnw)
  · rw [if_neg hc]; exact G
end Go.Proofs
namespace Go.Proofs
open Go Go.Sh
set_option linter.unusedVariables false
set_option maxRecDepth 100000
def BareN (z : NodeM) : Prop := (z.kind = 1 /\ z.text = []) ∨ (z.kind ≠ 1 /\ z.space = 0 /\ z.name = [] /\ z.attrs = [])
structure BareT (ns : List NodeM) : Prop where
  all : ∀ (i : Nat) z, ns[i]? = some z -> BareN z
  root : ∀ z, ns[0]? = some z -> z.kind = 0
def LikeT (ns ns' : List NodeM) : Prop := ∀ (j : Nat) z', ns'[j]? = some z' -> ∃ z, ns[j]? = some z /\ z'.kind = z.kind /\ z'.space = z.space /\ z'.name = z.name /\ z'.attrs = z.attrs /\ z'.text = z.text
def TextB (ns : List NodeM) (m : Nat) : Prop := ∀ (j : Nat) z, ns[j]? = some z -> z.text.length <= m
section
variable {ns ns' ns2 : List NodeM} {m c : Nat}
theorem LikeT.refl (ns : List NodeM) : LikeT ns ns := fun j z h => ⟨z, h, rfl, rfl, rfl, rfl, rfl⟩
theorem LikeT.trans (a : LikeT ns ns') (b : LikeT ns' ns2) : LikeT ns ns2 := fun j z h => by
  obtain ⟨y, hy, e1, e2, e3, e4, e5⟩ := b j z h
  obtain ⟨x, hx, f1, f2, f3, f4, f5⟩ := a j y hy
  exact ⟨x, hx, e1.trans f1, e2.trans f2, e3.trans f3, e4.trans f4, e5.trans f5⟩
theorem LikeT.set {j : Nat} {z z' : NodeM} (hz : ns[j]? = some z) (h : z'.kind = z.kind /\ z'.space = z.space /\ z'.name = z.name /\ z'.attrs = z.attrs /\ z'.text = z.text) : LikeT ns (ns.set j z') := fun k w hw => by
  by_cases e : j = k
  · subst e
    rw [List.getElem?_set_self (getI hz)] at hw
    cases hw
    exact ⟨z, hz, h⟩
  · rw [List.getElem?_set_ne e] at hw
    exact ⟨w, hw, rfl, rfl, rfl, rfl, rfl⟩
theorem BareT.like (B : BareT ns) (L : LikeT ns ns') : BareT ns' := by
  refine ⟨fun j z' h => ?_, fun z' h => ?_⟩
  · obtain ⟨z, hz, e1, e2, e3, e4, e5⟩ := L j z' h
    have := B.all j z hz
    unfold BareN at this ⊢
    rw [e1, e2, e3, e4, e5]
    exact this
  · obtain ⟨z, hz, e1, _⟩ := L 0 z' h
    rw [e1]; exact B.root z hz
theorem TextB.like (B : TextB ns m) (L : LikeT ns ns') : TextB ns' m := fun j z' h => by
  obtain ⟨z, hz, _, _, _, _, e5⟩ := L j z' h
  rw [e5]; exact B j z hz
theorem TextB.mono (B : TextB ns m) (h : m <= c) : TextB ns c := fun j z hz => Nat.le_trans (B j z hz) h
theorem cut_like (G : GoodT ns) (id : Int) : LikeT ns (cutM ns id).1 := fun j z' h => by
  have hl := getI h
  rw [cutM_len ns G] at hl
  have hz : ns[j]? = some ns[j] := List.getElem?_eq_getElem hl
  obtain ⟨z1, hz1, e1, e2, e3, e4, e5, _⟩ := cutM_get G (id := id) hz
  rw [h] at hz1; cases hz1
  exact ⟨_, hz, e1, e2, e3, e4, e5⟩
theorem put_like (G : GoodT ns) (p b i : Int) : LikeT ns (putM ns p b i).1 := by
  unfold putM
  by_cases hc : holdB ns p = true /\ (0 <= i /\ i < ns.length) /\ i ≠ 0 /\ b ≠ i /\ 0 <= plcP (((ns[p.toNat]?).map (·.kids)).getD []) b /\ withinP ns p i = false
  · rw [if_pos hc]
    refine (cut_like G i).trans ?_
    show LikeT _ (putAt _ _ _ _)
    unfold putAt
    split
    · exact LikeT.refl _
    · rename_i y hy
      split
      · exact LikeT.refl _
      · rename_i x hx
        refine LikeT.trans ?_ (LikeT.set hx ?_)
        · exact LikeT.set hy ⟨rfl, rfl, rfl, rfl, rfl⟩
        · exact ⟨rfl, rfl, rfl, rfl, rfl⟩
  · rw [if_neg hc]; exact LikeT.refl _
theorem move_like (f d : Int) : LikeT ns (moveM ns f d).1 := by
  unfold moveM
  by_cases hc : (0 <= f /\ f < ns.length) /\ holdB ns d = true /\ (((ns[f.toNat]?).map (·.kids)).getD []) ≠ [] /\ withinP ns d f = false
  · rw [if_pos hc]
    intro j z' h
    obtain ⟨z, hz, rfl⟩ := moveAt_inv h
    exact ⟨z, hz, rfl, rfl, rfl, rfl, rfl⟩
  · rw [if_neg hc]; exact LikeT.refl _
theorem BareT.root1 : BareT [rootM] := ⟨fun j z h => by
  cases j with
  | zero => simp at h; subst h; exact .inr ⟨by decide, rfl, rfl, rfl⟩
  | succ j => simp at h, fun z h => by simp at h; subst h; rfl⟩
theorem TextB.root1 : TextB [rootM] 0 := fun j z h => by
  cases j with
  | zero => simp at h; subst h; exact Nat.le_refl _
  | succ j => simp at h
theorem get_app {x : NodeM} {j : Nat} {z : NodeM} (h : (ns ++ [x])[j]? = some z) : ns[j]? = some z ∨ (j = ns.length /\ z = x) := by
  by_cases hj : j < ns.length
  · rw [List.getElem?_append_left hj] at h; exact .inl h
  · have hl := getI h
    rw [List.length_append, List.length_singleton] at hl
    have e : j = ns.length := by omega
    rw [e, List.getElem?_append_right (Nat.le_refl _), Nat.sub_self] at h
    simp at h
    exact .inr ⟨e, h.symm⟩
theorem BareT.addM (B : BareT ns) (h0 : 0 < ns.length) (kd sp : Int) (nm : Bs) (at' : List AttrP) (tx : Bs) : BareT (Go.Proofs.addM ns (bareM kd sp nm at' tx)).1 := by
  have add : ∀ x, BareN x -> BareT (ns ++ [x]) := fun x hx => ⟨fun j z h => by
    rcases get_app h with h | ⟨_, rfl⟩
    · exact B.all j z h
    · exact hx, fun z h => by
    rcases get_app h with h | ⟨e, _⟩
    · exact B.root z h
    · omega⟩
  unfold bareM
  by_cases h1 : kd = 1
  · rw [if_pos h1]; exact add _ (.inl ⟨h1, rfl⟩)
  · rw [if_neg h1]
    by_cases h2 : kd = 2 ∨ kd = 3
    · rw [if_pos h2]; exact add _ (.inr ⟨h1, rfl, rfl, rfl⟩)
    · rw [if_neg h2]; exact B
theorem TextB.addM (B : TextB ns m) {kd sp : Int} {nm : Bs} {at' : List AttrP} {tx : Bs} (ht : tx.length <= m) : TextB (Go.Proofs.addM ns (bareM kd sp nm at' tx)).1 m := by
  have add : ∀ x : NodeM, x.text.length <= m -> TextB (ns ++ [x]) m := fun x hx j z h => by
    rcases get_app h with h | ⟨_, rfl⟩
    · exact B j z h
    · exact hx
  unfold bareM
  by_cases h1 : kd = 1
  · rw [if_pos h1]; exact add _ (Nat.zero_le _)
  · rw [if_neg h1]
    by_cases h2 : kd = 2 ∨ kd = 3
    · rw [if_pos h2]; exact add _ ht
    · rw [if_neg h2]; exact B
theorem copyM_of (id : Int) : (∃ z, ns[id.toNat]? = some z /\ copyM ns id = Go.Proofs.addM ns (bareM z.kind z.space z.name z.attrs z.text)) ∨ copyM ns id = (ns, -1) := by
  unfold copyM
  by_cases h : 0 <= id /\ id < ns.length
  · rw [if_pos h]
    have hz : ns[id.toNat]? = some (ns[id.toNat]'(by omega)) := List.getElem?_eq_getElem (by omega)
    left
    exact ⟨_, hz, by rw [hz]; rfl⟩
  · rw [if_neg h]; exact .inr rfl
theorem BareT.copyM (B : BareT ns) (h0 : 0 < ns.length) (id : Int) : BareT (Go.Proofs.copyM ns id).1 := by
  rcases copyM_of (ns := ns) id with ⟨z, _, e⟩ | e
  · rw [e]; exact B.addM h0 _ _ _ _ _
  · rw [e]; exact B
theorem TextB.copyM (B : TextB ns m) (id : Int) : TextB (Go.Proofs.copyM ns id).1 m := by
  rcases copyM_of (ns := ns) id with ⟨z, hz, e⟩ | e
  · rw [e]; exact B.addM (B _ z hz)
  · rw [e]; exact B
theorem write_of (p b : Int) (tx : Bs) : (writeM ns p b tx).1 = ns ∨ (∃ (j : Nat) (z : NodeM), ns[j]? = some z /\ z.kind = 2 /\ (writeM ns p b tx).1 = ns.set j { z with text := z.text ++ tx }) ∨ ∃ i, (writeM ns p b tx).1 = (putM (Go.Proofs.addM ns (bareM 2 0 [] [] tx)).1 p b i).1 := by
  unfold writeM
  split
  · exact .inl rfl
  · split
    · exact .inl rfl
    · split
      · rename_i j z hm
        right; left
        obtain ⟨k, hk, e⟩ := Option.bind_eq_some_iff.1 hm
        split at e
        · obtain ⟨w, hw, e2⟩ := Option.bind_eq_some_iff.1 e
          split at e2
          · rename_i hk2
            cases e2
            exact ⟨_, _, hw, hk2, rfl⟩
          · cases e2
        · cases e
      · exact .inr (.inr ⟨_, rfl⟩)
theorem BareT.writeM (B : BareT ns) (G : GoodT ns) (h0 : 0 < ns.length) (p b : Int) (tx : Bs) : BareT (Go.Proofs.writeM ns p b tx).1 := by
  rcases write_of (ns := ns) p b tx with e | ⟨j, z, hz, hk, e⟩ | ⟨i, e⟩
  · rw [e]; exact B
  · rw [e]
    refine ⟨fun k w hw => ?_, fun w hw => ?_⟩
    · by_cases ej : j = k
      · subst ej
        rw [List.getElem?_set_self (getI hz)] at hw
        cases hw
        rcases B.all j z hz with ⟨h1, _⟩ | h2
        · omega
        · exact .inr h2
      · rw [List.getElem?_set_ne ej] at hw
        exact B.all k w hw
    · by_cases ej : j = 0
      · subst ej
        have := B.root z hz
        omega
      · rw [List.getElem?_set_ne ej] at hw
        exact B.root w hw
  · rw [e]
    exact (B.addM h0 _ _ _ _ _).like (put_like (G.addM _ _ _ _ _) _ _ _)
theorem TextB.writeM (B : TextB ns m) (G : GoodT ns) (p b : Int) {tx : Bs} (ht : tx.length <= c) : TextB (Go.Proofs.writeM ns p b tx).1 (m + c) := by
  rcases write_of (ns := ns) p b tx with e | ⟨j, z, hz, hk, e⟩ | ⟨i, e⟩
  · rw [e]; exact B.mono (Nat.le_add_right _ _)
  · rw [e]
    intro k w hw
    by_cases ej : j = k
    · subst ej
      rw [List.getElem?_set_self (getI hz)] at hw
      cases hw
      have := B j z hz
      show (z.text ++ tx).length <= _
      rw [List.length_append]; omega
    · rw [List.getElem?_set_ne ej] at hw
      have := B k w hw
      omega
  · rw [e]
    exact ((B.mono (c := m + c) (by omega)).addM (by omega)).like (put_like (G.addM _ _ _ _ _) _ _ _)
theorem write_len (G : GoodT ns) (p b : Int) (tx : Bs) : (writeM ns p b tx).1.length <= ns.length + 1 := by
  rcases write_of (ns := ns) p b tx with e | ⟨j, z, hz, hk, e⟩ | ⟨i, e⟩
  · rw [e]; omega
  · rw [e, List.length_set]; omega
  · rw [e, put_len (G.addM _ _ _ _ _)]; exact add_len
theorem move_len (f d : Int) : (moveM ns f d).1.length = ns.length := by
  unfold moveM
  split
  · exact moveAt_len
  · rfl
end
end Go.Proofs
namespace Go.Proofs
open Go
set_option linter.unusedVariables false
set_option maxRecDepth 100000
abbrev OpenP := Int × Int × Bs × Int
def wordsT (ws : List Bs) : Bs := ws.flatMap fun w => w ++ [32]
def rowOf (ws : List Bs) : Bs := 32 :: wordsT ws
def hasP (row w : Bs) : Bool := !decide (w = []) && (!Lib.contains w [32] && Lib.contains row ([32] ++ w ++ [32]))
theorem occ_iff (s sub : Bs) (i : Nat) : Lib.occAt s sub i = true ↔ ∃ b, s.drop i = sub ++ b := by
  unfold Lib.occAt
  rw [List.isPrefixOf_iff_prefix]
  exact ⟨fun ⟨b, e⟩ => ⟨b, e.symm⟩, fun ⟨b, e⟩ => ⟨b, e.symm⟩⟩
theorem contains_iff (s sub : Bs) : Lib.contains s sub = true ↔ ∃ a b, s = a ++ sub ++ b := by
  unfold Lib.contains
  rcases Lib.index_spec s sub with ⟨h1, h2⟩ | ⟨i, h1, h2, h3, _⟩
  · rw [h1]
    refine ⟨fun h => (by cases h), fun ⟨a, b, e⟩ => ?_⟩
    have := h2 a.length (by rw [e]; simp)
    have h3 : Lib.occAt s sub a.length = true := (occ_iff _ _ _).2 ⟨b, by rw [e, List.append_assoc, List.drop_left]⟩
    rw [this] at h3; cases h3
  · rw [h1]
    refine ⟨fun _ => ?_, fun _ => by simp⟩
    obtain ⟨b, e⟩ := (occ_iff _ _ _).1 h3
    exact ⟨s.take i, b, by rw [List.append_assoc, <- e, List.take_append_drop]⟩
theorem contains_one (s : Bs) (c : UInt8) : Lib.contains s [c] = decide (c ∈ s) := by
  rw [Bool.eq_iff_iff, contains_iff, decide_eq_true_eq]
  refine ⟨fun ⟨a, b, e⟩ => by rw [e]; simp, fun h => ?_⟩
  obtain ⟨a, b, e⟩ := List.append_of_mem h
  exact ⟨a, b, by rw [e]; simp⟩
theorem cutW_eq : ∀ {v w r t : Bs}, 32 ∉ v -> 32 ∉ w -> v ++ 32 :: r = w ++ 32 :: t -> v = w /\ r = t
  | [], [], r, t, _, _, e => by simpa using e
  | [], c :: w, r, t, _, hw, e => by
    simp at e; exact absurd e.1 (fun h => hw (by simp [h]))
  | c :: v, [], r, t, hv, _, e => by
    simp at e; exact absurd e.1 (fun h => hv (by simp [h]))
  | c :: v, d :: w, r, t, hv, hw, e => by
    simp at e
    obtain ⟨h1, h2⟩ := cutW_eq (v := v) (w := w) (fun h => hv (by simp [h])) (fun h => hw (by simp [h])) e.2
    exact ⟨by rw [e.1, h1], h2⟩
theorem cut_split : ∀ {v a r t : Bs}, 32 ∉ v -> v ++ 32 :: r = a ++ 32 :: t -> a = v /\ r = t ∨ ∃ a', a = v ++ a' /\ 32 :: r = a' ++ 32 :: t
  | [], a, r, t, _, e => .inr ⟨a, rfl, e⟩
  | c :: v, [], r, t, hv, e => by
    simp at e; exact absurd e.1 (fun h => hv (by simp [h]))
  | c :: v, d :: a, r, t, hv, e => by
    simp at e
    rcases cut_split (v := v) (a := a) (fun h => hv (by simp [h])) e.2 with ⟨h1, h2⟩ | ⟨a', h1, h2⟩
    · exact .inl ⟨by rw [e.1, h1], h2⟩
    · exact .inr ⟨a', by rw [e.1, h1]; rfl, h2⟩
theorem row_word {w : Bs} (hw0 : w ≠ []) (hw : 32 ∉ w) : ∀ {ws : List Bs} {a b : Bs}, (∀ v ∈ ws, 32 ∉ v) -> rowOf ws = a ++ ([32] ++ w ++ [32]) ++ b -> w ∈ ws
  | [], a, b, _, e => by
    have := congrArg List.length e
    have h1 : 0 < w.length := List.length_pos_iff.2 hw0
    simp [rowOf, wordsT] at this; omega
  | v :: ws, a, b, hv, e => by
    have hv0 := hv v (by simp)
    have e2 : rowOf (v :: ws) = 32 :: (v ++ rowOf ws) := by simp [rowOf, wordsT]
    rw [e2] at e
    cases a with
    | nil =>
      have e3 : v ++ 32 :: wordsT ws = w ++ 32 :: b := by simpa [rowOf] using e
      rw [(cutW_eq hv0 hw e3).1]; simp
    | cons c a =>
      have e3 : v ++ 32 :: wordsT ws = a ++ 32 :: (w ++ 32 :: b) := by
        simp [rowOf] at e
        rw [e.2]
      rcases cut_split hv0 e3 with ⟨h1, h2⟩ | ⟨a', h1, h2⟩
      · -- the blank ahead of w is the one behind v
        have h3 : rowOf ws = [] ++ ([32] ++ w ++ [32]) ++ b := by simp [rowOf, h2]
        exact List.mem_cons_of_mem _ (row_word hw0 hw (fun x hx => hv x (by simp [hx])) h3)
      · have h3 : rowOf ws = a' ++ ([32] ++ w ++ [32]) ++ b := by simp [rowOf, h2]
        exact List.mem_cons_of_mem _ (row_word hw0 hw (fun x hx => hv x (by simp [hx])) h3)
theorem word_row {w : Bs} : ∀ {ws : List Bs}, w ∈ ws -> ∃ a b, rowOf ws = a ++ ([32] ++ w ++ [32]) ++ b
  | v :: ws, h => by
    have e2 : rowOf (v :: ws) = 32 :: (v ++ rowOf ws) := by simp [rowOf, wordsT]
    rcases List.mem_cons.1 h with rfl | h
    · exact ⟨[], wordsT ws, by rw [e2]; simp [rowOf]⟩
    · obtain ⟨a, b, e⟩ := word_row h
      exact ⟨32 :: (v ++ a), b, by rw [e2, e]; simp⟩
def plainW (ws : List Bs) : Bool := ws.all fun w => !w.isEmpty && !(w.elem 32)
theorem has_row {ws : List Bs} (hp : plainW ws = true) (w : Bs) : hasP (rowOf ws) w = decide (w ∈ ws) := by
  have hws : ∀ v ∈ ws, v ≠ [] /\ 32 ∉ v := fun v hv => by
    have := List.all_eq_true.1 hp v hv
    simp only [Bool.and_eq_true, Bool.not_eq_true', List.isEmpty_eq_false_iff, List.elem_eq_mem, decide_eq_false_iff_not] at this
    exact this
  unfold hasP
  rw [contains_one]
  by_cases hw0 : w = []
  · rw [decide_eq_true hw0, decide_eq_false (fun hm => (hws w hm).1 hw0)]; rfl
  · by_cases hb : 32 ∈ w
    · rw [decide_eq_true hb, decide_eq_false (fun hm => (hws w hm).2 hb)]; simp
    · rw [decide_eq_false hw0, decide_eq_false hb]
      simp only [Bool.not_false, Bool.true_and]
      rw [Bool.eq_iff_iff, contains_iff, decide_eq_true_eq]
      exact ⟨fun ⟨a, b, e⟩ => row_word hw0 hb (fun v hv => (hws v hv).2) e, word_row⟩
def wHTML : List Bs := [[97, 100, 100, 114, 101, 115, 115], [97, 112, 112, 108, 101, 116], [97, 114, 101, 97], [97, 114, 116, 105, 99, 108, 101], [97, 115, 105, 100, 101], [98, 97, 115, 101], [98, 97, 115, 101, 102, 111, 110, 116], [98, 103, 115, 111, 117, 110, 100], [98, 108, 111, 99, 107, 113, 117, 111, 116, 101], [98, 111, 100, 121], [98, 114], [98, 117, 116, 116, 111, 110], [99, 97, 112, 116, 105, 111, 110], [99, 101, 110, 116, 101, 114], [99, 111, 108], [99, 111, 108, 103, 114, 111, 117, 112], [100, 100], [100, 101, 116, 97, 105, 108, 115], [100, 105, 97, 108, 111, 103], [100, 105, 114], [100, 105, 118], [100, 108], [100, 116], [101, 109, 98, 101, 100], [102, 105, 101, 108, 100, 115, 101, 116], [102, 105, 103, 99, 97, 112, 116, 105, 111, 110], [102, 105, 103, 117, 114, 101], [102, 111, 111, 116, 101, 114], [102, 111, 114, 109], [102, 114, 97, 109, 101], [102, 114, 97, 109, 101, 115, 101, 116], [104, 49], [104, 50], [104, 51], [104, 52], [104, 53], [104, 54], [104, 101, 97, 100], [104, 101, 97, 100, 101, 114], [104, 103, 114, 111, 117, 112], [104, 114], [104, 116, 109, 108], [105, 102, 114, 97, 109, 101], [105, 109, 103], [105, 110, 112, 117, 116], [107, 101, 121, 103, 101, 110], [108, 105], [108, 105, 110, 107], [108, 105, 115, 116, 105, 110, 103], [109, 97, 105, 110], [109, 97, 114, 113, 117, 101, 101], [109, 101, 110, 117], [109, 101, 116, 97], [110, 97, 118], [110, 111, 101, 109, 98, 101, 100], [110, 111, 102, 114, 97, 109, 101, 115], [110, 111, 115, 99, 114, 105, 112, 116], [111, 98, 106, 101, 99, 116], [111, 108], [112], [112, 97, 114, 97, 109], [112, 108, 97, 105, 110, 116, 101, 120, 116], [112, 114, 101], [115, 99, 114, 105, 112, 116], [115, 101, 97, 114, 99, 104], [115, 101, 99, 116, 105, 111, 110], [115, 101, 108, 101, 99, 116], [115, 111, 117, 114, 99, 101], [115, 116, 121, 108, 101], [115, 117, 109, 109, 97, 114, 121], [116, 97, 98, 108, 101], [116, 98, 111, 100, 121], [116, 100], [116, 101, 109, 112, 108, 97, 116, 101], [116, 101, 120, 116, 97, 114, 101, 97], [116, 102, 111, 111, 116], [116, 104], [116, 104, 101, 97, 100], [116, 105, 116, 108, 101], [116, 114], [116, 114, 97, 99, 107], [117, 108], [119, 98, 114], [120, 109, 112]]
theorem wHTML_ok : plainW wHTML = true := by decide +kernel
def wMath : List Bs := [[97, 110, 110, 111, 116, 97, 116, 105, 111, 110, 45, 120, 109, 108], [109, 105], [109, 110], [109, 111], [109, 115], [109, 116, 101, 120, 116]]
theorem wMath_ok : plainW wMath = true := by decide +kernel
def wSVG : List Bs := [[100, 101, 115, 99], [102, 111, 114, 101, 105, 103, 110, 79, 98, 106, 101, 99, 116], [116, 105, 116, 108, 101]]
theorem wSVG_ok : plainW wSVG = true := by decide +kernel
def wFmt : List Bs := [[97], [98], [98, 105, 103], [99, 111, 100, 101], [101, 109], [102, 111, 110, 116], [105], [110, 111, 98, 114], [115], [115, 109, 97, 108, 108], [115, 116, 114, 105, 107, 101], [115, 116, 114, 111, 110, 103], [116, 116], [117]]
theorem wFmt_ok : plainW wFmt = true := by decide +kernel
def wBnd : List Bs := [[97, 112, 112, 108, 101, 116], [99, 97, 112, 116, 105, 111, 110], [104, 116, 109, 108], [109, 97, 114, 113, 117, 101, 101], [111, 98, 106, 101, 99, 116], [116, 97, 98, 108, 101], [116, 100], [116, 101, 109, 112, 108, 97, 116, 101], [116, 104]]
theorem wBnd_ok : plainW wBnd = true := by decide +kernel
def wImp : List Bs := [[100, 100], [100, 116], [108, 105], [111, 112, 116, 103, 114, 111, 117, 112], [111, 112, 116, 105, 111, 110], [112], [114, 98], [114, 112], [114, 116], [114, 116, 99]]
theorem wImp_ok : plainW wImp = true := by decide +kernel
def inNames (ns : List Bs) (s : Bs) : Bool := decide (s ∈ ns)
def specialP (sp : Int) (s : Bs) : Bool := if sp = 0 then inNames wHTML s else if sp = 2 then inNames wMath s else if sp = 1 then inNames wSVG s else false
def formattingP (s : Bs) : Bool := inNames wFmt s
def oneP (x : OpenP) (ns : List Bs) : Bool := decide (x.2.1 = 0) && inNames ns x.2.2.1
def wTable : List Bs := [[104, 116, 109, 108], [116, 97, 98, 108, 101], [116, 101, 109, 112, 108, 97, 116, 101]]
def wList : List Bs := [[111, 108], [117, 108]]
def wButton : List Bs := [[98, 117, 116, 116, 111, 110]]
def wStop : List Bs := [[97, 100, 100, 114, 101, 115, 115], [100, 105, 118], [112]]
def boundsP (x : OpenP) (sc : Int) : Bool :=
  if sc = 3 then oneP x wTable else if x.2.1 ≠ 0 then specialP x.2.1 x.2.2.1
  else inNames wBnd x.2.2.1 || (decide (sc = 1) && inNames wList x.2.2.1) || (decide (sc = 2) && inNames wButton x.2.2.1)
def scanTo {R : Type} (f : Nat -> OpenP -> Option R) (d : R) (l : List OpenP) : Nat -> R
  | 0 => d
  | i + 1 => match f i (l.getD i (0, 0, [], 0)) with
    | some r => r
    | none => scanTo f d l i
def scan {R : Type} (f : Nat -> OpenP -> Option R) (d : R) (l : List OpenP) : R := scanTo f d l l.length
def inF (sc : Int) (ns : List Bs) (_ : Nat) (x : OpenP) : Option Bool := if oneP x ns then some true else if boundsP x sc then some false else none
def impliedF (ex : Bs) (i : Nat) (x : OpenP) : Option Int := if x.2.1 ≠ 0 ∨ x.2.2.1 = ex ∨ inNames wImp x.2.2.1 = false then some ((i : Int) + 1) else none
def untilF (ns : List Bs) (i : Nat) (x : OpenP) : Option Int := if oneP x ns then some (i : Int) else none
def itemF (ns : List Bs) (i : Nat) (x : OpenP) : Option Int := if oneP x ns then some (i : Int) else if specialP x.2.1 x.2.2.1 && !oneP x wStop then some (-1) else none
def inP (l : List OpenP) (sc : Int) (ns : List Bs) : Bool := scan (inF sc ns) false l
def impliedP (l : List OpenP) (ex : Bs) : Int := scan (impliedF ex) 0 l
def untilP (l : List OpenP) (ns : List Bs) : Int := scan (untilF ns) (-1) l
def itemP (l : List OpenP) (ns : List Bs) : Int := scan (itemF ns) (-1) l
end Go.Proofs
