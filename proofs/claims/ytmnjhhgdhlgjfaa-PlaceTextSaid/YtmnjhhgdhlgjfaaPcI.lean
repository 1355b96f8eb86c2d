/- place: the text that stands in a tree, in order; what is written at its end. Plain. -/
import Derived.Test.YtmnjhhgdhlgjfaaPcH
namespace Go.Proofs
open Go Go.Sh
set_option linter.unusedVariables false
set_option maxRecDepth 100000
def ownT (ns : List NodeM) (k : Int) : Bs :=
  match ns[k.toNat]? with
  | some z => if z.kind = 2 then z.text else []
  | none => []
def txI : Nat → List NodeM → Int → Bs
  | 0, _, _ => []
  | d + 1, ns, id => (kidsI ns id).flatMap fun k => ownT ns k ++ txI d ns k
def textV : Nat → List NodeV → Bs
  | 0, _ => []
  | d + 1, l => l.flatMap fun x => (if x.kind = 2 then x.text else []) ++ textV d x.kids
theorem flatMap_congrL {α β : Type} {l : List α} {f g : α → List β} (h : ∀ x ∈ l, f x = g x) : l.flatMap f = l.flatMap g := by
  induction l with
  | nil => rfl
  | cons a l ih => rw [List.flatMap_cons, List.flatMap_cons, h a (by simp), ih fun x hx => h x (by simp [hx])]
theorem textV_nil : ∀ d, textV d [] = []
  | 0 => rfl
  | d + 1 => rfl
theorem txI_none {ns : List NodeM} {k : Int} (h : kidsI ns k = []) : ∀ d, txI d ns k = []
  | 0 => rfl
  | d + 1 => by show (kidsI ns k).flatMap _ = []; rw [h]; rfl
theorem textV_whole : ∀ (d : Nat) (ns : List NodeM) (id : Int), (∀ k ∈ kidsI ns id, 0 ≤ k) → (∀ (i : Nat) (x : NodeM), ns[i]? = some x → ∀ k ∈ x.kids, (0 : Int) ≤ k) → textV d (wholeL d ns id) = txI d ns id
  | 0, _, _, _, _ => rfl
  | d + 1, ns, id, h0, hn => by
    show ((kidsI ns id).map fun k => nodeVI ns k (wholeL d ns k)).flatMap _ = (kidsI ns id).flatMap _
    rw [List.flatMap_map]
    refine flatMap_congrL fun k hk => ?_
    have hk0 := h0 k hk
    unfold nodeVI ownT
    cases hz : ns[k.toNat]? with
    | none =>
      have hki : kidsI ns k = [] := by unfold kidsI; rw [if_pos hk0, hz]; rfl
      rw [txI_none hki]
      show [] ++ textV d [] = _
      rw [textV_nil]
    | some z =>
      have hki : kidsI ns k = z.kids := by unfold kidsI; rw [if_pos hk0, hz]; rfl
      show (if z.kind = 2 then z.text else []) ++ textV d (wholeL d ns k) = _
      rw [textV_whole d ns k (fun k' hk' => by rw [hki] at hk'; exact hn _ z hz k' hk') hn]
/-! ### the way up -/
theorem inC_lin {ns : List NodeM} : ∀ (f : Nat) {id a b : Int}, a ∈ chainP ns f id → InC ns id b → InC ns a b ∨ InC ns b a
  | 0, _, _, _, h, _ => by cases h
  | f + 1, id, a, b, h, hb => by
    unfold chainP at h
    by_cases h0 : 0 ≤ id
    · rw [if_pos h0] at h
      obtain ⟨j, rfl⟩ := Int.eq_ofNat_of_zero_le h0
      rcases List.mem_cons.1 h with rfl | h
      · exact .inl hb
      · rcases inC_step.1 hb with rfl | hb
        · exact .inr (inC_step.2 (.inr ⟨f, h⟩))
        · exact inC_lin f h hb
    · rw [if_neg h0] at h; cases h
theorem inC_rank {ns : List NodeM} (G : GoodT ns) {rk : Nat → Nat} (hr : ∀ (i p : Nat) x, ns[i]? = some x → x.parent = (p : Int) → rk p < rk i) : ∀ (f : Nat) {i q : Nat}, (q : Int) ∈ chainP ns f (i : Int) → rk q ≤ rk i
  | 0, _, _, h => by cases h
  | f + 1, i, q, h => by
    unfold chainP at h
    rw [if_pos (by omega)] at h
    rcases List.mem_cons.1 h with h | h
    · have : q = i := by omega
      rw [this]; exact Nat.le_refl _
    · cases hx : ns[i]? with
      | none =>
        have : parI ns (i : Int) = -1 := by unfold parI; rw [Int.toNat_natCast, hx]; rfl
        rw [this, chain_neg (by decide)] at h; cases h
      | some x =>
        rw [parI_some hx] at h
        rcases G.par i x hx with hp | hp
        · rw [hp, chain_neg (by decide)] at h; cases h
        · obtain ⟨p, e⟩ := Int.eq_ofNat_of_zero_le hp.1
          rw [e] at h
          exact Nat.le_trans (inC_rank G hr f h) (Nat.le_of_lt (hr i p x hx e))
/-- kids of one node, one above another -/
theorem kid_one {ns : List NodeM} (G : GoodT ns) {p : Int} {q j j2 : Nat} {y y2 : NodeM} (hy : ns[j]? = some y) (hy2 : ns[j2]? = some y2) (h1 : y.parent = (q : Int)) (h2 : y2.parent = (q : Int)) (i1 : InC ns p (j : Int)) (i2 : InC ns p (j2 : Int)) : j = j2 := by
  obtain ⟨rk, hr⟩ := G.rank
  have key : ∀ {a b : Nat} {ya yb : NodeM}, ns[a]? = some ya → ns[b]? = some yb → ya.parent = (q : Int) → yb.parent = (q : Int) → InC ns (a : Int) (b : Int) → a = b := by
    intro a b ya yb ha hb pa pb hi
    rcases inC_step.1 hi with e | ⟨f, hf⟩
    · omega
    · rw [parI_some ha, pa] at hf
      have h3 := inC_rank G hr f hf
      have h4 := hr b q yb hb pb
      omega
  obtain ⟨f, hf⟩ := i1
  rcases inC_lin f hf i2 with h | h
  · exact key hy hy2 h1 h2 h
  · exact (key hy2 hy h2 h1 h).symm
theorem kid_par {ns : List NodeM} (G : GoodT ns) {q : Nat} {k : Int} (h : k ∈ kidsI ns (q : Int)) : ∃ (j : Nat) (y : NodeM), k = (j : Int) ∧ ns[j]? = some y ∧ y.parent = (q : Int) := by
  cases hx : ns[q]? with
  | none =>
    have : kidsI ns (q : Int) = [] := by unfold kidsI; rw [if_pos (by omega), Int.toNat_natCast, hx]; rfl
    rw [this] at h; cases h
  | some x =>
    rw [kidsI_some hx] at h
    exact (G.kid q x k hx).1 h
/-- above a kid stands its parent -/
theorem inC_up {ns : List NodeM} {k : Nat} {y : NodeM} {j : Nat} : ∀ (f : Nat) {i : Int}, (j : Int) ∈ chainP ns f i → ns[j]? = some y → y.parent = (k : Int) → InC ns i (k : Int)
  | 0, _, h, _, _ => by cases h
  | f + 1, i, h, hy, hp => by
    unfold chainP at h
    by_cases h0 : 0 ≤ i
    · rw [if_pos h0] at h
      obtain ⟨m, rfl⟩ := Int.eq_ofNat_of_zero_le h0
      refine inC_step.2 (.inr ?_)
      rcases List.mem_cons.1 h with e | h
      · have e : j = m := by
          have e : (j : Int) = (m : Int) := e
          omega
        subst e
        rw [parI_some hy, hp]
        exact inC_step.2 (.inl rfl)
      · exact inC_up f h hy hp
    · rw [if_neg h0] at h; cases h
/-! ### something at the end of a node -/
structure AtEnd (ns ns' : List NodeM) (p : Nat) (tx : Bs) : Prop where
  kids : ∀ k : Nat, k < ns.length → k ≠ p → kidsI ns' (k : Int) = kidsI ns (k : Int)
  own : ∀ (k : Nat) z, ns[k]? = some z → z.parent ≠ (p : Int) → ownT ns' (k : Int) = ownT ns (k : Int)
  here : ∀ d, txI (d + 1) ns' (p : Int) = txI (d + 1) ns (p : Int) ++ tx
theorem asideT {ns ns' : List NodeM} {p : Nat} (Ek : ∀ k : Nat, k < ns.length → k ≠ p → kidsI ns' (k : Int) = kidsI ns (k : Int)) (Eo : ∀ (k : Nat) z, ns[k]? = some z → z.parent ≠ (p : Int) → ownT ns' (k : Int) = ownT ns (k : Int)) (G : GoodT ns) : ∀ (d : Nat) (k : Nat), k < ns.length → ¬ InC ns (p : Int) (k : Int) → txI d ns' (k : Int) = txI d ns (k : Int)
  | 0, _, _, _ => rfl
  | d + 1, k, hk, hno => by
    have hkp : k ≠ p := fun e => hno (inC_step.2 (.inl (by rw [e])))
    show (kidsI ns' (k : Int)).flatMap _ = (kidsI ns (k : Int)).flatMap _
    rw [Ek k hk hkp]
    refine flatMap_congrL fun j hj => ?_
    obtain ⟨j, y, rfl, hy, hpy⟩ := kid_par G hj
    have hpar : y.parent ≠ (p : Int) := by rw [hpy]; omega
    rw [Eo j y hy hpar, asideT Ek Eo G d j (getI hy) fun hi => hno ?_]
    obtain ⟨f, hf⟩ := hi
    exact inC_up f hf hy hpy
theorem AtEnd.aside {ns ns' : List NodeM} {p : Nat} {tx : Bs} (E : AtEnd ns ns' p tx) (G : GoodT ns) (d : Nat) (k : Nat) (hk : k < ns.length) (h : ¬ InC ns (p : Int) (k : Int)) : txI d ns' (k : Int) = txI d ns (k : Int) := asideT E.kids E.own G d k hk h
/-- a kid does not stand above its parent -/
theorem kid_not {ns : List NodeM} (G : GoodT ns) {p j : Nat} {y : NodeM} (hy : ns[j]? = some y) (hp : y.parent = (p : Int)) : ¬ InC ns (p : Int) (j : Int) := fun ⟨f, hf⟩ => by
  obtain ⟨rk, hr⟩ := G.rank
  have := inC_rank G hr f hf
  have := hr j p y hy hp
  omega
/-- a way down, each the last kid -/
def PathL (ns : List NodeM) : List Int → Prop
  | [] => True
  | [_] => True
  | q :: r :: t => (kidsI ns q).getLast? = some r ∧ PathL ns (r :: t)
theorem AtEnd.path {ns ns' : List NodeM} {p : Nat} {tx : Bs} (E : AtEnd ns ns' p tx) (G : GoodT ns) : ∀ (l : List Int) (q : Nat), q < ns.length → PathL ns ((q : Int) :: l) → ((q : Int) :: l).getLast? = some (p : Int) →
    (∀ d, l.length + 1 ≤ d → txI d ns' (q : Int) = txI d ns (q : Int) ++ tx) ∧ InC ns (p : Int) (q : Int)
  | [], q, hq, _, hl => by
    have hl : (q : Int) = (p : Int) := by simpa using hl
    have e : q = p := by omega
    subst e
    refine ⟨fun d hd => ?_, inC_step.2 (.inl rfl)⟩
    obtain ⟨d', rfl⟩ : ∃ d', d = d' + 1 := ⟨d - 1, by simp at hd; omega⟩
    exact E.here d'
  | r :: t, q, hq, hP, hl => by
    obtain ⟨h1, h2⟩ := hP
    have hmem : r ∈ kidsI ns (q : Int) := List.mem_of_getLast? h1
    obtain ⟨j, y, rfl, hy, hpy⟩ := kid_par G hmem
    obtain ⟨i1, i2⟩ := E.path G t j (getI hy) h2 (by simpa using hl)
    have hup : InC ns (p : Int) (q : Int) := by
      obtain ⟨f, hf⟩ := i2
      exact inC_up f hf hy hpy
    refine ⟨fun d hd => ?_, hup⟩
    obtain ⟨d', rfl⟩ : ∃ d', d = d' + 1 := ⟨d - 1, by simp at hd; omega⟩
    have hqp : q ≠ p := fun e => by
      subst e
      -- p stands above itself through its kid: no
      obtain ⟨rk, hr⟩ := G.rank
      obtain ⟨f, hf⟩ := i2
      have := inC_rank G hr f hf
      have := hr j q y hy hpy
      omega
    show (kidsI ns' (q : Int)).flatMap _ = (kidsI ns (q : Int)).flatMap _ ++ tx
    rw [E.kids q hq hqp]
    obtain ⟨init, hin⟩ : ∃ init, kidsI ns (q : Int) = init ++ [(j : Int)] := by
      obtain ⟨xs, x⟩ := List.eq_nil_or_concat (kidsI ns (q : Int)) |>.resolve_left (fun h => by rw [h] at hmem; cases hmem)
      obtain ⟨x, hx⟩ := x
      rw [List.concat_eq_append] at hx
      rw [hx, List.getLast?_concat] at h1
      cases h1
      exact ⟨xs, hx⟩
    have hnd : (kidsI ns (q : Int)).Nodup := by
      cases hx : ns[q]? with
      | none => have := List.getElem?_eq_none_iff.1 hx; omega
      | some x => rw [kidsI_some hx]; exact G.nodup q x hx
    rw [hin, List.flatMap_append, List.flatMap_append, List.append_assoc]
    congr 1
    · refine flatMap_congrL fun k hk => ?_
      have hkm : k ∈ kidsI ns (q : Int) := by rw [hin]; exact List.mem_append_left _ hk
      obtain ⟨j2, y2, rfl, hy2, hpy2⟩ := kid_par G hkm
      have hne : ¬ InC ns (p : Int) (j2 : Int) := fun hi => by
        have := kid_one G hy2 hy hpy2 hpy hi i2
        subst this
        rw [hin] at hnd
        exact absurd (List.nodup_append.1 hnd).2.2 (fun h => h (j2 : Int) hk (j2 : Int) (by simp) rfl)
      rw [E.own j2 y2 hy2 (by rw [hpy2]; omega), E.aside G d' j2 (getI hy2) hne]
    · simp only [List.flatMap_cons, List.flatMap_nil, List.append_nil]
      rw [E.own j y hy (by rw [hpy]; omega), i1 d' (by simp at hd; omega), List.append_assoc]
end Go.Proofs
