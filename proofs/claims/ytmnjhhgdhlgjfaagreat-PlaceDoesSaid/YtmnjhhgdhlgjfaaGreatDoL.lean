/- dom: nodes with all that stands in them, in memory. No condition. dom: Whole. No condition but that the tree is one. -/
import Derived.Test.YtmnjhhgdhlgjfaaGreatDoC
import Derived.Test.YtmnjhhgdhlgjfaaGreatDoI
namespace Go.Proofs
open Go Go.Sh
set_option linter.unusedVariables false
set_option maxRecDepth 100000
inductive NodeV where
  | mk (kind space : Int) (name : Bs) (attrs : List AttrP) (text : Bs) (kids : List NodeV)
def NodeV.kind : NodeV → Int | .mk k _ _ _ _ _ => k
def NodeV.space : NodeV → Int | .mk _ s _ _ _ _ => s
def NodeV.name : NodeV → Bs | .mk _ _ n _ _ _ => n
def NodeV.attrs : NodeV → List AttrP | .mk _ _ _ a _ _ => a
def NodeV.text : NodeV → Bs | .mk _ _ _ _ t _ => t
def NodeV.kids : NodeV → List NodeV | .mk _ _ _ _ _ k => k
abbrev nvCells (x : NodeV) (ab : Option Addr) (an ac : Nat) (kb : Option Addr) (kn kc : Nat) : List Value := [.int .u8 x.kind, .int .u8 x.space, S x.name, .slice ab an ac, S x.text, .slice kb kn kc]
/-- a node's cells, so deep -/
def nodeR : Nat → (Nat → Prop) → H → NodeV → List Value → Prop
  | 0, _, _, _, _ => False
  | d + 1, A, h, x, cs => ∃ ab an ac kb kn kc, cs = nvCells x ab an ac kb kn kc ∧ Row elAttr A h ab an ac x.attrs ∧ (ab = none → ac = 0) ∧
      (x.kids.length = kn ∧ kn ≤ kc ∧ kc ≤ maxLen ∧ ∀ (i : Nat) y, x.kids[i]? = some y → ∃ a, kb = some a ∧ A (a.add (i * 6)).block ∧ ∃ cs, nodeR d A h y cs ∧ ∀ (j : Nat) v, cs[j]? = some v → cell h ((a.add (i * 6)).add j) = some v) ∧
      (kb = none → kc = 0) ∧ Rng .u8 x.kind ∧ Rng .u8 x.space ∧ x.name.length ≤ maxLen ∧ x.text.length ≤ maxLen
theorem nodeR_len : ∀ {d : Nat} {A : Nat → Prop} {h : H} {x : NodeV} {cs : List Value}, nodeR d A h x cs → cs.length = 6
  | 0, _, _, _, _, h => h.elim
  | d + 1, _, _, _, _, ⟨ab, an, ac, kb, kn, kc, e, _⟩ => by rw [e]; rfl
theorem nodeR_keep : ∀ {d : Nat} {A A' : Nat → Prop} {h h' : H} {x : NodeV} {cs : List Value}, nodeR d A h x cs → Keep (fun k => A k ∧ k < h.size) h h' → (∀ k, A k → k < h.size → A' k) → nodeR d A' h' x cs
  | 0, _, _, _, _, _, _, h, _, _ => h.elim
  | d + 1, A, A', h, h', x, cs, ⟨ab, an, ac, kb, kn, kc, e, ra, hz, ⟨h1, h2, h3, h4⟩, hz2, r1, r2, r3, r4⟩, k, hb =>
    ⟨ab, an, ac, kb, kn, kc, e, ra.keep k hb, hz, ⟨h1, h2, h3, fun i y hy => by
      obtain ⟨a, ea, hA, cs', hR, hc⟩ := h4 i y hy
      have hl := nodeR_len hR
      have hlt : (a.add (i * 6)).block < h.size := by
        have := cell_lt (hc 0 _ (List.getElem?_eq_getElem (by omega)))
        rwa [add_block] at this
      exact ⟨a, ea, hb _ hA hlt, cs', nodeR_keep hR k hb, fun j v hv => k.cell (by rw [add_block]; exact ⟨hA, hlt⟩) (hc j v hv)⟩⟩, hz2, r1, r2, r3, r4⟩
def elNode (d : Nat) : El NodeV where
  sz := 6
  R := nodeR d
  len := fun _ _ _ _ h => nodeR_len h
  one := fun _ _ _ _ h v hv => by
    cases d with
    | zero => exact h.elim
    | succ d =>
      obtain ⟨ab, an, ac, kb, kn, kc, e, _⟩ := h
      rw [e] at hv
      simp only [nvCells, List.mem_cons, List.not_mem_nil, or_false] at hv
      rcases hv with rfl | rfl | rfl | rfl | rfl | rfl <;> rfl
  keep := fun _ _ _ _ _ _ h k hb => nodeR_keep h k hb
  pos := by decide
theorem nodeR_mk {d : Nat} {A : Nat → Prop} {h : H} {x : NodeV} {ab kb : Option Addr} {an ac kn kc : Nat} (ra : Row elAttr A h ab an ac x.attrs) (hz : ab = none → ac = 0) (rk : Row (elNode d) A h kb kn kc x.kids) (hz2 : kb = none → kc = 0)
    (r1 : Rng .u8 x.kind) (r2 : Rng .u8 x.space) (r3 : x.name.length ≤ maxLen) (r4 : x.text.length ≤ maxLen) : nodeR (d + 1) A h x (nvCells x ab an ac kb kn kc) :=
  ⟨ab, an, ac, kb, kn, kc, rfl, ra, hz, ⟨rk.len, rk.cap, rk.max, fun i y hy => by
    obtain ⟨a, e, hA, cs, hR, hc⟩ := rk.at' i y hy
    exact ⟨a, e, hA, cs, hR, hc⟩⟩, hz2, r1, r2, r3, r4⟩
theorem nodeR_inv {d : Nat} {A : Nat → Prop} {h : H} {x : NodeV} {cs : List Value} (hR : nodeR (d + 1) A h x cs) : ∃ ab an ac kb kn kc, cs = nvCells x ab an ac kb kn kc ∧ Row elAttr A h ab an ac x.attrs ∧ (ab = none → ac = 0) ∧ Row (elNode d) A h kb kn kc x.kids ∧ (kb = none → kc = 0) ∧ Rng .u8 x.kind ∧ Rng .u8 x.space ∧ x.name.length ≤ maxLen ∧ x.text.length ≤ maxLen := by
  obtain ⟨ab, an, ac, kb, kn, kc, e, ra, hz, ⟨h1, h2, h3, h4⟩, hz2, r1, r2, r3, r4⟩ := hR
  exact ⟨ab, an, ac, kb, kn, kc, e, ra, hz, ⟨h1, h2, h3, fun i y hy => by
    obtain ⟨a, e, hA, cs, hR, hc⟩ := h4 i y hy
    exact ⟨a, e, hA, cs, hR, hc⟩⟩, hz2, r1, r2, r3, r4⟩
theorem nodeR_up {d : Nat} : ∀ {A : Nat → Prop} {h : H} {x : NodeV} {cs : List Value}, nodeR d A h x cs → nodeR (d + 1) A h x cs := by
  induction d with
  | zero => intro A h x cs hR; exact hR.elim
  | succ d ih =>
    intro A h x cs ⟨ab, an, ac, kb, kn, kc, e, ra, hz, ⟨h1, h2, h3, h4⟩, r⟩
    exact ⟨ab, an, ac, kb, kn, kc, e, ra, hz, ⟨h1, h2, h3, fun i y hy => by
      obtain ⟨a, e, hA, cs, hR, hc⟩ := h4 i y hy
      exact ⟨a, e, hA, cs, ih hR, hc⟩⟩, r⟩
/-- a node at an address -/
theorem ldNode {d : Nat} {A : Nat → Prop} {h : H} {a : Addr} {x : NodeV} {K : Int → Int → Bs → Option Addr → Nat → Nat → Bs → Option Addr → Nat → Nat → Prop} (hA : At (elNode (d + 1)) A h a x)
    (hk : ∀ ab an ac kb kn kc, Row elAttr A h ab an ac x.attrs → (ab = none → ac = 0) → Row (elNode d) A h kb kn kc x.kids → (kb = none → kc = 0) → Rng .u8 x.kind → Rng .u8 x.space → x.name.length ≤ maxLen → x.text.length ≤ maxLen → K x.kind x.space x.name ab an ac x.text kb kn kc) :
    ∃ i, cell h (a.add 0) = some (.int .u8 i) ∧ ∃ j, cell h (a.add 1) = some (.int .u8 j) ∧ ∃ s, cell h (a.add 2) = some (S s) ∧ ∃ ab an ac, cell h (a.add 3) = some (.slice ab an ac) ∧ ∃ tx, cell h (a.add 4) = some (S tx) ∧ ∃ kb kn kc, cell h (a.add 5) = some (.slice kb kn kc) ∧ K i j s ab an ac tx kb kn kc := by
  obtain ⟨_, cs, hR, hc⟩ := hA
  obtain ⟨ab, an, ac, kb, kn, kc, rfl, ra, hz, rk, hz2, r1, r2, r3, r4⟩ := nodeR_inv hR
  exact ⟨_, hc 0 _ rfl, _, hc 1 _ rfl, _, hc 2 _ rfl, _, _, _, hc 3 _ rfl, _, hc 4 _ rfl, _, _, _, hc 5 _ rfl, hk ab an ac kb kn kc ra hz rk hz2 r1 r2 r3 r4⟩
theorem apdNode (d : Nat) : Apd Tryz.prog (elNode d) 54 57 88 := apd_of (sz := 6) (by kernel_rfl) rfl
/-! ### nodes that may be written over: what their rows lie in is not frozen -/
def thawB (A : Nat → Prop) (h : H) (b : Option Addr) (n : Nat) : Prop := n = 0 ∨ ∃ q, b = some q ∧ A q.block ∧ ∃ c e, h[q.block]? = some (.cells c e (0, 0))
theorem thawB.keep {A A' : Nat → Prop} {h h' : H} {b : Option Addr} {n : Nat} (t : thawB A h b n) (k : Keep (fun k => A k ∧ k < h.size) h h') (hb : ∀ k, A k → k < h.size → A' k) : thawB A' h' b n := by
  rcases t with h0 | ⟨q, e, hA, c, f, hg⟩
  · exact Or.inl h0
  · have hlt := (Array.getElem?_eq_some_iff.1 hg).1
    exact Or.inr ⟨q, e, hb _ hA hlt, c, f, k.2 _ ⟨hA, hlt⟩ _ hg rfl⟩
theorem thaw_own {h : H} {base e sz n c : Nat} {b : Option Addr} {xs : List Value} {A : Nat → Prop} (o : Own h base e sz b n c xs) (hA : ∀ q, b = some q → A q.block) : thawB A h b n := by
  rcases o.is with h1 | ⟨g, cur, e1, _, hg, _⟩
  · exact Or.inl h1.1
  · exact Or.inr ⟨_, e1, hA _ e1, _, _, hg⟩
def nodeT : Nat → (Nat → Prop) → H → NodeV → List Value → Prop
  | 0, _, _, _, _ => False
  | d + 1, A, h, x, cs => ∃ ab an ac kb kn kc, cs = nvCells x ab an ac kb kn kc ∧ Row elAttr A h ab an ac x.attrs ∧ (ab = none → ac = 0) ∧
      (x.kids.length = kn ∧ kn ≤ kc ∧ kc ≤ maxLen ∧ ∀ (i : Nat) y, x.kids[i]? = some y → ∃ a, kb = some a ∧ A (a.add (i * 6)).block ∧ ∃ cs, nodeT d A h y cs ∧ ∀ (j : Nat) v, cs[j]? = some v → cell h ((a.add (i * 6)).add j) = some v) ∧
      (kb = none → kc = 0) ∧ Rng .u8 x.kind ∧ Rng .u8 x.space ∧ x.name.length ≤ maxLen ∧ x.text.length ≤ maxLen ∧ thawB A h ab an ∧ thawB A h kb kn
theorem nodeT_len : ∀ {d : Nat} {A : Nat → Prop} {h : H} {x : NodeV} {cs : List Value}, nodeT d A h x cs → cs.length = 6
  | 0, _, _, _, _, h => h.elim
  | d + 1, _, _, _, _, ⟨_, _, _, _, _, _, e, _⟩ => by rw [e]; rfl
theorem nodeT_keep : ∀ {d : Nat} {A A' : Nat → Prop} {h h' : H} {x : NodeV} {cs : List Value}, nodeT d A h x cs → Keep (fun k => A k ∧ k < h.size) h h' → (∀ k, A k → k < h.size → A' k) → nodeT d A' h' x cs
  | 0, _, _, _, _, _, _, h, _, _ => h.elim
  | d + 1, A, A', h, h', x, cs, ⟨ab, an, ac, kb, kn, kc, e, ra, hz, ⟨h1, h2, h3, h4⟩, hz2, r1, r2, r3, r4, t1, t2⟩, k, hb =>
    ⟨ab, an, ac, kb, kn, kc, e, ra.keep k hb, hz, ⟨h1, h2, h3, fun i y hy => by
      obtain ⟨a, ea, hA, cs', hR, hc⟩ := h4 i y hy
      have hl := nodeT_len hR
      have hlt : (a.add (i * 6)).block < h.size := by
        have := cell_lt (hc 0 _ (List.getElem?_eq_getElem (by omega)))
        rwa [add_block] at this
      exact ⟨a, ea, hb _ hA hlt, cs', nodeT_keep hR k hb, fun j v hv => k.cell (by rw [add_block]; exact ⟨hA, hlt⟩) (hc j v hv)⟩⟩, hz2, r1, r2, r3, r4, t1.keep k hb, t2.keep k hb⟩
def elNodeT (d : Nat) : El NodeV where
  sz := 6
  R := nodeT d
  len := fun _ _ _ _ h => nodeT_len h
  one := fun _ _ _ _ h v hv => by
    cases d with
    | zero => exact h.elim
    | succ d =>
      obtain ⟨ab, an, ac, kb, kn, kc, e, _⟩ := h
      rw [e] at hv
      simp only [nvCells, List.mem_cons, List.not_mem_nil, or_false] at hv
      rcases hv with rfl | rfl | rfl | rfl | rfl | rfl <;> rfl
  keep := fun _ _ _ _ _ _ h k hb => nodeT_keep h k hb
  pos := by decide
theorem nodeT_mk {d : Nat} {A : Nat → Prop} {h : H} {x : NodeV} {ab kb : Option Addr} {an ac kn kc : Nat} (ra : Row elAttr A h ab an ac x.attrs) (hz : ab = none → ac = 0) (rk : Row (elNodeT d) A h kb kn kc x.kids) (hz2 : kb = none → kc = 0)
    (r1 : Rng .u8 x.kind) (r2 : Rng .u8 x.space) (r3 : x.name.length ≤ maxLen) (r4 : x.text.length ≤ maxLen) (t1 : thawB A h ab an) (t2 : thawB A h kb kn) : nodeT (d + 1) A h x (nvCells x ab an ac kb kn kc) :=
  ⟨ab, an, ac, kb, kn, kc, rfl, ra, hz, ⟨rk.len, rk.cap, rk.max, fun i y hy => by
    obtain ⟨a, e, hA, cs, hR, hc⟩ := rk.at' i y hy
    exact ⟨a, e, hA, cs, hR, hc⟩⟩, hz2, r1, r2, r3, r4, t1, t2⟩
theorem nodeT_R : ∀ {d : Nat} {A : Nat → Prop} {h : H} {x : NodeV} {cs : List Value}, nodeT d A h x cs → nodeR d A h x cs
  | 0, _, _, _, _, h => h.elim
  | d + 1, _, _, _, _, ⟨ab, an, ac, kb, kn, kc, e, ra, hz, ⟨h1, h2, h3, h4⟩, hz2, r1, r2, r3, r4, _, _⟩ =>
    ⟨ab, an, ac, kb, kn, kc, e, ra, hz, ⟨h1, h2, h3, fun i y hy => by
      obtain ⟨a, ea, hA, cs', hR, hc⟩ := h4 i y hy
      exact ⟨a, ea, hA, cs', nodeT_R hR, hc⟩⟩, hz2, r1, r2, r3, r4⟩
theorem encT_R {d : Nat} {A : Nat → Prop} {h : H} : ∀ {l : List NodeV} {xs : List Value}, Enc (elNodeT d) A h l xs → Enc (elNode d) A h l xs
  | [], _, h => h
  | x :: l, _, ⟨cs, ys, e, hR, hE⟩ => ⟨cs, ys, e, nodeT_R hR, encT_R hE⟩
theorem apdNodeT (d : Nat) : Apd Tryz.prog (elNodeT d) 54 57 88 := apd_of (sz := 6) (by kernel_rfl) rfl
/-! ### rows made behind a place, that lead behind it -/
structure OwnR {α : Type} (E : El α) (h : H) (base e : Nat) (b : Option Addr) (n c : Nat) (l : List α) : Prop where
  own : OwnT E (fun k => base ≤ k ∧ But h b k) h base e b n c l
  lo : ∀ a, b = some a → base ≤ a.block
  hi : ∀ a, b = some a → a.block < h.size
  nil : b = none → c = 0
section
variable {α : Type} {E : El α}
theorem OwnR.none (h : H) (base e : Nat) : OwnR E h base e none 0 0 [] := ⟨OwnT.nil _ _ _ _ _, (fun _ e => by cases e), (fun _ e => by cases e), fun _ => rfl⟩
theorem OwnR.kw {h h' : H} {base e n c : Nat} {b : Option Addr} {l : List α} (o : OwnR E h base e b n c l) (k : Keep (fun k => base ≤ k) h h') : OwnR E h' base e b n c l :=
  ⟨o.own.keep (B := fun k => base ≤ k) k (fun _ h _ => h.1) (fun k' hk hks => ⟨hk.1, Nat.lt_of_lt_of_le hks k.1, hk.2.2⟩) fun _ _ h _ => h, o.lo, fun a e => Nat.lt_of_lt_of_le (o.hi a e) k.1, o.nil⟩
theorem OwnR.kb {h h' : H} {base e n c : Nat} {b : Option Addr} {l : List α} (o : OwnR E h base e b n c l) (k : KB h h') : OwnR E h' base e b n c l :=
  ⟨o.own.keep (B := Bel h.size) (KB.w k) (fun _ _ h => h) (fun k' hk hks => ⟨hk.1, Nat.lt_of_lt_of_le hks k.1, hk.2.2⟩) fun _ _ _ h => h, o.lo, fun a e => Nat.lt_of_lt_of_le (o.hi a e) k.1, o.nil⟩
theorem OwnR.lower {h : H} {base base' e n c : Nat} {b : Option Addr} {l : List α} (o : OwnR E h base e b n c l) (hb : base' ≤ base) : OwnR E h base' e b n c l :=
  ⟨(o.own.keep (B := fun _ => True) (Keep.refl _ _) (fun _ _ _ => trivial) (fun k hk _ => ⟨Nat.le_trans hb hk.1, hk.2⟩) fun _ _ _ _ => trivial).lower hb, fun a e => Nat.le_trans hb (o.lo a e), o.hi, o.nil⟩
theorem OwnR.row {h : H} {base e n c : Nat} {b : Option Addr} {l : List α} (o : OwnR E h base e b n c l) : Row E (fun k => base ≤ k ∧ k < h.size) h b n c l := o.own.row (fun _ h => ⟨h.1, h.2.1⟩) fun g _ h hb => ⟨hb, h⟩
theorem OwnR.weakT {d : Nat} {h : H} {base e n c : Nat} {b : Option Addr} {l : List NodeV} (o : OwnR (elNodeT d) h base e b n c l) : OwnR (elNode d) h base e b n c l := by
  obtain ⟨xs, h1, h2⟩ := o.own.own
  exact ⟨⟨o.own.len, xs, h1, encT_R h2⟩, o.lo, o.hi, o.nil⟩
theorem OwnR.append {t ty e by' : Nat} {P : Program} (ap : Apd P E t e by') {h : H} {sb rb : Option Addr} {n c m k base : Nat} {l l2 : List α} (o : OwnR E h base e sb n c l) (r : Row E (fun k => base ≤ k ∧ But h sb k) h rb m k l2)
    (h63 : n + m ≤ maxLen) (hb : (n + m) * by' ≤ 140737488355328) (hbase : base ≤ h.size) {K : Value → H → Prop}
    (hk : ∀ b' c' h', OwnR E h' base e b' (n + m) c' (l ++ l2) → Grow h h' sb → K (.slice b' (n + m) c') h') :
    SemH P (Builtin.append_ #[t, t] ty ⟨[.slice sb n c, .slice rb m k]⟩) h K := by
  refine OwnT.append ap o.own r h63 hb hbase (fun k hk _ => hk.2.2) fun b2 c2 h' o' hg hb h0 => hk b2 c2 h' ⟨?_, ?_, ?_, ?_⟩ hg
  · refine o'.keep (Keep.refl (fun _ => True) _) (fun _ _ _ => trivial) (fun k hk' hks => ⟨hk'.1, hks, fun x hx => ?_⟩) fun _ _ _ _ => trivial
    rcases hb with rfl | rfl
    · exact hk'.2.2 x hx
    · cases hx
      have := hk'.2.1
      show h.size ≠ k
      omega
  · intro x hx
    rcases hb with rfl | rfl
    · exact o.lo x hx
    · cases hx; exact hbase
  · intro x hx
    rcases hb with rfl | rfl
    · exact Nat.lt_of_lt_of_le (o.hi x hx) hg.size
    · obtain ⟨xs, ho, _⟩ := o'.own
      rcases ho.is with h1 | ⟨g, cur, e1, _, hgg, _⟩
      · have := h0 h1.1
        exact Nat.lt_of_lt_of_le (o.hi x (this.1 ▸ hx)) hg.size
      · rw [hx] at e1; cases e1; exact (Array.getElem?_eq_some_iff.1 hgg).1
  · intro hbn
    obtain ⟨xs, ho, _⟩ := o'.own
    rcases ho.is with h1 | ⟨g, cur, e1, _⟩
    · exact h1.2
    · rw [hbn] at e1; cases e1
theorem _root_.Go.Sh.OwnF.behind (hf : Flat E) {h : H} {base e n c : Nat} {b : Option Addr} {l : List α} (o : OwnF E h base e b n c l) {A : Nat → Prop} (hA : ∀ k, base ≤ k → k < h.size → A k) : Row E A h b n c l := by
  obtain ⟨xs, h1, h2⟩ := o.own.own
  by_cases hn : n = 0
  · subst hn
    have : l = [] := List.eq_nil_of_length_eq_zero o.own.len
    subst this
    exact ⟨rfl, h1.cap, h1.max, fun i x hx => by simp at hx⟩
  · exact Row.of (Enc.flat hf h2) h1.cells o.own.len h1.cap h1.max fun q e => hA _ (o.lo q e) (o.hi q e)
end
end Go.Proofs
namespace Go.Proofs
open Go Go.Sh
set_option linter.unusedVariables false
set_option maxRecDepth 100000
def kidsI (ns : List NodeM) (id : Int) : List Int := if 0 ≤ id then ((ns[id.toNat]?).map (·.kids)).getD [] else []
def nodeVI (ns : List NodeM) (k : Int) (kids : List NodeV) : NodeV :=
  match ns[k.toNat]? with
  | some z => .mk z.kind z.space z.name z.attrs z.text kids
  | none => .mk 0 0 [] [] [] []
def wholeL : Nat → List NodeM → Int → List NodeV
  | 0, _, _ => []
  | d + 1, ns, id => (kidsI ns id).map fun k => nodeVI ns k (wholeL d ns k)
def Deep : Nat → List NodeM → Int → Prop
  | 0, _, _ => False
  | d + 1, ns, id => ∀ k ∈ kidsI ns id, Deep d ns k
theorem Deep.up : ∀ {d : Nat} {ns : List NodeM} {id : Int}, Deep d ns id → Deep (d + 1) ns id
  | 0, _, _, h => h.elim
  | d + 1, _, _, h => fun k hk => (h k hk).up
theorem Deep.mono {d d' : Nat} {ns : List NodeM} {id : Int} (h : Deep d ns id) (hd : d ≤ d') : Deep d' ns id := by
  induction hd with
  | refl => exact h
  | step _ ih => exact ih.up
theorem kidsI_some {ns : List NodeM} {j : Nat} {z : NodeM} (h : ns[j]? = some z) : kidsI ns (j : Int) = z.kids := by
  unfold kidsI
  rw [if_pos (by omega), Int.toNat_natCast, h]; rfl
theorem bound_rk (rk : Nat → Nat) : ∀ n, ∃ M, ∀ i, i < n → rk i ≤ M
  | 0 => ⟨0, fun i h => by omega⟩
  | n + 1 => by
    obtain ⟨M, hM⟩ := bound_rk rk n
    refine ⟨M + rk n, fun i h => ?_⟩
    by_cases e : i = n
    · subst e; omega
    · have := hM i (by omega); omega
theorem GoodT.deep {ns : List NodeM} (G : GoodT ns) : ∃ D, ∀ d, D ≤ d → ∀ id : Int, Deep d ns id := by
  obtain ⟨rk, hr⟩ := G.rank
  obtain ⟨M, hM⟩ := bound_rk rk ns.length
  have key : ∀ f (j : Nat), j < ns.length → M < rk j + f → Deep f ns (j : Int) := by
    intro f
    induction f with
    | zero => intro j hj h; have := hM j hj; omega
    | succ f ih =>
      intro j hj h k hk
      have hz : ns[j]? = some ns[j] := List.getElem?_eq_getElem hj
      rw [kidsI_some hz] at hk
      obtain ⟨m, w, rfl, hw, hp⟩ := (G.kid j _ k hz).1 hk
      have := hr m j w hw hp
      exact ih m (getI hw) (by omega)
  refine ⟨M + 2, fun d hd id => ?_⟩
  have h1 : Deep (M + 2) ns id := by
    intro k hk
    unfold kidsI at hk
    split at hk
    · rename_i h0
      cases hz : ns[id.toNat]? with
      | none => rw [hz] at hk; cases hk
      | some z =>
        rw [hz] at hk
        have hk : k ∈ z.kids := hk
        obtain ⟨m, w, rfl, hw, hp⟩ := (G.kid id.toNat z k hz).1 hk
        exact key (M + 1) m (getI hw) (by omega)
    · cases hk
  exact h1.mono hd
section
variable {h : H} {K : Value → H → Prop} {col : Col} {s i p : Nat} {t a : Addr} {ads : List Addr} {ns : List NodeM} {x y : NodeM}
theorem wholeT_calls (G : GoodT ns) : ∀ (d : Nat) (id : Int) {h : H} {K : Value → H → Prop} (T : TreeP h col s t ads ns) (hd : Deep d ns id)
    (hk : ∀ h' b n c, KB h h' → OwnR (elNodeT d) h' h.size 57 b n c (wholeL d ns id) → K (.slice b n c) h'),
    HCalls Tryz.prog 24 ⟨[.pointer (some t), .int .i64 id]⟩ h K := by
  intro d
  induction d with
  | zero => intro id h K T hd; exact hd.elim
  | succ d ihd =>
    intro id h K T hd hk
    have hlen := T.len
    have hft := T.few
    refine Sx.dom_Tree_Whole.ok _ _ _ _ (at_calls T (fun hn => vPtrMk (ptrEq_k (by kernel_rfl) (vBool_mk (condT ?_)))) fun i a x e hx ha => vPtrMk (ptrEq_k (by kernel_rfl) (vBool_mk (condF ?_))))
    · have e : wholeL (d + 1) ns id = [] := by
        unfold wholeL kidsI
        by_cases h0 : 0 ≤ id
        · rw [if_pos h0, List.getElem?_eq_none (by omega)]; rfl
        · rw [if_neg h0]; rfl
      rw [e] at hk
      exact hk h none 0 0 (KB.refl h) (OwnR.none _ _ _)
    · subst e
      obtain ⟨ab, an, ac, kb, kn, kc, v, ra, hz, ok, hkc⟩ := (T.nodes i x a hx ha).ex
      have hkl := ok.len
      have hfx := G.few hx
      have ew : wholeL (d + 1) ns (i : Int) = x.kids.map fun k => nodeVI ns k (wholeL d ns k) := by
        show (kidsI ns (i : Int)).map _ = _
        rw [kidsI_some hx]
      have hdk : ∀ k ∈ x.kids, Deep d ns k := by
        have := hd
        intro k hk2
        exact this k (by rw [kidsI_some hx]; exact hk2)
      rw [ew] at hk
      refine vSomeMk ⟨_, _, _, v.cell 7 rfl, kn + 1, ?_⟩
      have key : ∀ N m h2 ob oc (out : List NodeV), m + N = kn → KB h h2 → OwnR (elNodeT (d + 1)) h2 h.size 57 ob m oc out → out = (x.kids.take m).map (fun k => nodeVI ns k (wholeL d ns k)) →
          Sx.dom_Tree_Whole.n9_L (fun z6b z6n z6c h => Sx.dom_Tree_Whole.n6 z6b z6n z6c (fun y4b y4n y4c h => K (.slice y4b y4n y4c) h) (fun y4b y4n y4c h => K (.slice y4b y4n y4c) h) h) (fun z6b z6n z6c h => Sx.dom_Tree_Whole.n6 z6b z6n z6c (fun y4b y4n y4c h => K (.slice y4b y4n y4c) h) (fun y4b y4n y4c h => K (.slice y4b y4n y4c) h) h) (fun y4b y4n y4c h => K (.slice y4b y4n y4c) h) (N + 1) (some t) ob m oc kb kn kc (kn : Int) (m : Int) h2 := by
        intro N
        induction N with
        | zero =>
          intro m h2 ob oc out hmN k2 o2 eo
          unfold Sx.dom_Tree_Whole.n9_L
          refine splF (by omega) ?_
          rw [List.take_of_length_le (by omega)] at eo
          rw [eo] at o2
          exact hk h2 ob m oc k2 o2
        | succ N ih =>
          intro m h2 ob oc out hmN k2 o2 eo
          have hml : m < x.kids.length := by omega
          unfold Sx.dom_Tree_Whole.n9_L
          have ok2 : OwnI h2 kb kn kc x.kids := ok.keep (KB.w k2) fun q e => ok.hi q e
          refine splT (by omega) ((ok2.row (A := fun _ => True) fun _ _ => trivial).idxN hml rfl fun q hA => ldI hA fun _ => ?_)
          obtain ⟨j, z, ej, hz', hpz⟩ := (G.kid i x _ hx).1 (List.getElem_mem hml)
          have hjl := getI hz'
          have T2 := T.kb k2
          obtain ⟨lb, lc, vt, o, hl2⟩ := T2.ex
          have hdj : Deep d ns (j : Int) := by rw [← ej]; exact hdk _ (List.getElem_mem hml)
          rw [ej]
          refine vSomeMk ⟨_, _, _, vt.cell 0 rfl, ?_⟩
          refine o.row.idxN (i := j) (by omega) rfl fun q2 hA2 => ldPtr hA2 (vSomeMk ?_)
          have haj : ads[j]? = some (ads[j]'(by omega)) := List.getElem?_eq_getElem (by omega)
          have Nj := T2.nodes j z _ hz' haj
          obtain ⟨ab2, an2, ac2, kb2, kn2, kc2, v2, ra2, hz2, ok3, hkc2⟩ := Nj.ex
          have hal2 := ra2.len
          have hfa := Nj.fa
          refine ⟨_, v2.cellZ 0 rfl, _, v2.cellZ 1 rfl, _, v2.cellZ 2 rfl, _, _, _, v2.cellZ 3 rfl, _, v2.cellZ 4 rfl, _, _, _, v2.cellZ 5 rfl, newx_var fun a3 h3 v3 k3 e3 s3 => stL_var0 v3 (Nat.le_refl 6) fun h4 v4 k4 s4 => ⟨_, _, _, v4.cell 3 rfl, ?_⟩⟩
          have k24 : KB h2 h4 := KB.step k3 k4 (by omega)
          have hs2 := k2.1
          refine cloneA_calls (ra2.bel.keep ((KB.w k24).less fun k hk => hk.2) (B' := fun _ => True) fun _ _ _ => trivial) hz2 (by omega) fun b5 c5 h5 o5 k5 => vSliceMk ?_
          have hs5 := k5.1
          refine ihd (j : Int) (T2.kb (k24.trans k5)) hdj fun h6 b6 n6 c6 k6 o6 => vSliceMk ?_
          have hs6 := k6.1
          have v6 := (v4.kb k5).kb k6
          refine stL_var (m := 3) (i := 0) v6 (by show 3 + 0 + 1 ≤ 6; omega) fun h7 v7 k7 s7 => stL_var (m := 5) (i := 0) v7 (by show 5 + 0 + 1 ≤ 6; omega) fun h8 v8 k8 s8 => ?_
          have v8 : Var h8 a3 57 [.int .u8 z.kind, .int .u8 z.space, S z.name, .slice b5 an2 c5, S z.text, .slice b6 n6 c6] := v8
          refine ⟨_, v8.cell 0 rfl, _, v8.cell 1 rfl, _, v8.cell 2 rfl, _, _, _, v8.cell 3 rfl, _, v8.cell 4 rfl, _, _, _, v8.cell 5 rfl, newx_var fun a9 h9 v9 k9 e9 s9 => ?_⟩
          have k28 : KB h2 h8 := KB.step (KB.step ((k24.trans k5).trans k6) k7 (by omega)) k8 (by omega)
          have o9 : OwnR (elNodeT (d + 1)) h9 h.size 57 ob m oc out := (o2.kb k28).kb k9
          have hob := o2.hi
          have oa : OwnF elAttr h9 h4.size 79 b5 an2 c5 z.attrs := (((o5.kb k6).flatK k7 flatAttr fun g hg => by omega).flatK k8 flatAttr fun g hg => by omega).kb k9
          have okk : OwnR (elNodeT d) h9 h5.size 57 b6 n6 c6 (wholeL d ns j) := ((o6.kw (k7.w.less fun g (hg : h5.size ≤ g) => by omega)).kw (k8.w.less fun g (hg : h5.size ≤ g) => by omega)).kb k9
          have hR : nodeT (d + 1) (fun k => h.size ≤ k ∧ But h9 ob k) h9 (.mk z.kind z.space z.name z.attrs z.text (wholeL d ns j)) [.int .u8 z.kind, .int .u8 z.space, S z.name, .slice b5 an2 c5, S z.text, .slice b6 n6 c6] :=
            nodeT_mk (x := .mk z.kind z.space z.name z.attrs z.text (wholeL d ns j)) (oa.behind flatAttr fun k h1 h2' => ⟨by omega, h2', fun q e => by have := hob q e; omega⟩) oa.nil
              (okk.row.keep (Keep.refl _ _) fun k hk hs => ⟨by have := hk.1; omega, hs, fun q e => by have := hob q e; have := hk.1; omega⟩) okk.nil Nj.rk Nj.rs Nj.fn Nj.ft
              (thaw_own (Classical.choose_spec oa.own.own).1 fun q e => ⟨by have := oa.lo q e; omega, oa.hi q e, fun q' e' => by have := oa.lo q e; have := hob q' e'; omega⟩)
              (thaw_own (Classical.choose_spec okk.own.own).1 fun q e => ⟨by have := okk.lo q e; omega, okk.hi q e, fun q' e' => by have := okk.lo q e; have := hob q' e'; omega⟩)
          have r9 : Row (elNodeT (d + 1)) (fun k => h.size ≤ k ∧ But h9 ob k) h9 (some a9) 1 1 [.mk z.kind z.space z.name z.attrs z.text (wholeL d ns j)] := v9.row1 hR ⟨by omega, v9.lt, fun q e => by have := hob q e; omega⟩
          refine OwnR.append (apdNodeT (d + 1)) o9 r9 (by simp only [maxLen]; omega) (by omega) (by omega) fun b10 c10 h10 o10 g10 => vSliceMk ⟨rngI (by omega) (by omega), ?_⟩
          refine ih (m + 1) h10 b10 c10 _ (by omega) ?_ o10 ?_
          · exact g10.kb0 ((k2.trans k28).trans k9) fun q e => o2.lo q e
          · rw [eo, List.take_add_one, List.getElem?_eq_getElem hml, List.map_append, ej]
            congr 1
            show [_] = [nodeVI ns (j : Int) _]
            unfold nodeVI
            rw [Int.toNat_natCast, hz']
      exact key kn 0 h none 0 [] (by omega) (KB.refl h) (OwnR.none _ _ _) rfl
theorem whole_calls (G : GoodT ns) (d : Nat) (id : Int) {h : H} {K : Value → H → Prop} (T : TreeP h col s t ads ns) (hd : Deep d ns id)
    (hk : ∀ h' b n c, KB h h' → OwnR (elNode d) h' h.size 57 b n c (wholeL d ns id) → K (.slice b n c) h') :
    HCalls Tryz.prog 24 ⟨[.pointer (some t), .int .i64 id]⟩ h K := wholeT_calls G d id T hd fun h' b n c k o => hk h' b n c k o.weakT
end
end Go.Proofs
