import Derived.Test.YtakddeombdgdgaaDoE
import Derived.Test.YtakddeombdgdgaaOpA
import Derived.Test.YtakddeombdgdgaaTxA
import Derived.Test.YtakddeombdgdgaaPcD
import Derived.Test.YtakddeombdgdgaaShQ
import Derived.Test.YtakddeombdgdgaaTxD
import Derived.Test.YtakddeombdgdgaaTxF
import Derived.Test.YtakddeombdgdgaaTxG
/- dom: nodes with all that stands in them, in memory. No condition. dom: Whole. No condition but that the tree is one. -/
namespace Go.Proofs
open Go Go.Sh
set_option linter.unusedVariables false
set_option maxRecDepth 100000
inductive NodeV where
  | mk (kind space : Int) (name : Bs) (attrs : List AttrP) (text : Bs) (kids : List NodeV)
def NodeV.kind : NodeV → Int | .mk k _ _ _ _ _ => k
def NodeV.space : NodeV → Int | .mk _ s _ _ _ _ => s
def NodeV.name : NodeV → Bs | .mk _ _ n _ _ _ => n
def NodeV.attrs : NodeV → List AttrP | .mk _ _ _ a _ _ => a
def NodeV.text : NodeV → Bs | .mk _ _ _ _ t _ => t
def NodeV.kids : NodeV → List NodeV | .mk _ _ _ _ _ k => k
abbrev nvCells (x : NodeV) (ab : Option Addr) (an ac : Nat) (kb : Option Addr) (kn kc : Nat) : List Value := [.int .u8 x.kind, .int .u8 x.space, S x.name, .slice ab an ac, S x.text, .slice kb kn kc]
/-- a node's cells, so deep -/
def nodeR : Nat → (Nat → Prop) → H → NodeV → List Value → Prop
  | 0, _, _, _, _ => False
  | d + 1, A, h, x, cs => ∃ ab an ac kb kn kc, cs = nvCells x ab an ac kb kn kc ∧ Row elAttr A h ab an ac x.attrs ∧ (ab = none → ac = 0) ∧
      (x.kids.length = kn ∧ kn ≤ kc ∧ kc ≤ maxLen ∧ ∀ (i : Nat) y, x.kids[i]? = some y → ∃ a, kb = some a ∧ A (a.add (i * 6)).block ∧ ∃ cs, nodeR d A h y cs ∧ ∀ (j : Nat) v, cs[j]? = some v → cell h ((a.add (i * 6)).add j) = some v) ∧
      (kb = none → kc = 0) ∧ Rng .u8 x.kind ∧ Rng .u8 x.space ∧ x.name.length ≤ maxLen ∧ x.text.length ≤ maxLen
theorem nodeR_len : ∀ {d : Nat} {A : Nat → Prop} {h : H} {x : NodeV} {cs : List Value}, nodeR d A h x cs → cs.length = 6
  | 0, _, _, _, _, h => h.elim
  | d + 1, _, _, _, _, ⟨ab, an, ac, kb, kn, kc, e, _⟩ => by rw [e]; rfl
theorem nodeR_keep : ∀ {d : Nat} {A A' : Nat → Prop} {h h' : H} {x : NodeV} {cs : List Value}, nodeR d A h x cs → Keep (fun k => A k ∧ k < h.size) h h' → (∀ k, A k → k < h.size → A' k) → nodeR d A' h' x cs
  | 0, _, _, _, _, _, _, h, _, _ => h.elim
  | d + 1, A, A', h, h', x, cs, ⟨ab, an, ac, kb, kn, kc, e, ra, hz, ⟨h1, h2, h3, h4⟩, hz2, r1, r2, r3, r4⟩, k, hb =>
    ⟨ab, an, ac, kb, kn, kc, e, ra.keep k hb, hz, ⟨h1, h2, h3, fun i y hy => by
      obtain ⟨a, ea, hA, cs', hR, hc⟩ := h4 i y hy
      have hl := nodeR_len hR
      have hlt : (a.add (i * 6)).block < h.size := by
        have := cell_lt (hc 0 _ (List.getElem?_eq_getElem (by omega)))
        rwa [add_block] at this
      exact ⟨a, ea, hb _ hA hlt, cs', nodeR_keep hR k hb, fun j v hv => k.cell (by rw [add_block]; exact ⟨hA, hlt⟩) (hc j v hv)⟩⟩, hz2, r1, r2, r3, r4⟩
def elNode (d : Nat) : El NodeV where
  sz := 6
  R := nodeR d
  len := fun _ _ _ _ h => nodeR_len h
  one := fun _ _ _ _ h v hv => by
    cases d with
    | zero => exact h.elim
    | succ d =>
      obtain ⟨ab, an, ac, kb, kn, kc, e, _⟩ := h
      rw [e] at hv
      simp only [nvCells, List.mem_cons, List.not_mem_nil, or_false] at hv
      rcases hv with rfl | rfl | rfl | rfl | rfl | rfl <;> rfl
  keep := fun _ _ _ _ _ _ h k hb => nodeR_keep h k hb
  pos := by decide
theorem nodeR_inv {d : Nat} {A : Nat → Prop} {h : H} {x : NodeV} {cs : List Value} (hR : nodeR (d + 1) A h x cs) : ∃ ab an ac kb kn kc, cs = nvCells x ab an ac kb kn kc ∧ Row elAttr A h ab an ac x.attrs ∧ (ab = none → ac = 0) ∧ Row (elNode d) A h kb kn kc x.kids ∧ (kb = none → kc = 0) ∧ Rng .u8 x.kind ∧ Rng .u8 x.space ∧ x.name.length ≤ maxLen ∧ x.text.length ≤ maxLen := by
  obtain ⟨ab, an, ac, kb, kn, kc, e, ra, hz, ⟨h1, h2, h3, h4⟩, hz2, r1, r2, r3, r4⟩ := hR
  exact ⟨ab, an, ac, kb, kn, kc, e, ra, hz, ⟨h1, h2, h3, fun i y hy => by
    obtain ⟨a, e, hA, cs, hR, hc⟩ := h4 i y hy
    exact ⟨a, e, hA, cs, hR, hc⟩⟩, hz2, r1, r2, r3, r4⟩
/-- a node at an address -/
theorem ldNode {d : Nat} {A : Nat → Prop} {h : H} {a : Addr} {x : NodeV} {K : Int → Int → Bs → Option Addr → Nat → Nat → Bs → Option Addr → Nat → Nat → Prop} (hA : At (elNode (d + 1)) A h a x)
    (hk : ∀ ab an ac kb kn kc, Row elAttr A h ab an ac x.attrs → (ab = none → ac = 0) → Row (elNode d) A h kb kn kc x.kids → (kb = none → kc = 0) → Rng .u8 x.kind → Rng .u8 x.space → x.name.length ≤ maxLen → x.text.length ≤ maxLen → K x.kind x.space x.name ab an ac x.text kb kn kc) :
    ∃ i, cell h (a.add 0) = some (.int .u8 i) ∧ ∃ j, cell h (a.add 1) = some (.int .u8 j) ∧ ∃ s, cell h (a.add 2) = some (S s) ∧ ∃ ab an ac, cell h (a.add 3) = some (.slice ab an ac) ∧ ∃ tx, cell h (a.add 4) = some (S tx) ∧ ∃ kb kn kc, cell h (a.add 5) = some (.slice kb kn kc) ∧ K i j s ab an ac tx kb kn kc := by
  obtain ⟨_, cs, hR, hc⟩ := hA
  obtain ⟨ab, an, ac, kb, kn, kc, rfl, ra, hz, rk, hz2, r1, r2, r3, r4⟩ := nodeR_inv hR
  exact ⟨_, hc 0 _ rfl, _, hc 1 _ rfl, _, hc 2 _ rfl, _, _, _, hc 3 _ rfl, _, hc 4 _ rfl, _, _, _, hc 5 _ rfl, hk ab an ac kb kn kc ra hz rk hz2 r1 r2 r3 r4⟩
/-! ### nodes that may be written over: what their rows lie in is not frozen -/
def thawB (A : Nat → Prop) (h : H) (b : Option Addr) (n : Nat) : Prop := n = 0 ∨ ∃ q, b = some q ∧ A q.block ∧ ∃ c e, h[q.block]? = some (.cells c e (0, 0))
theorem thawB.keep {A A' : Nat → Prop} {h h' : H} {b : Option Addr} {n : Nat} (t : thawB A h b n) (k : Keep (fun k => A k ∧ k < h.size) h h') (hb : ∀ k, A k → k < h.size → A' k) : thawB A' h' b n := by
  rcases t with h0 | ⟨q, e, hA, c, f, hg⟩
  · exact Or.inl h0
  · have hlt := (Array.getElem?_eq_some_iff.1 hg).1
    exact Or.inr ⟨q, e, hb _ hA hlt, c, f, k.2 _ ⟨hA, hlt⟩ _ hg rfl⟩
theorem thaw_own {h : H} {base e sz n c : Nat} {b : Option Addr} {xs : List Value} {A : Nat → Prop} (o : Own h base e sz b n c xs) (hA : ∀ q, b = some q → A q.block) : thawB A h b n := by
  rcases o.is with h1 | ⟨g, cur, e1, _, hg, _⟩
  · exact Or.inl h1.1
  · exact Or.inr ⟨_, e1, hA _ e1, _, _, hg⟩
def nodeT : Nat → (Nat → Prop) → H → NodeV → List Value → Prop
  | 0, _, _, _, _ => False
  | d + 1, A, h, x, cs => ∃ ab an ac kb kn kc, cs = nvCells x ab an ac kb kn kc ∧ Row elAttr A h ab an ac x.attrs ∧ (ab = none → ac = 0) ∧
      (x.kids.length = kn ∧ kn ≤ kc ∧ kc ≤ maxLen ∧ ∀ (i : Nat) y, x.kids[i]? = some y → ∃ a, kb = some a ∧ A (a.add (i * 6)).block ∧ ∃ cs, nodeT d A h y cs ∧ ∀ (j : Nat) v, cs[j]? = some v → cell h ((a.add (i * 6)).add j) = some v) ∧
      (kb = none → kc = 0) ∧ Rng .u8 x.kind ∧ Rng .u8 x.space ∧ x.name.length ≤ maxLen ∧ x.text.length ≤ maxLen ∧ thawB A h ab an ∧ thawB A h kb kn
theorem nodeT_len : ∀ {d : Nat} {A : Nat → Prop} {h : H} {x : NodeV} {cs : List Value}, nodeT d A h x cs → cs.length = 6
  | 0, _, _, _, _, h => h.elim
  | d + 1, _, _, _, _, ⟨_, _, _, _, _, _, e, _⟩ => by rw [e]; rfl
theorem nodeT_keep : ∀ {d : Nat} {A A' : Nat → Prop} {h h' : H} {x : NodeV} {cs : List Value}, nodeT d A h x cs → Keep (fun k => A k ∧ k < h.size) h h' → (∀ k, A k → k < h.size → A' k) → nodeT d A' h' x cs
  | 0, _, _, _, _, _, _, h, _, _ => h.elim
  | d + 1, A, A', h, h', x, cs, ⟨ab, an, ac, kb, kn, kc, e, ra, hz, ⟨h1, h2, h3, h4⟩, hz2, r1, r2, r3, r4, t1, t2⟩, k, hb =>
    ⟨ab, an, ac, kb, kn, kc, e, ra.keep k hb, hz, ⟨h1, h2, h3, fun i y hy => by
      obtain ⟨a, ea, hA, cs', hR, hc⟩ := h4 i y hy
      have hl := nodeT_len hR
      have hlt : (a.add (i * 6)).block < h.size := by
        have := cell_lt (hc 0 _ (List.getElem?_eq_getElem (by omega)))
        rwa [add_block] at this
      exact ⟨a, ea, hb _ hA hlt, cs', nodeT_keep hR k hb, fun j v hv => k.cell (by rw [add_block]; exact ⟨hA, hlt⟩) (hc j v hv)⟩⟩, hz2, r1, r2, r3, r4, t1.keep k hb, t2.keep k hb⟩
def elNodeT (d : Nat) : El NodeV where
  sz := 6
  R := nodeT d
  len := fun _ _ _ _ h => nodeT_len h
  one := fun _ _ _ _ h v hv => by
    cases d with
    | zero => exact h.elim
    | succ d =>
      obtain ⟨ab, an, ac, kb, kn, kc, e, _⟩ := h
      rw [e] at hv
      simp only [nvCells, List.mem_cons, List.not_mem_nil, or_false] at hv
      rcases hv with rfl | rfl | rfl | rfl | rfl | rfl <;> rfl
  keep := fun _ _ _ _ _ _ h k hb => nodeT_keep h k hb
  pos := by decide
theorem nodeT_mk {d : Nat} {A : Nat → Prop} {h : H} {x : NodeV} {ab kb : Option Addr} {an ac kn kc : Nat} (ra : Row elAttr A h ab an ac x.attrs) (hz : ab = none → ac = 0) (rk : Row (elNodeT d) A h kb kn kc x.kids) (hz2 : kb = none → kc = 0)
    (r1 : Rng .u8 x.kind) (r2 : Rng .u8 x.space) (r3 : x.name.length ≤ maxLen) (r4 : x.text.length ≤ maxLen) (t1 : thawB A h ab an) (t2 : thawB A h kb kn) : nodeT (d + 1) A h x (nvCells x ab an ac kb kn kc) :=
  ⟨ab, an, ac, kb, kn, kc, rfl, ra, hz, ⟨rk.len, rk.cap, rk.max, fun i y hy => by
    obtain ⟨a, e, hA, cs, hR, hc⟩ := rk.at' i y hy
    exact ⟨a, e, hA, cs, hR, hc⟩⟩, hz2, r1, r2, r3, r4, t1, t2⟩
theorem nodeT_R : ∀ {d : Nat} {A : Nat → Prop} {h : H} {x : NodeV} {cs : List Value}, nodeT d A h x cs → nodeR d A h x cs
  | 0, _, _, _, _, h => h.elim
  | d + 1, _, _, _, _, ⟨ab, an, ac, kb, kn, kc, e, ra, hz, ⟨h1, h2, h3, h4⟩, hz2, r1, r2, r3, r4, _, _⟩ =>
    ⟨ab, an, ac, kb, kn, kc, e, ra, hz, ⟨h1, h2, h3, fun i y hy => by
      obtain ⟨a, ea, hA, cs', hR, hc⟩ := h4 i y hy
      exact ⟨a, ea, hA, cs', nodeT_R hR, hc⟩⟩, hz2, r1, r2, r3, r4⟩
theorem encT_R {d : Nat} {A : Nat → Prop} {h : H} : ∀ {l : List NodeV} {xs : List Value}, Enc (elNodeT d) A h l xs → Enc (elNode d) A h l xs
  | [], _, h => h
  | x :: l, _, ⟨cs, ys, e, hR, hE⟩ => ⟨cs, ys, e, nodeT_R hR, encT_R hE⟩
theorem apdNodeT (d : Nat) : Apd Try.prog (elNodeT d) 41 53 88 := apd_of (sz := 6) (by kernel_rfl) rfl
/-! ### rows made behind a place, that lead behind it -/
structure OwnR {α : Type} (E : El α) (h : H) (base e : Nat) (b : Option Addr) (n c : Nat) (l : List α) : Prop where
  own : OwnT E (fun k => base ≤ k ∧ But h b k) h base e b n c l
  lo : ∀ a, b = some a → base ≤ a.block
  hi : ∀ a, b = some a → a.block < h.size
  nil : b = none → c = 0
section
variable {α : Type} {E : El α}
theorem OwnR.none (h : H) (base e : Nat) : OwnR E h base e none 0 0 [] := ⟨OwnT.nil _ _ _ _ _, (fun _ e => by cases e), (fun _ e => by cases e), fun _ => rfl⟩
theorem OwnR.kw {h h' : H} {base e n c : Nat} {b : Option Addr} {l : List α} (o : OwnR E h base e b n c l) (k : Keep (fun k => base ≤ k) h h') : OwnR E h' base e b n c l :=
  ⟨o.own.keep (B := fun k => base ≤ k) k (fun _ h _ => h.1) (fun k' hk hks => ⟨hk.1, Nat.lt_of_lt_of_le hks k.1, hk.2.2⟩) fun _ _ h _ => h, o.lo, fun a e => Nat.lt_of_lt_of_le (o.hi a e) k.1, o.nil⟩
theorem OwnR.kb {h h' : H} {base e n c : Nat} {b : Option Addr} {l : List α} (o : OwnR E h base e b n c l) (k : KB h h') : OwnR E h' base e b n c l :=
  ⟨o.own.keep (B := Bel h.size) (KB.w k) (fun _ _ h => h) (fun k' hk hks => ⟨hk.1, Nat.lt_of_lt_of_le hks k.1, hk.2.2⟩) fun _ _ _ h => h, o.lo, fun a e => Nat.lt_of_lt_of_le (o.hi a e) k.1, o.nil⟩
theorem OwnR.lower {h : H} {base base' e n c : Nat} {b : Option Addr} {l : List α} (o : OwnR E h base e b n c l) (hb : base' ≤ base) : OwnR E h base' e b n c l :=
  ⟨(o.own.keep (B := fun _ => True) (Keep.refl _ _) (fun _ _ _ => trivial) (fun k hk _ => ⟨Nat.le_trans hb hk.1, hk.2⟩) fun _ _ _ _ => trivial).lower hb, fun a e => Nat.le_trans hb (o.lo a e), o.hi, o.nil⟩
theorem OwnR.row {h : H} {base e n c : Nat} {b : Option Addr} {l : List α} (o : OwnR E h base e b n c l) : Row E (fun k => base ≤ k ∧ k < h.size) h b n c l := o.own.row (fun _ h => ⟨h.1, h.2.1⟩) fun g _ h hb => ⟨hb, h⟩
theorem OwnR.weakT {d : Nat} {h : H} {base e n c : Nat} {b : Option Addr} {l : List NodeV} (o : OwnR (elNodeT d) h base e b n c l) : OwnR (elNode d) h base e b n c l := by
  obtain ⟨xs, h1, h2⟩ := o.own.own
  exact ⟨⟨o.own.len, xs, h1, encT_R h2⟩, o.lo, o.hi, o.nil⟩
theorem OwnR.append {t ty e by' : Nat} {P : Program} (ap : Apd P E t e by') {h : H} {sb rb : Option Addr} {n c m k base : Nat} {l l2 : List α} (o : OwnR E h base e sb n c l) (r : Row E (fun k => base ≤ k ∧ But h sb k) h rb m k l2)
    (h63 : n + m ≤ maxLen) (hb : (n + m) * by' ≤ 140737488355328) (hbase : base ≤ h.size) {K : Value → H → Prop}
    (hk : ∀ b' c' h', OwnR E h' base e b' (n + m) c' (l ++ l2) → Grow h h' sb → K (.slice b' (n + m) c') h') :
    SemH P (Builtin.append_ #[t, t] ty ⟨[.slice sb n c, .slice rb m k]⟩) h K := by
  refine OwnT.append ap o.own r h63 hb hbase (fun k hk _ => hk.2.2) fun b2 c2 h' o' hg hb h0 => hk b2 c2 h' ⟨?_, ?_, ?_, ?_⟩ hg
  · refine o'.keep (Keep.refl (fun _ => True) _) (fun _ _ _ => trivial) (fun k hk' hks => ⟨hk'.1, hks, fun x hx => ?_⟩) fun _ _ _ _ => trivial
    rcases hb with rfl | rfl
    · exact hk'.2.2 x hx
    · cases hx
      have := hk'.2.1
      show h.size ≠ k
      omega
  · intro x hx
    rcases hb with rfl | rfl
    · exact o.lo x hx
    · cases hx; exact hbase
  · intro x hx
    rcases hb with rfl | rfl
    · exact Nat.lt_of_lt_of_le (o.hi x hx) hg.size
    · obtain ⟨xs, ho, _⟩ := o'.own
      rcases ho.is with h1 | ⟨g, cur, e1, _, hgg, _⟩
      · have := h0 h1.1
        exact Nat.lt_of_lt_of_le (o.hi x (this.1 ▸ hx)) hg.size
      · rw [hx] at e1; cases e1; exact (Array.getElem?_eq_some_iff.1 hgg).1
  · intro hbn
    obtain ⟨xs, ho, _⟩ := o'.own
    rcases ho.is with h1 | ⟨g, cur, e1, _⟩
    · exact h1.2
    · rw [hbn] at e1; cases e1
theorem _root_.Go.Sh.OwnF.behind (hf : Flat E) {h : H} {base e n c : Nat} {b : Option Addr} {l : List α} (o : OwnF E h base e b n c l) {A : Nat → Prop} (hA : ∀ k, base ≤ k → k < h.size → A k) : Row E A h b n c l := by
  obtain ⟨xs, h1, h2⟩ := o.own.own
  by_cases hn : n = 0
  · subst hn
    have : l = [] := List.eq_nil_of_length_eq_zero o.own.len
    subst this
    exact ⟨rfl, h1.cap, h1.max, fun i x hx => by simp at hx⟩
  · exact Row.of (Enc.flat hf h2) h1.cells o.own.len h1.cap h1.max fun q e => hA _ (o.lo q e) (o.hi q e)
end
end Go.Proofs
namespace Go.Proofs
open Go Go.Sh
set_option linter.unusedVariables false
set_option maxRecDepth 100000
def kidsI (ns : List NodeM) (id : Int) : List Int := if 0 ≤ id then ((ns[id.toNat]?).map (·.kids)).getD [] else []
def nodeVI (ns : List NodeM) (k : Int) (kids : List NodeV) : NodeV :=
  match ns[k.toNat]? with
  | some z => .mk z.kind z.space z.name z.attrs z.text kids
  | none => .mk 0 0 [] [] [] []
def wholeL : Nat → List NodeM → Int → List NodeV
  | 0, _, _ => []
  | d + 1, ns, id => (kidsI ns id).map fun k => nodeVI ns k (wholeL d ns k)
def Deep : Nat → List NodeM → Int → Prop
  | 0, _, _ => False
  | d + 1, ns, id => ∀ k ∈ kidsI ns id, Deep d ns k
theorem Deep.up : ∀ {d : Nat} {ns : List NodeM} {id : Int}, Deep d ns id → Deep (d + 1) ns id
  | 0, _, _, h => h.elim
  | d + 1, _, _, h => fun k hk => (h k hk).up
theorem Deep.mono {d d' : Nat} {ns : List NodeM} {id : Int} (h : Deep d ns id) (hd : d ≤ d') : Deep d' ns id := by
  induction hd with
  | refl => exact h
  | step _ ih => exact ih.up
theorem kidsI_some {ns : List NodeM} {j : Nat} {z : NodeM} (h : ns[j]? = some z) : kidsI ns (j : Int) = z.kids := by
  unfold kidsI
  rw [if_pos (by omega), Int.toNat_natCast, h]; rfl
theorem bound_rk (rk : Nat → Nat) : ∀ n, ∃ M, ∀ i, i < n → rk i ≤ M
  | 0 => ⟨0, fun i h => by omega⟩
  | n + 1 => by
    obtain ⟨M, hM⟩ := bound_rk rk n
    refine ⟨M + rk n, fun i h => ?_⟩
    by_cases e : i = n
    · subst e; omega
    · have := hM i (by omega); omega
theorem GoodT.deep {ns : List NodeM} (G : GoodT ns) : ∃ D, ∀ d, D ≤ d → ∀ id : Int, Deep d ns id := by
  obtain ⟨rk, hr⟩ := G.rank
  obtain ⟨M, hM⟩ := bound_rk rk ns.length
  have key : ∀ f (j : Nat), j < ns.length → M < rk j + f → Deep f ns (j : Int) := by
    intro f
    induction f with
    | zero => intro j hj h; have := hM j hj; omega
    | succ f ih =>
      intro j hj h k hk
      have hz : ns[j]? = some ns[j] := List.getElem?_eq_getElem hj
      rw [kidsI_some hz] at hk
      obtain ⟨m, w, rfl, hw, hp⟩ := (G.kid j _ k hz).1 hk
      have := hr m j w hw hp
      exact ih m (getI hw) (by omega)
  refine ⟨M + 2, fun d hd id => ?_⟩
  have h1 : Deep (M + 2) ns id := by
    intro k hk
    unfold kidsI at hk
    split at hk
    · rename_i h0
      cases hz : ns[id.toNat]? with
      | none => rw [hz] at hk; cases hk
      | some z =>
        rw [hz] at hk
        have hk : k ∈ z.kids := hk
        obtain ⟨m, w, rfl, hw, hp⟩ := (G.kid id.toNat z k hz).1 hk
        exact key (M + 1) m (getI hw) (by omega)
    · cases hk
  exact h1.mono hd
section
variable {h : H} {K : Value → H → Prop} {col : Col} {s i p : Nat} {t a : Addr} {ads : List Addr} {ns : List NodeM} {x y : NodeM}
theorem wholeT_calls (G : GoodT ns) : ∀ (d : Nat) (id : Int) {h : H} {K : Value → H → Prop} (T : TreeP h col s t ads ns) (hd : Deep d ns id)
    (hk : ∀ h' b n c, KB h h' → OwnR (elNodeT d) h' h.size 53 b n c (wholeL d ns id) → K (.slice b n c) h'),
    HCalls Try.prog 9 ⟨[.pointer (some t), .int .i64 id]⟩ h K := by
  intro d
  induction d with
  | zero => intro id h K T hd; exact hd.elim
  | succ d ihd =>
    intro id h K T hd hk
    have hlen := T.len
    have hft := T.few
    refine Sx.dom_Tree_Whole.ok _ _ _ _ (at_calls T (fun hn => vPtrMk (ptrEq_k (by kernel_rfl) (vBool_mk (condT ?_)))) fun i a x e hx ha => vPtrMk (ptrEq_k (by kernel_rfl) (vBool_mk (condF ?_))))
    · have e : wholeL (d + 1) ns id = [] := by
        unfold wholeL kidsI
        by_cases h0 : 0 ≤ id
        · rw [if_pos h0, List.getElem?_eq_none (by omega)]; rfl
        · rw [if_neg h0]; rfl
      rw [e] at hk
      exact hk h none 0 0 (KB.refl h) (OwnR.none _ _ _)
    · subst e
      obtain ⟨ab, an, ac, kb, kn, kc, v, ra, hz, ok, hkc⟩ := (T.nodes i x a hx ha).ex
      have hkl := ok.len
      have hfx := G.few hx
      have ew : wholeL (d + 1) ns (i : Int) = x.kids.map fun k => nodeVI ns k (wholeL d ns k) := by
        show (kidsI ns (i : Int)).map _ = _
        rw [kidsI_some hx]
      have hdk : ∀ k ∈ x.kids, Deep d ns k := by
        have := hd
        intro k hk2
        exact this k (by rw [kidsI_some hx]; exact hk2)
      rw [ew] at hk
      refine vSomeMk ⟨_, _, _, v.cell 7 rfl, kn + 1, ?_⟩
      have key : ∀ N m h2 ob oc (out : List NodeV), m + N = kn → KB h h2 → OwnR (elNodeT (d + 1)) h2 h.size 53 ob m oc out → out = (x.kids.take m).map (fun k => nodeVI ns k (wholeL d ns k)) →
          Sx.dom_Tree_Whole.n9_L (fun z6b z6n z6c h => Sx.dom_Tree_Whole.n6 z6b z6n z6c (fun y4b y4n y4c h => K (.slice y4b y4n y4c) h) (fun y4b y4n y4c h => K (.slice y4b y4n y4c) h) h) (fun z6b z6n z6c h => Sx.dom_Tree_Whole.n6 z6b z6n z6c (fun y4b y4n y4c h => K (.slice y4b y4n y4c) h) (fun y4b y4n y4c h => K (.slice y4b y4n y4c) h) h) (fun y4b y4n y4c h => K (.slice y4b y4n y4c) h) (N + 1) (some t) ob m oc kb kn kc (kn : Int) (m : Int) h2 := by
        intro N
        induction N with
        | zero =>
          intro m h2 ob oc out hmN k2 o2 eo
          unfold Sx.dom_Tree_Whole.n9_L
          refine splF (by omega) ?_
          rw [List.take_of_length_le (by omega)] at eo
          rw [eo] at o2
          exact hk h2 ob m oc k2 o2
        | succ N ih =>
          intro m h2 ob oc out hmN k2 o2 eo
          have hml : m < x.kids.length := by omega
          unfold Sx.dom_Tree_Whole.n9_L
          have ok2 : OwnI h2 kb kn kc x.kids := ok.keep (KB.w k2) fun q e => ok.hi q e
          refine splT (by omega) ((ok2.row (A := fun _ => True) fun _ _ => trivial).idxN hml rfl fun q hA => ldI hA fun _ => ?_)
          obtain ⟨j, z, ej, hz', hpz⟩ := (G.kid i x _ hx).1 (List.getElem_mem hml)
          have hjl := getI hz'
          have T2 := T.kb k2
          obtain ⟨lb, lc, vt, o, hl2⟩ := T2.ex
          have hdj : Deep d ns (j : Int) := by rw [← ej]; exact hdk _ (List.getElem_mem hml)
          rw [ej]
          refine vSomeMk ⟨_, _, _, vt.cell 0 rfl, ?_⟩
          refine o.row.idxN (i := j) (by omega) rfl fun q2 hA2 => ldPtr hA2 (vSomeMk ?_)
          have haj : ads[j]? = some (ads[j]'(by omega)) := List.getElem?_eq_getElem (by omega)
          have Nj := T2.nodes j z _ hz' haj
          obtain ⟨ab2, an2, ac2, kb2, kn2, kc2, v2, ra2, hz2, ok3, hkc2⟩ := Nj.ex
          have hal2 := ra2.len
          have hfa := Nj.fa
          refine ⟨_, v2.cellZ 0 rfl, _, v2.cellZ 1 rfl, _, v2.cellZ 2 rfl, _, _, _, v2.cellZ 3 rfl, _, v2.cellZ 4 rfl, _, _, _, v2.cellZ 5 rfl, newx_var fun a3 h3 v3 k3 e3 s3 => stL_var0 v3 (Nat.le_refl 6) fun h4 v4 k4 s4 => ⟨_, _, _, v4.cell 3 rfl, ?_⟩⟩
          have k24 : KB h2 h4 := KB.step k3 k4 (by omega)
          have hs2 := k2.1
          refine cloneA_calls (ra2.bel.keep ((KB.w k24).less fun k hk => hk.2) (B' := fun _ => True) fun _ _ _ => trivial) hz2 (by omega) fun b5 c5 h5 o5 k5 => vSliceMk ?_
          have hs5 := k5.1
          refine ihd (j : Int) (T2.kb (k24.trans k5)) hdj fun h6 b6 n6 c6 k6 o6 => vSliceMk ?_
          have hs6 := k6.1
          have v6 := (v4.kb k5).kb k6
          refine stL_var (m := 3) (i := 0) v6 (by show 3 + 0 + 1 ≤ 6; omega) fun h7 v7 k7 s7 => stL_var (m := 5) (i := 0) v7 (by show 5 + 0 + 1 ≤ 6; omega) fun h8 v8 k8 s8 => ?_
          have v8 : Var h8 a3 53 [.int .u8 z.kind, .int .u8 z.space, S z.name, .slice b5 an2 c5, S z.text, .slice b6 n6 c6] := v8
          refine ⟨_, v8.cell 0 rfl, _, v8.cell 1 rfl, _, v8.cell 2 rfl, _, _, _, v8.cell 3 rfl, _, v8.cell 4 rfl, _, _, _, v8.cell 5 rfl, newx_var fun a9 h9 v9 k9 e9 s9 => ?_⟩
          have k28 : KB h2 h8 := KB.step (KB.step ((k24.trans k5).trans k6) k7 (by omega)) k8 (by omega)
          have o9 : OwnR (elNodeT (d + 1)) h9 h.size 53 ob m oc out := (o2.kb k28).kb k9
          have hob := o2.hi
          have oa : OwnF elAttr h9 h4.size 70 b5 an2 c5 z.attrs := (((o5.kb k6).flatK k7 flatAttr fun g hg => by omega).flatK k8 flatAttr fun g hg => by omega).kb k9
          have okk : OwnR (elNodeT d) h9 h5.size 53 b6 n6 c6 (wholeL d ns j) := ((o6.kw (k7.w.less fun g (hg : h5.size ≤ g) => by omega)).kw (k8.w.less fun g (hg : h5.size ≤ g) => by omega)).kb k9
          have hR : nodeT (d + 1) (fun k => h.size ≤ k ∧ But h9 ob k) h9 (.mk z.kind z.space z.name z.attrs z.text (wholeL d ns j)) [.int .u8 z.kind, .int .u8 z.space, S z.name, .slice b5 an2 c5, S z.text, .slice b6 n6 c6] :=
            nodeT_mk (x := .mk z.kind z.space z.name z.attrs z.text (wholeL d ns j)) (oa.behind flatAttr fun k h1 h2' => ⟨by omega, h2', fun q e => by have := hob q e; omega⟩) oa.nil
              (okk.row.keep (Keep.refl _ _) fun k hk hs => ⟨by have := hk.1; omega, hs, fun q e => by have := hob q e; have := hk.1; omega⟩) okk.nil Nj.rk Nj.rs Nj.fn Nj.ft
              (thaw_own (Classical.choose_spec oa.own.own).1 fun q e => ⟨by have := oa.lo q e; omega, oa.hi q e, fun q' e' => by have := oa.lo q e; have := hob q' e'; omega⟩)
              (thaw_own (Classical.choose_spec okk.own.own).1 fun q e => ⟨by have := okk.lo q e; omega, okk.hi q e, fun q' e' => by have := okk.lo q e; have := hob q' e'; omega⟩)
          have r9 : Row (elNodeT (d + 1)) (fun k => h.size ≤ k ∧ But h9 ob k) h9 (some a9) 1 1 [.mk z.kind z.space z.name z.attrs z.text (wholeL d ns j)] := v9.row1 hR ⟨by omega, v9.lt, fun q e => by have := hob q e; omega⟩
          refine OwnR.append (apdNodeT (d + 1)) o9 r9 (by simp only [maxLen]; omega) (by omega) (by omega) fun b10 c10 h10 o10 g10 => vSliceMk ⟨rngI (by omega) (by omega), ?_⟩
          refine ih (m + 1) h10 b10 c10 _ (by omega) ?_ o10 ?_
          · exact g10.kb0 ((k2.trans k28).trans k9) fun q e => o2.lo q e
          · rw [eo, List.take_add_one, List.getElem?_eq_getElem hml, List.map_append, ej]
            congr 1
            show [_] = [nodeVI ns (j : Int) _]
            unfold nodeVI
            rw [Int.toNat_natCast, hz']
      exact key kn 0 h none 0 [] (by omega) (KB.refl h) (OwnR.none _ _ _) rfl
theorem whole_calls (G : GoodT ns) (d : Nat) (id : Int) {h : H} {K : Value → H → Prop} (T : TreeP h col s t ads ns) (hd : Deep d ns id)
    (hk : ∀ h' b n c, KB h h' → OwnR (elNode d) h' h.size 53 b n c (wholeL d ns id) → K (.slice b n c) h') :
    HCalls Try.prog 9 ⟨[.pointer (some t), .int .i64 id]⟩ h K := wholeT_calls G d id T hd fun h' b n c k o => hk h' b n c k o.weakT
end
end Go.Proofs
/- dom: comparing nodes; own copies; how much nodes weigh. No condition. -/
namespace Go.Proofs
open Go Go.Sh
set_option linter.unusedVariables false
set_option maxRecDepth 100000
theorem eqAttr (x y : AttrP) : eqAll [S x.1, S x.2] [S y.1, S y.2] = decide (x = y) := by
  obtain ⟨x1, x2⟩ := x; obtain ⟨y1, y2⟩ := y
  simp only [eqAll, eqV, Bool.and_true]
  rw [Bool.eq_iff_iff]
  simp
theorem attrNe {x y : AttrP} {p q : Operand} {h : H} {K : Value → Prop} (hk : K (.bool (!decide (x = y)))) : SemR Try.prog (binS .neq 70 p q (.agg ⟨[S x.1, S x.2]⟩) (.agg ⟨[S y.1, S y.2]⟩)) h K :=
  semR_neq (by kernel_rfl) (by kernel_rfl) (by rw [eqAttr]; exact hk)
theorem list_eq_of {α : Type} {a b : List α} (hl : a.length = b.length) (h : ∀ (i : Nat) (ha : i < a.length) (hb : i < b.length), a[i] = b[i]) : a = b :=
  List.ext_getElem hl h
section
variable {A B : Nat → Prop} {h : H} {b b2 : Option Addr} {n c n2 c2 : Nat} {K : Value → H → Prop}
theorem ldAttr {a : Addr} {m : AttrP} {Q : Bs → Bs → Prop} (hA : At elAttr A h a m) (hk : m.1.length ≤ maxLen → m.2.length ≤ maxLen → Q m.1 m.2) :
    ∃ s, cell h (a.add 0) = some (S s) ∧ ∃ t, cell h (a.add 1) = some (S t) ∧ Q s t :=
  ⟨_, by have := hA.fst.str.1; rwa [add_zero'], _, hA.snd.str.1, hk hA.fst.str.2 hA.snd.str.2⟩
theorem sameAttrs_calls {l l2 : List AttrP} (r : Row elAttr A h b n c l) (r2 : Row elAttr B h b2 n2 c2 l2) (hk : K (.bool (decide (l = l2))) h) :
    HCalls Try.prog 26 ⟨[.slice b n c, .slice b2 n2 c2]⟩ h K := by
  refine Sx.r00_SameAttrs.ok _ _ _ _ _ _ _ _ ?_
  have hl := r.len
  have hl2 := r2.len
  have hm : n ≤ maxLen := Nat.le_trans r.cap r.max
  simp only [maxLen] at hm
  refine spl (fun hn => ⟨n + 1, ?_⟩) fun hn => ?_
  · have key : ∀ k i, i + k = n → (∀ j (h1 : j < l.length) (h2 : j < l2.length), j < i → l[j] = l2[j]) →
        Sx.r00_SameAttrs.n7_L (fun h => K (.bool true) h) (fun h => K (.bool true) h) (fun y4 h => K (.bool y4) h) (k + 1) b n c b2 n2 c2 (i : Int) h := by
      intro k
      induction k with
      | zero =>
        intro i hi hall
        refine splF (by omega) ?_
        have : l = l2 := list_eq_of (by omega) fun j h1 h2 => hall j h1 h2 (by omega)
        rw [decide_eq_true this] at hk
        exact hk
      | succ k ih =>
        intro i hi hall
        refine splT (by omega) (r.idxN (by omega) rfl fun a hA => ldAttr hA fun _ _ => r2.idxN (i := i) (by omega) rfl fun a2 hA2 => ldAttr hA2 fun _ _ => attrNe ?_)
        refine condB (fun hd => ?_) fun hd => ⟨rngI (by omega) (by omega), ih (i + 1) (by omega) fun j h1 h2 hj => ?_⟩
        · have : l ≠ l2 := fun e => by subst e; simp at hd
          rw [decide_eq_false this] at hk
          exact hk
        · by_cases e : j < i
          · exact hall j h1 h2 e
          · have : j = i := by omega
            subst this
            simpa using hd
    exact key n 0 (by omega) fun j _ _ hj => absurd hj (Nat.not_lt_zero _)
  · have : l ≠ l2 := fun e => hn (by rw [← hl, ← hl2, e])
    rw [decide_eq_false this] at hk
    exact hk
end
/-! ### all fields alike -/
noncomputable def sameN (a b : List NodeV) : Bool := @decide (a = b) (Classical.propDecidable _)
theorem sameN_true {a b : List NodeV} (h : a = b) : sameN a b = true := by unfold sameN; exact @decide_eq_true (a = b) (Classical.propDecidable _) h
theorem sameN_false {a b : List NodeV} (h : a ≠ b) : sameN a b = false := by unfold sameN; exact @decide_eq_false (a = b) (Classical.propDecidable _) h
theorem sameN_iff {a b : List NodeV} : sameN a b = true ↔ a = b := ⟨fun h => Classical.byContradiction fun hn => (by rw [sameN_false hn] at h; cases h), sameN_true⟩
theorem nodeV_ext {x y : NodeV} (h1 : x.kind = y.kind) (h2 : x.space = y.space) (h3 : x.name = y.name) (h4 : x.attrs = y.attrs) (h5 : x.text = y.text) (h6 : x.kids = y.kids) : x = y := by
  cases x; cases y
  simp only [NodeV.kind, NodeV.space, NodeV.name, NodeV.attrs, NodeV.text, NodeV.kids] at *
  subst h1; subst h2; subst h3; subst h4; subst h5; subst h6; rfl
theorem row_zero {A : Nat → Prop} {h : H} {b : Option Addr} {n c : Nat} {l : List NodeV} (r : Row (elNode 0) A h b n c l) : l = [] := by
  cases l with
  | nil => rfl
  | cons x l =>
    obtain ⟨a, _, _, cs, hR, _⟩ := r.at' 0 x rfl
    exact hR.elim
theorem sameNodes_calls : ∀ (d : Nat) {A B : Nat → Prop} {h : H} {b b2 : Option Addr} {n c n2 c2 : Nat} {K : Value → H → Prop} {l l2 : List NodeV} (r : Row (elNode d) A h b n c l) (r2 : Row (elNode d) B h b2 n2 c2 l2) (hk : ∀ h', KB h h' → K (.bool (sameN l l2)) h'),
    HCalls Try.prog 11 ⟨[.slice b n c, .slice b2 n2 c2]⟩ h K := by
  intro d
  induction d with
  | zero =>
    intro A B h b b2 n c n2 c2 K l l2 r r2 hk
    have e1 := row_zero r
    have e2 := row_zero r2
    have hl := r.len
    have hl2 := r2.len
    subst e1; subst e2
    rw [sameN_true rfl] at hk
    have hl : 0 = n := hl
    have hl2 : 0 = n2 := hl2
    refine Sx.r00_SameNodes.ok _ _ _ _ _ _ _ _ (splT (by omega) ⟨1, ?_⟩)
    exact splF (by omega) (hk h (KB.refl h))
  | succ d ihd =>
    intro A B h b b2 n c n2 c2 K l l2 r r2 hk
    have hl := r.len
    have hl2 := r2.len
    have hm : n ≤ maxLen := Nat.le_trans r.cap r.max
    simp only [maxLen] at hm
    refine Sx.r00_SameNodes.ok _ _ _ _ _ _ _ _ (spl (fun hn => ⟨n + 1, ?_⟩) fun hn => ?_)
    · have key : ∀ k i h1, i + k = n → KB h h1 → (∀ j (h1 : j < l.length) (h2 : j < l2.length), j < i → l[j] = l2[j]) →
          Sx.r00_SameNodes.n7_L (fun h => K (.bool true) h) (fun h => K (.bool true) h) (fun y4 h => K (.bool y4) h) (k + 1) b n c b2 n2 c2 (i : Int) h1 := by
        intro k
        induction k with
        | zero =>
          intro i h1 hi k1 hall
          unfold Sx.r00_SameNodes.n7_L
          refine splF (by omega) ?_
          have : l = l2 := list_eq_of (by omega) fun j h1 h2 => hall j h1 h2 (by omega)
          have h3 := hk h1 k1
          rw [sameN_true this] at h3
          exact h3
        | succ k ih =>
          intro i h1 hi k1 hall
          have hil : i < l.length := by omega
          have hil2 : i < l2.length := by omega
          have no : ∀ h', KB h h' → l[i] ≠ l2[i] → K (.bool false) h' := fun h' k' hne => by
            have h3 := hk h' k'
            rw [sameN_false (fun e => hne (by subst e; rfl))] at h3
            exact h3
          unfold Sx.r00_SameNodes.n7_L
          refine splT (by omega) ((r.kb k1).idxN hil rfl fun a hA => ldNode hA fun ab an ac kb kn kc ra hz rk hz2 _ _ _ _ => newx_var fun a3 h3 v3 k3 e3 s3 => stL_var0 v3 (Nat.le_refl 6) fun h4 v4 k4 s4 => ?_)
          have k14 : KB h1 h4 := KB.step k3 k4 (by omega)
          refine ((r2.kb k1).kb k14).idxN (i := i) hil2 rfl fun a2 hA2 => ldNode hA2 fun ab2 an2 ac2 kb2 kn2 kc2 ra2 hz3 rk2 hz4 _ _ _ _ => newx_var fun a5 h5 v5 k5 e5 s5 => stL_var0 v5 (Nat.le_refl 6) fun h6 v6 k6 s6 => ?_
          have k46 : KB h4 h6 := KB.step k5 k6 (by omega)
          have k16 : KB h h6 := (k1.trans k14).trans k46
          have v4 : Var h6 a3 53 (nvCells l[i] ab an ac kb kn kc) := v4.kb k46
          have v6 : Var h6 a5 53 (nvCells l2[i] ab2 an2 ac2 kb2 kn2 kc2) := v6
          refine ⟨_, v4.cell 0 rfl, _, v6.cell 0 rfl, spl (fun e1 => ?_) fun e1 => no h6 k16 fun e => e1 (by rw [e])⟩
          refine ⟨_, v4.cell 1 rfl, _, v6.cell 1 rfl, spl (fun e2 => ?_) fun e2 => no h6 k16 fun e => e2 (by rw [e])⟩
          refine ⟨_, v4.cell 2 rfl, _, v6.cell 2 rfl, spl (fun e3 => ?_) fun e3 => no h6 k16 fun e => e3 (by rw [e])⟩
          refine ⟨_, v4.cell 4 rfl, _, v6.cell 4 rfl, spl (fun e4 => ?_) fun e4 => no h6 k16 fun e => e4 (by rw [e])⟩
          refine ⟨_, _, _, v4.cell 3 rfl, _, _, _, v6.cell 3 rfl, sameAttrs_calls ((ra.kb k14).kb k46) (ra2.kb k46) (vBool_mk (condB (fun e5 => ?_) fun e5 => no h6 k16 fun e => by have := of_decide_eq_false e5; exact this (by rw [e])))⟩
          refine ⟨_, _, _, v4.cell 5 rfl, _, _, _, v6.cell 5 rfl, ihd ((rk.kb k14).kb k46) (rk2.kb k46) fun h7 k7 => vBool_mk (condB (fun e6 => ⟨rngI (by omega) (by omega), ih (i + 1) h7 (by omega) (k16.trans k7) fun j h1 h2 hj => ?_⟩) fun e6 => no h7 (k16.trans k7) fun e => by rw [sameN_true (by rw [e])] at e6; cases e6)⟩
          by_cases e : j < i
          · exact hall j h1 h2 e
          · have : j = i := by omega
            subst this
            exact nodeV_ext e1 e2 e3 (of_decide_eq_true e5) e4 (sameN_iff.1 e6)
      exact key n 0 h (by omega) (KB.refl h) fun j _ _ hj => absurd hj (Nat.not_lt_zero _)
    · have : l ≠ l2 := fun e => hn (by rw [← hl, ← hl2, e])
      have h3 := hk h (KB.refl h)
      rw [sameN_false this] at h3
      exact h3
/-! ### own copies -/
section
variable {h : H} {K : Value → H → Prop}
end
end Go.Proofs
namespace Go.Proofs
open Go Go.Sh
set_option linter.unusedVariables false
set_option maxRecDepth 100000
end Go.Proofs
/- marks: what stands in memory; behind; alike, of the document; lists of marks that are the same. No condition. -/
namespace Go.Proofs
open Go Go.Sh
set_option linter.unusedVariables false
set_option maxRecDepth 100000
section
variable {A : Nat → Prop} {h : H} {a : Addr}
/-- a mark's cells -/
abbrev MarkR (A : Nat → Prop) (h : H) (m : MarkP) (b : Option Addr) (n c : Nat) : Prop := elMark.R A h m [.int .i64 m.1, S m.2.1, .slice b n c]
theorem markR {m : MarkP} {b : Option Addr} {n c : Nat} (r : Row elAttr A h b n c m.2.2) (hz : b = none → c = 0) (hr : Rng .i64 m.1) (hs : m.2.1.length ≤ maxLen) : MarkR A h m b n c :=
  ⟨[.int .i64 m.1], [S m.2.1, .slice b n c], rfl, ⟨rfl, hr⟩, [S m.2.1], [.slice b n c], rfl, ⟨rfl, hs⟩, b, n, c, rfl, r, hz⟩
theorem MarkR.inv {m : MarkP} {b : Option Addr} {n c : Nat} (r : MarkR A h m b n c) : Row elAttr A h b n c m.2.2 ∧ (b = none → c = 0) ∧ Rng .i64 m.1 ∧ m.2.1.length ≤ maxLen := by
  obtain ⟨c1, c2, e, ⟨e1, hr⟩, c3, c4, e2, ⟨e3, hs⟩, b', n', c', e4, r', hz⟩ := r
  subst e4; subst e3; subst e1; subst e2
  simp at e
  obtain ⟨rfl, rfl, rfl⟩ := e
  exact ⟨r', hz, hr, hs⟩
theorem MarkR.kb {h' : H} {m : MarkP} {b : Option Addr} {n c : Nat} (r : MarkR A h m b n c) (k : KB h h') : MarkR A h' m b n c := elMark.keep _ _ _ _ _ _ r ((SK.w k).less fun _ h => h.2) fun _ h _ => h
theorem MarkR.kw {h' : H} {m : MarkP} {b : Option Addr} {n c : Nat} (r : MarkR A h m b n c) (k : KW h h') : MarkR A h' m b n c := elMark.keep _ _ _ _ _ _ r (k.less fun _ h => h.2) fun _ h _ => h
theorem MarkR.any {m : MarkP} {b : Option Addr} {n c : Nat} (r : MarkR A h m b n c) : MarkR (fun _ => True) h m b n c := elMark.keep _ _ _ _ _ _ r (Keep.refl _ _) fun _ _ _ => trivial
theorem ldMark {m : MarkP} {K : Int → Bs → Option Addr → Nat → Nat → Prop} (hA : At elMark A h a m) (hk : ∀ b n c, MarkR A h m b n c → K m.1 m.2.1 b n c) :
    ∃ i, cell h (a.add 0) = some (.int .i64 i) ∧ ∃ s, cell h (a.add 1) = some (S s) ∧ ∃ b n c, cell h (a.add 2) = some (.slice b n c) ∧ K i s b n c :=
  ⟨_, hA.fst.int.1, _, hA.snd.fst.str.1, ldSl (hA.snd.sndAt (k := 2) rfl) fun b n c r hz => hk b n c (markR r hz hA.fst.int.2 hA.snd.fst.str.2)⟩
end
def behindTo (l : List MarkP) : Nat → Nat
  | 0 => 0
  | i + 1 => if (l.getD i (0, [], [])).1 < 0 then i + 1 else behindTo l i
def behind (l : List MarkP) : Nat := behindTo l l.length
def alikeP (x y : MarkP) : Bool := decide (x.2.1 = y.2.1) && (decide (x.2.2.length = y.2.2.length) && x.2.2.all fun a => decide (a ∈ y.2.2))
section
variable {A B : Nat → Prop} {h : H} {b b2 : Option Addr} {n c n2 c2 : Nat}
end
end Go.Proofs
/- marks: slices.Backward of marks. No condition. -/
namespace Go.Proofs
open Go Go.Sh
set_option linter.unusedVariables false
set_option maxRecDepth 100000
/-- what a walk backward hands over, from a place on -/
def Backs (A : Nat → Prop) (h : H) (l : List MarkP) : Nat → List (List Value) → Prop
  | 0, xs => xs = []
  | i + 1, xs => ∃ (hi : i < l.length) (b : Option Addr) (n c : Nat) (rest : List (List Value)), MarkR A h l[i] b n c ∧ xs = [.int .i64 i, .agg ⟨[.int .i64 l[i].1, S l[i].2.1, .slice b n c]⟩] :: rest ∧ Backs A h l i rest
theorem Backs.kw {A : Nat → Prop} {h h' : H} {l : List MarkP} (k : KW h h') : ∀ {i : Nat} {xs : List (List Value)}, Backs A h l i xs → Backs A h' l i xs
  | 0, _, e => e
  | i + 1, _, ⟨hi, b, n, c, rest, hm, e, hr⟩ => ⟨hi, b, n, c, rest, hm.kw k, e, hr.kw k⟩
theorem Backs.of {A : Nat → Prop} {h : H} {b : Option Addr} {n c : Nat} {l : List MarkP} (r : Row elMark A h b n c l) : ∀ {i : Nat}, i ≤ l.length → ∃ xs, Backs A h l i xs
  | 0, _ => ⟨[], rfl⟩
  | i + 1, hi => by
    obtain ⟨rest, hr⟩ := Backs.of r (i := i) (by omega)
    obtain ⟨a, e, hA⟩ := r.at' i _ (List.getElem?_eq_getElem (by omega))
    obtain ⟨b', n', c', _, r', hz⟩ := (hA.snd.sndAt (k := 2) rfl).sl
    exact ⟨_, by omega, b', n', c', rest, markR r' hz hA.fst.int.2 hA.snd.fst.str.2, rfl, hr⟩
theorem Backs.len {A : Nat → Prop} {h : H} {l : List MarkP} : ∀ {i : Nat} {xs : List (List Value)}, Backs A h l i xs → ∀ x ∈ xs, x.length = 2
  | 0, _, e, x, hx => by simp [Backs] at e; rw [e] at hx; cases hx
  | i + 1, _, ⟨hi, b, n, c, rest, hm, e, hr⟩, x, hx => by
    rw [e] at hx
    rcases List.mem_cons.1 hx with rfl | hx
    · rfl
    · exact hr.len x hx
/-- slices.Backward of marks hands over what it says -/
theorem backward_emits {A : Nat → Prop} {h : H} {b : Option Addr} {n c : Nat} {l : List MarkP} {a : Addr} (r : Row elMark A h b n c l) (v : Var h a 35 [.slice b n c]) :
    ∃ xs, Backs A h l l.length xs ∧ Emits Try.prog (.func (.func 59) ⟨[]⟩ ⟨[.pointer (some a)]⟩) h xs Non (fun k => A k ∨ k = a.block) := by
  -- the cells, once and for all
  have hl := r.len
  have hm : n ≤ maxLen := Nat.le_trans r.cap r.max
  simp only [maxLen] at hm
  have cellsOf : ∀ i, i ≤ l.length → ∃ xs, Backs A h l i xs ∧ ∀ (L : Nat) (J : List (List Value) → H → Prop) (Stop : H → Prop),
      (∀ x rest h', J (x :: rest) h' → YCalls Try.prog L ⟨x⟩ h' fun v h'' => (v = .bool true ∧ J rest h'' ∧ KpR (fun k => A k ∨ k = a.block) h' h'') ∨ (v = .bool false ∧ Stop h'' ∧ KpR (fun k => A k ∨ k = a.block) h' h'')) →
      ∀ h', Keep (fun k => (A k ∨ k = a.block) ∧ k < h.size) h h' → J xs h' →
        Sx.slices_Backward_1_apiMark1.n3_L (fun h3 => J [] h3 ∨ Stop h3) (fun h3 => J [] h3 ∨ Stop h3) (fun h3 => J [] h3 ∨ Stop h3) (i + 1) (.func (.yield L) ⟨[]⟩ ⟨[]⟩) a ((i : Int) - 1) h' := by
    intro i
    induction i with
    | zero =>
      intro _
      exact ⟨[], rfl, fun L J Stop hY h' hk hJ => splF (by omega) (.inl hJ)⟩
    | succ i ih =>
      intro hi
      obtain ⟨rest, hr, hw⟩ := ih (by omega)
      obtain ⟨ar, ear, hA⟩ := r.at' i _ (List.getElem?_eq_getElem (by omega))
      obtain ⟨b', n', c', eb, r', hz⟩ := (hA.snd.sndAt (k := 2) rfl).sl
      refine ⟨_, ⟨by omega, b', n', c', rest, markR r' hz hA.fst.int.2 hA.snd.fst.str.2, rfl, hr⟩, fun L J Stop hY h' hk hJ => ?_⟩
      have hx : ((i + 1 : Nat) : Int) - 1 = (i : Int) := by omega
      rw [hx]
      have hal : A ar.block := by have := hA.1; rwa [add_block] at this
      have hcell : ∀ j x, cell h ((ar.add (i * 3)).add j) = some x → cell h' ((ar.add (i * 3)).add j) = some x := fun j x e => hk.cell (by rw [add_block, add_block]; exact ⟨.inl hal, by have := cell_lt e; rwa [add_block, add_block] at this⟩) e
      have v' : Var h' a 35 [.slice b n c] := v.keep hk ⟨.inr rfl, v.lt⟩
      refine splT (by omega) ⟨_, _, _, v'.cell0 rfl, ⟨by omega, by omega⟩, ?_⟩
      rw [ear]
      refine ⟨_, hcell 0 _ hA.fst.int.1, _, hcell 1 _ hA.snd.fst.str.1, _, _, _, hcell 2 _ eb, ?_⟩
      rw [callYield]
      refine fun w hw2 => ?_
      obtain ⟨fn, tmps, assign, body, hrun, hrd⟩ := hY _ _ _ hJ w hw2
      refine ⟨fn, tmps, assign, body, hrun, hrd.mono ?_⟩
      rintro e w' ⟨v, he, ho, hor⟩
      refine ⟨v, he, ho, ?_⟩
      have hxx : (i : Int) - 1 = (i : Int) - (1 : Int) := rfl
      rcases hor with ⟨rfl, hJ', hkr⟩ | ⟨rfl, hS, hkr⟩
      · exact ⟨rng64 (by omega) (by omega), hw L J Stop hY _ (Keep.trans (hw2 ▸ hk) (hkr.keep.less fun _ h => h.1)) hJ'⟩
      · exact .inr hS
  obtain ⟨xs, hB, hw⟩ := cellsOf l.length (Nat.le_refl _)
  refine ⟨xs, hB, 59, _, _, rfl, fun args w => by kernel_rfl, fun L J Stop h2 hn hJ hS hY hj => ?_⟩
  refine Sx.slices_Backward_1_apiMark1.ok (.func (.yield L) ⟨[]⟩ ⟨[]⟩) a _ _ ?_
  refine ⟨_, _, _, (v.kw hn.kw).cell0 rfl, rng64 (by omega) (by omega), l.length + 1, ?_⟩
  rw [← hl]
  exact hw L J Stop hY h2 (hn.kw.less fun _ h => h.2) hj
theorem rdMark {i j : Int} {s : Bs} {b : Option Addr} {n c : Nat} {K : Int → Int → Bs → Option Addr → Nat → Nat → Prop} (h : K i j s b n c) :
    uncons [.int .i64 i, .agg ⟨[.int .i64 j, S s, .slice b n c]⟩] fun e l => vInt .i64 e fun i => uncons l fun e l2 => vAgg e fun l3 => uncons l3 fun e l4 => vInt .i64 e fun j => uncons l4 fun e l5 => vStr e fun s => uncons l5 fun e l6 => vSlice e fun b n c => unnil l6 (unnil l2 (K i j s b n c)) := h
section
variable {A : Nat → Prop} {h : H} {b : Option Addr} {n c : Nat} {l : List MarkP}
/-- slices.Backward -/
theorem backward_calls (r : Row elMark A h b n c l) {K : Value → H → Prop} (hk : ∀ a h', Var h' a 35 [.slice b n c] → KB h h' → a.block = h.size → K (.func (.func 59) ⟨[]⟩ ⟨[.pointer (some a)]⟩) h') :
    HCalls Try.prog 41 ⟨[.slice b n c]⟩ h K :=
  Sx.slices_Backward_apiMark.ok _ _ _ _ _ (newx_var fun a1 h1 v1 k1 e1 _ => hk a1 h1 v1 k1 e1)
end
end Go.Proofs
/- marks: the first place at which something holds; lists of open elements that are asked; Lost, of both texts. No condition. -/
namespace Go.Proofs
open Go Go.Sh
set_option linter.unusedVariables false
set_option maxRecDepth 100000
/-- the first place at which something holds -/
def idxQ {α : Type} (l : List α) (p : α → Bool) : Int := match l.findIdx? p with | some i => (i : Int) | none => -1
theorem idxQ_some {α : Type} {l : List α} {p : α → Bool} {i : Nat} (hi : i < l.length) (hp : p l[i] = true) (hall : ∀ j (hj : j < l.length), j < i → p l[j] = false) : idxQ l p = i := by
  have : l.findIdx? p = some i := List.findIdx?_eq_some_iff_getElem.2 ⟨hi, hp, fun j hj => by simp [hall j (by omega) hj]⟩
  unfold idxQ; rw [this]
theorem idxQ_none {α : Type} {l : List α} {p : α → Bool} (hall : ∀ j (hj : j < l.length), p l[j] = false) : idxQ l p = -1 := by
  have : l.findIdx? p = none := List.findIdx?_eq_none_iff.2 fun x hx => by
    obtain ⟨j, hj, e⟩ := List.mem_iff_getElem.1 hx
    rw [← e]; exact hall j hj
  unfold idxQ; rw [this]
theorem idxQ_any {α : Type} {l : List α} {p : α → Bool} : 0 ≤ idxQ l p ↔ l.any p = true := by
  unfold idxQ
  cases h : l.findIdx? p with
  | none =>
    have := List.findIdx?_eq_none_iff.1 h
    refine ⟨fun h => absurd h (by decide), fun h2 => ?_⟩
    obtain ⟨x, hx, hp⟩ := List.any_eq_true.1 h2
    rw [this x hx] at hp; cases hp
  | some i =>
    obtain ⟨hi, hp, _⟩ := List.findIdx?_eq_some_iff_getElem.1 h
    exact ⟨fun _ => List.any_eq_true.2 ⟨_, List.getElem_mem _, hp⟩, fun _ => by simp⟩
theorem OpenR.any {A : Nat → Prop} {h : H} {m : OpenP} (r : OpenR A h m) : OpenR (fun _ => True) h m := elOpen.keep _ _ _ _ _ _ r (Keep.refl _ _) fun _ _ _ => trivial
theorem OpenR.kb {A : Nat → Prop} {h h' : H} {m : OpenP} (r : OpenR A h m) (k : KB h h') : OpenR A h' m := elOpen.keep _ _ _ _ _ _ r ((SK.w k).less fun _ h => h.2) fun _ h _ => h
theorem ldOpenR {A : Nat → Prop} {h : H} {a : Addr} {m : OpenP} {K : Int → Int → Bs → Int → Prop} (hA : At elOpen A h a m) (hk : OpenR A h m → K m.1 m.2.1 m.2.2.1 m.2.2.2) :
    ∃ i, cell h (a.add 0) = some (.int .i64 i) ∧ ∃ j, cell h (a.add 1) = some (.int .u8 j) ∧ ∃ s, cell h (a.add 2) = some (S s) ∧ ∃ k, cell h (a.add 3) = some (.int .u8 k) ∧ K i j s k :=
  have h1 := hA.fst.int
  have h2 := hA.snd.fst.int
  have h3 := (hA.snd.sndAt (k := 2) rfl).fst.str
  have h4 := ((hA.snd.sndAt (k := 2) rfl).sndAt (k := 3) rfl).int
  ⟨_, h1.1, _, h2.1, _, h3.1, _, h4.1, hk ⟨[.int .i64 m.1], _, rfl, ⟨rfl, h1.2⟩, [.int .u8 m.2.1], _, rfl, ⟨rfl, h2.2⟩, [S m.2.2.1], _, rfl, ⟨rfl, h3.2⟩, rfl, h4.2⟩⟩
section
variable {A B : Nat → Prop} {h : H} {b b2 : Option Addr} {n c n2 c2 : Nat} {l : List MarkP}
theorem indexFuncOpen_calls {l : List OpenP} {f : Value} {p : OpenP → Bool} (r : Row elOpen A h b n c l)
    (hf : ∀ x h1 (next : Value → H → Prop), x ∈ l → KB h h1 → OpenR A h1 x → (∀ h2, KB h1 h2 → next (.bool (p x)) h2) → CallV Try.prog 4 f ⟨[.agg ⟨[.int .i64 x.1, .int .u8 x.2.1, S x.2.2.1, .int .u8 x.2.2.2]⟩]⟩ h1 next)
    {K : Value → H → Prop} (hk : ∀ h', KB h h' → K (.int .i64 (idxQ l p)) h') :
    HCalls Try.prog 45 ⟨[.slice b n c, f]⟩ h K := by
  refine Sx.slices_IndexFunc_apiOpen.ok _ _ _ _ _ _ ?_
  have hl := r.len
  have hm : n ≤ maxLen := Nat.le_trans r.cap r.max
  simp only [maxLen] at hm
  refine ⟨n + 1, ?_⟩
  have key : ∀ k i h1, i + k = n → KB h h1 → (∀ j (h1 : j < l.length), j < i → p l[j] = false) →
      Sx.slices_IndexFunc_apiOpen.n6_L (fun h => K (.int .i64 (-1)) h) (fun h => K (.int .i64 (-1)) h) (fun y4 h => K (.int .i64 y4) h) (k + 1) b n c f (n : Int) (i : Int) h1 := by
    intro k
    induction k with
    | zero =>
      intro i h1 hi k1 hall
      have := hk h1 k1
      rw [idxQ_none fun j hj => hall j hj (by omega)] at this
      exact splF (by omega) this
    | succ k ih =>
      intro i h1 hi k1 hall
      have hil : i < l.length := by omega
      refine splT (by omega) ((r.kb k1).idxN hil rfl fun a hA => ldOpenR hA fun hR => hf _ h1 _ (List.getElem_mem _) k1 hR fun h2 k2 => ?_)
      refine condB (fun hd => ?_) fun hd => ⟨rng64 (by omega) (by omega), ih (i + 1) h2 (by omega) (k1.trans k2) fun j h1 hj => ?_⟩
      · have := hk h2 (k1.trans k2)
        rwa [idxQ_some hil hd hall] at this
      · by_cases e : j < i
        · exact hall j h1 e
        · have : j = i := by omega
          subst this
          exact hd
  exact key n 0 h (by omega) (KB.refl h) fun j _ hj => absurd hj (Nat.not_lt_zero _)
end
section
variable {A B : Nat → Prop} {h : H} {b b2 : Option Addr} {n c n2 c2 : Nat} {l : List MarkP} {o : List OpenP}
end
end Go.Proofs
/- marks: Push, of the document. No condition. -/
namespace Go.Proofs
open Go Go.Sh
set_option linter.unusedVariables false
set_option maxRecDepth 100000
theorem apdMark : Apd Try.prog elMark 35 49 48 := apd_of (sz := 3) (by kernel_rfl) rfl
section
variable {A : Nat → Prop} {h : H} {b : Option Addr}
/-- a mark in a row of one's own -/
theorem markPart {l : List MarkP} {xs : List Value} (he : Enc elMark A h l xs) (hc : Cells h b xs) {i : Nat} (hi : i < l.length) :
    ∃ a b2 n2 c2, b = some a ∧ cell h ((a.add (i * 3)).add 0) = some (.int .i64 l[i].1) ∧ cell h ((a.add (i * 3)).add 1) = some (S l[i].2.1) ∧ cell h ((a.add (i * 3)).add 2) = some (.slice b2 n2 c2) ∧ MarkR A h l[i] b2 n2 c2 := by
  obtain ⟨cs, hR, hcs⟩ := he.at (List.getElem?_eq_getElem hi)
  have hR0 := hR
  obtain ⟨c1, c2, e, h1, c3, c4, e2, h2, b2, n2, cc2, e3, h3, h4⟩ := hR
  rw [h1.1] at e
  rw [h2.1] at e2
  rw [e3] at e2
  rw [e2] at e
  subst e
  obtain ⟨a, ea, ec⟩ := hc _ _ (hcs 0 _ rfl)
  subst ea
  have cel : ∀ j v, ([Value.int .i64 l[i].1] ++ ([S l[i].2.1] ++ [Value.slice b2 n2 cc2]))[j]? = some v → cell h ((a.add (i * 3)).add j) = some v := fun j v hv => by
    obtain ⟨a', ea', ec'⟩ := hc _ _ (hcs j v hv)
    cases ea'
    rw [add_add]; exact ec'
  exact ⟨a, b2, n2, cc2, rfl, cel 0 _ rfl, cel 1 _ rfl, cel 2 _ rfl, hR0⟩
end
/-- the places from one up to another one at which marks are alike -/
def sames (l : List MarkP) (m : MarkP) (s k : Nat) : List Nat := (List.range' s k).filter fun j => alikeP m (l.getD j (0, [], []))
def pushS (l : List MarkP) (m : MarkP) : List Nat := if m.1 < 0 then [] else sames l m (behind l) (l.length - behind l)
def pushP (l : List MarkP) (m : MarkP) : List MarkP := if (pushS l m).length < 3 then l ++ [m] else l.eraseIdx ((pushS l m).headD 0) ++ [m]
section
variable {A B : Nat → Prop} {h : H} {b b2 : Option Addr} {n c n2 c2 : Nat} {l : List MarkP} {m : MarkP}
end
end Go.Proofs
/- place: a World's rows are replaced; copies of rows; lists of open elements that are the same; Note. No condition. -/
namespace Go.Proofs
open Go Go.Sh
set_option linter.unusedVariables false
set_option maxRecDepth 100000
/-! ### a copy of a row -/
theorem cloneA_k {α : Type} {E : El α} {t e0 by' : Nat} (ap : Apd Try.prog E t e0 by') (hsl : isSlD (Try.prog.underlying t) = true) {A : Nat → Prop} {h : H} {b : Option Addr} {n c : Nat} {l : List α} {xs : List Value} {x y : Operand} (hA : ∀ k, A k → k < h.size)
    (he : Enc E A h l xs) (hc : Cells h b xs) (hl : l.length = n) (hcap : n ≤ c) (hz : b = none → c = 0) (hn : n ≤ 1000000) (hb : by' ≤ 1000)
    {Kr : Option Addr → Nat → Nat → H → Prop} (hk : ∀ b' c' h', OwnA E A h' h.size e0 b' n c' l → KB h h' → Kr b' n c' h') :
    SemH Try.prog (binS .eql t x y (.slice b n c) (.slice none 0 0)) h fun v9 h10 => vBool v9 fun b11 => cond b11 (Kr none 0 0 h10) (newx h10 #[] e0 fun a12 h13 => SemH Try.prog (Builtin.append_ #[t, t] t ⟨[(.slice (some a12) 0 0), (.slice b n c)]⟩) h13 fun v14 h15 => vSlice v14 fun s16b s16n s16c => Kr s16b s16n s16c h15) := by
  refine (semR_slnil hsl ?_).h
  refine vBool_mk (condB (fun e => ?_) fun e => ?_)
  · have hb : b = none := by simpa using e
    have hc := hz hb
    have hn0 : n = 0 := by omega
    subst hn0
    have : l = [] := List.eq_nil_of_length_eq_zero hl
    subst this
    exact hk none 0 h (OwnA.none _ _ _ _) (KB.refl h)
  · refine newx_var (cs := []) fun a h1 v1 k1 e1 s1 => ?_
    have o1 : OwnA E A h1 h.size e0 (some a) 0 0 [] := ⟨OwnT.nil _ _ _ _ _, (fun q e => by cases e; omega), (fun q e => by cases e; exact v1.lt), fun e => by cases e⟩
    have hbb : (0 + n) * by' ≤ 140737488355328 := by
      have : (0 + n) * by' ≤ 1000000 * 1000 := Nat.mul_le_mul (by omega) hb
      omega
    refine OwnA.append ap o1 hA hl (he.keep ((KB.w k1).less fun k hk => hk.2) fun _ h _ => h) (fun j v hv => by
      obtain ⟨q, e, ec⟩ := hc j v hv
      exact ⟨q, e, (KB.w k1).cell (cell_lt ec) ec⟩) (by simp only [maxLen]; omega) hbb (by omega) fun b' c' h' o' g' => vSliceMk ?_
    rw [Nat.zero_add] at o' ⊢
    exact hk b' c' h' o' (g'.kb0 k1 fun q e => by cases e; omega)
theorem cloneM_calls {A : Nat → Prop} {h : H} {K : Value → H → Prop} {b : Option Addr} {n c : Nat} {l : List MarkP} {xs : List Value} (hA : ∀ k, A k → k < h.size) (he : Enc elMark A h l xs) (hc : Cells h b xs) (hl : l.length = n) (hcap : n ≤ c) (hz : b = none → c = 0) (hn : n ≤ 1000000)
    (hk : ∀ b' c' h', OwnA elMark A h' h.size 49 b' n c' l → KB h h' → K (.slice b' n c') h') : HCalls Try.prog 62 ⟨[.slice b n c]⟩ h K :=
  Sx.slices_Clone_apiMark.ok _ _ _ _ _ (cloneA_k (Kr := fun b n c h => K (.slice b n c) h) apdMark (by kernel_rfl) hA he hc hl hcap hz hn (by decide) hk)
theorem cloneO_calls {h : H} {K : Value → H → Prop} {b : Option Addr} {n c : Nat} {l : List OpenP} {A0 : Nat → Prop} {xs : List Value} (he : Enc elOpen A0 h l xs) (hc : Cells h b xs) (hl : l.length = n) (hcap : n ≤ c) (hz : b = none → c = 0) (hn : n ≤ 1000000)
    (hk : ∀ b' c' h', OwnA elOpen Non h' h.size 39 b' n c' l → KB h h' → K (.slice b' n c') h') : HCalls Try.prog 76 ⟨[.slice b n c]⟩ h K :=
  Sx.slices_Clone_apiOpen.ok _ _ _ _ _ (cloneA_k (Kr := fun b n c h => K (.slice b n c) h) apdOpen (by kernel_rfl) (A := Non) (fun k hk => hk.elim) (Enc.flat flatOpen he) hc hl hcap hz hn (by decide) hk)
/-! ### a World's own parts are replaced -/
section
variable {h h1 : H} {K : Value → H → Prop} {col : Col} {s ty : Nat} {w t : Addr} {op : List OpenP} {mk : List MarkP} {fo : Bool} {hi : Int}
theorem notW (W : WorldW h col s ty w t op mk fo hi) {p k : Nat} {col' : Col} (hc : col' w.block = some (s, 0)) (hp : p ≠ 0) (h2 : col' k = none ∨ col' k = some (s, p)) : k ≠ w.block := fun e => by
  subst e
  rcases h2 with h2 | h2
  · rw [hc] at h2; cases h2
  · rw [hc] at h2; cases h2; exact hp rfl
theorem setMarks_k (W : WorldW h col s ty w t op mk fo hi) (f : Fresh h col) (k : KB h h1) {b : Option Addr} {n c : Nat} {mk' : List MarkP} (o' : OwnA elMark (Free col h) h1 h.size 49 b n c mk') {Q : H → Prop}
    (hk : ∀ h', WorldW h' (putB col h b (s, 2)) s ty w t op mk' fo hi → ExtP (fun k => k = s) h col h' (putB col h b (s, 2)) → Fresh h' (putB col h b (s, 2)) → cell h' (w.add 2) = some (.slice b n c) → Q h') : stL (w.add 2) [.slice b n c] 0 h1 Q := by
  obtain ⟨ob, oc, mb, mn, mc, v, o, om⟩ := W.ex
  refine stL_var (m := 2) (i := 0) (v.kb k) (by show 2 + 0 + 1 ≤ 5; omega) fun h3 v3 k3 s3 => ?_
  have hc1 : ∀ q, q < h.size → putB col h b (s, 2) q = col q := fun q hq => putB_old hq
  have hcw : putB col h b (s, 2) w.block = some (s, 0) := by rw [hc1 _ v.lt]; exact W.col
  have f1 : Fresh h1 (putB col h b (s, 2)) := f.putB k.1 o'.hi
  have hw1 : ∀ q, q < h1.size → ∀ p, p ≠ 0 → (putB col h b (s, 2) q = none ∨ putB col h b (s, 2) q = some (s, p)) → q ≠ w.block := fun q hq p hp h2 => notW W hcw hp h2
  have o1 : OwnC elOpen h1 (putB col h b (s, 2)) (s, 1) 39 ob op.length oc op := o.keep k.w hc1 fun q hq _ => hq
  have o3 := o1.keep (h' := h3) (col' := putB col h b (s, 2)) k3.w (fun _ _ => rfl) fun q hq h2 => hw1 q hq 1 (by decide) h2
  have om1 : OwnC elMark h1 (putB col h b (s, 2)) (s, 2) 49 b n c mk' := o'.toC k.1
  have om3 := om1.keep (h' := h3) (col' := putB col h b (s, 2)) k3.w (fun _ _ => rfl) fun q hq h2 => hw1 q hq 2 (by decide) h2
  exact hk h3 ⟨⟨ob, oc, b, n, c, v3, o3, om3⟩, hcw, W.rh⟩
    ⟨(k.less fun q hq => hq.1).trans (k3.less fun q hq e => hq.2 s 0 rfl (by rw [e]; exact W.col)), hc1⟩ (fun q hq => f1 q (by rw [← s3]; exact hq)) (v3.cell 2 rfl)
theorem setOpen_k (W : WorldW h col s ty w t op mk fo hi) (f : Fresh h col) (k : KB h h1) {b : Option Addr} {n c : Nat} {op' : List OpenP} (o' : OwnA elOpen Non h1 h.size 39 b n c op') {Q : H → Prop}
    (hk : ∀ h', WorldW h' (putB col h b (s, 1)) s ty w t op' mk fo hi → ExtP (fun k => k = s) h col h' (putB col h b (s, 1)) → Fresh h' (putB col h b (s, 1)) → cell h' (w.add 1) = some (.slice b n c) → Q h') : stL (w.add 1) [.slice b n c] 0 h1 Q := by
  obtain ⟨ob, oc, mb, mn, mc, v, o, om⟩ := W.ex
  have hlen := o'.len
  refine stL_var (m := 1) (i := 0) (v.kb k) (by show 1 + 0 + 1 ≤ 5; omega) fun h3 v3 k3 s3 => ?_
  have hc1 : ∀ q, q < h.size → putB col h b (s, 1) q = col q := fun q hq => putB_old hq
  have hcw : putB col h b (s, 1) w.block = some (s, 0) := by rw [hc1 _ v.lt]; exact W.col
  have f1 : Fresh h1 (putB col h b (s, 1)) := f.putB k.1 o'.hi
  have hw1 : ∀ q, q < h1.size → ∀ p, p ≠ 0 → (putB col h b (s, 1) q = none ∨ putB col h b (s, 1) q = some (s, p)) → q ≠ w.block := fun q hq p hp h2 => notW W hcw hp h2
  have om1 : OwnC elMark h1 (putB col h b (s, 1)) (s, 2) 49 mb mn mc mk := om.keep k.w hc1 fun q hq _ => hq
  have om3 := om1.keep (h' := h3) (col' := putB col h b (s, 1)) k3.w (fun _ _ => rfl) fun q hq h2 => hw1 q hq 2 (by decide) h2
  have oA : OwnA elOpen (Free col h) h1 h.size 39 b n c op' := ⟨o'.own.flat flatOpen, o'.lo, o'.hi, o'.nil⟩
  have o1 : OwnC elOpen h1 (putB col h b (s, 1)) (s, 1) 39 b n c op' := oA.toC k.1
  have o3 := o1.keep (h' := h3) (col' := putB col h b (s, 1)) k3.w (fun _ _ => rfl) fun q hq h2 => hw1 q hq 1 (by decide) h2
  subst hlen
  exact hk h3 ⟨⟨b, c, mb, mn, mc, v3, o3, om3⟩, hcw, W.rh⟩
    ⟨(k.less fun q hq => hq.1).trans (k3.less fun q hq e => hq.2 s 0 rfl (by rw [e]; exact W.col)), hc1⟩ (fun q hq => f1 q (by rw [← s3]; exact hq)) (v3.cell 1 rfl)
/-- a mark is of another element now -/
theorem setMarkId_k (W : WorldW h col s ty w t op mk fo hi) (f : Fresh h col) {a : Addr} {n c : Nat} (hc : cell h (w.add 2) = some (.slice (some a) n c)) {i : Nat} (hi1 : i < mk.length) {id : Int} (hid : Rng .i64 id) {Q : H → Prop}
    (hk : ∀ h', WorldW h' col s ty w t op (mk.set i (id, mk[i].2)) fo hi → ExtP (fun k => k = s) h col h' col → Fresh h' col → cell h' (w.add 2) = some (.slice (some a) n c) → Q h') : stL ((a.add (i * 3)).add 0) [.int .i64 id] 0 h Q := by
  obtain ⟨ob, oc, mb, mn, mc, v, o, om⟩ := W.ex
  have e1 : some (Value.slice (some a) n c) = some (.slice mb mn mc) := hc.symm.trans (v.cell 2 rfl)
  cases e1
  obtain ⟨xs, ow, en⟩ := om.own.own
  have hl := om.len
  rcases ow.is with ⟨h0, _⟩ | ⟨g, cur, ea, hbg, hg, hcs, htk⟩
  · omega
  cases ea
  have hgl : g < h.size := (Array.getElem?_eq_some_iff.1 hg).1
  have hxl : xs.length = n * 3 := ow.len
  have hcs : cur.size = c * 3 := hcs
  have htk : cur.toList.take (n * 3) = xs := htk
  have hcap := ow.cap
  have hin : i * 3 < n * 3 := by omega
  have ha : ((((⟨g, 0, none⟩ : Addr).add (i * 3)).add 0).add 0) = ⟨g, i * 3, none⟩ := by rw [add_zero', add_zero', addG]
  have hin2 : i * 3 < cur.size := by omega
  unfold stL
  rw [ha]
  refine ⟨⟨cur[i * 3], by unfold cell; simp only [hg]; simp [hin2]⟩, by unfold iced; simp only [hg]; simp, ?_⟩
  show Q (setc h ⟨g, i * 3, none⟩ (.int .i64 id))
  have hst : setc h ⟨g, i * 3, none⟩ (.int .i64 id) = h.setIfInBounds g (.cells (cur.setIfInBounds (i * 3) (.int .i64 id)) 49 (0, 0)) := by
    unfold setc
    apply Array.ext_getElem?
    intro k
    rw [Array.getElem?_modify, Array.getElem?_setIfInBounds]
    by_cases hk : g = k
    · subst hk
      rw [if_pos rfl, if_pos rfl, if_pos hgl, hg]; rfl
    · rw [if_neg hk, if_neg hk]
  have hcg := om.col _ rfl
  have hcg : col g = some (s, 2) := hcg
  have kx : KX g h (setc h ⟨g, i * 3, none⟩ (.int .i64 id)) := ⟨by rw [hst]; simp, fun k hk => by rw [hst, Array.getElem?_setIfInBounds, if_neg (fun e => hk e.symm)]⟩
  have hs : (setc h ⟨g, i * 3, none⟩ (.int .i64 id)).size = h.size := by rw [hst]; simp
  have hwg : w.block ≠ g := fun e => by have := W.col; rw [e, hcg] at this; cases this
  have v' : Var (setc h ⟨g, i * 3, none⟩ (.int .i64 id)) w ty [.pointer (some t), .slice ob op.length oc, .slice (some ⟨g, 0, none⟩) n c, .bool fo, .int .i64 hi] := v.keep kx.w hwg
  have o' := o.keep (h' := setc h ⟨g, i * 3, none⟩ (.int .i64 id)) (col' := col) kx.w (fun _ _ => rfl) fun k hk h2 e => by
    subst e
    rcases h2 with h2 | h2
    · rw [hcg] at h2; cases h2
    · rw [hcg] at h2; cases h2
  have hx : mk[i]? = some mk[i] := List.getElem?_eq_getElem hi1
  have en2 : Enc elMark (Free col h) h (mk.set i (id, mk[i].2)) (xs.set (i * 3 + 0) (.int .i64 id)) := Enc.set en hx (by decide) fun cs hR => by
    obtain ⟨c1, c2, e, h1, h2⟩ := hR
    rw [h1.1] at e
    subst e
    exact ⟨[.int .i64 id], c2, rfl, ⟨rfl, hid⟩, h2⟩
  have en3 : Enc elMark (Free col (setc h ⟨g, i * 3, none⟩ (.int .i64 id))) (setc h ⟨g, i * 3, none⟩ (.int .i64 id)) (mk.set i (id, mk[i].2)) (xs.set (i * 3 + 0) (.int .i64 id)) :=
    en2.keep (kx.w.less fun k hk e => by have h9 : col k = none := hk.1.1; rw [e, hcg] at h9; cases h9) fun k hk _ => ⟨hk.1, by rw [hs]; exact hk.2⟩
  refine hk _ ⟨⟨ob, oc, some ⟨g, 0, none⟩, n, c, v', o', ⟨⟨by rw [List.length_set]; exact hl, xs.set (i * 3 + 0) (.int .i64 id), ⟨by rw [List.length_set]; exact ow.len, ow.cap, ow.max, .inr ⟨g, cur.setIfInBounds (i * 3) (.int .i64 id), rfl, hbg, ?_, ?_, ?_⟩⟩, en3⟩, om.col, fun q e => by rw [hs]; exact om.hi q e, om.nil⟩⟩, W.col, W.rh⟩
    (ExtP.kx kx hcg rfl) (fun k hk => f k (by rw [← hs]; exact hk)) (v'.cell 2 rfl)
  · rw [hst, Array.getElem?_setIfInBounds, if_pos rfl, if_pos hgl]
  · rw [Array.size_setIfInBounds]; exact hcs
  · show (cur.setIfInBounds (i * 3) (.int .i64 id)).toList.take (n * 3) = _
    rw [Array.toList_setIfInBounds, set_take, htk]; rfl
end
/-! ### lists of open elements -/
section
variable {A B : Nat → Prop} {h : H} {K : Value → H → Prop} {b b2 : Option Addr} {n c n2 c2 : Nat}
end
theorem goodInsertR {m : WM} (G : GoodT m.ns) {sp : Int} {nm : Bs} {at' : List AttrP} : GoodT (insertM m sp nm at').ns := (G.addM _ _ _ _ _).putM _ _ _
theorem insert_lenR {m : WM} (G : GoodT m.ns) {sp : Int} {nm : Bs} {at' : List AttrP} : (insertM m sp nm at').ns.length = m.ns.length + 1 := by
  show (putM _ _ _ _).1.length = _
  rw [put_len (G.addM _ _ _ _ _)]
  show (m.ns ++ [_]).length = _
  simp
/-! ### Note -/
end Go.Proofs
/- place: Rebuild, Drop. No condition but that the tree is one and the library's variable holds a number. -/
namespace Go.Proofs
open Go Go.Sh
set_option linter.unusedVariables false
set_option maxRecDepth 100000
/-! ### plain -/
abbrev noMark : MarkP := (0, [], [])
/-- marks whose parts are short -/
def MarksW (l : List MarkP) : Prop := ∀ x ∈ l, x.2.1.length ≤ 1000000000 ∧ x.2.2.length ≤ 1000000 ∧ AttrsW x.2.2
theorem MarksW.set {l : List MarkP} (w : MarksW l) {i : Nat} (hi : i < l.length) (id : Int) : MarksW (l.set i (id, l[i].2)) := fun x hx => by
  rcases List.mem_or_eq_of_mem_set hx with h | h
  · exact w x h
  · rw [h]; exact w l[i] (List.getElem_mem hi)
def dropO (op : List OpenP) (id : Int) : List OpenP := if 0 < idxQ op (fun x => decide (x.1 = id)) then op.eraseIdx (idxQ op fun x => decide (x.1 = id)).toNat else op
def dropW (m : WM) (id : Int) : WM := { m with op := dropO m.op id }
theorem idxQ_lt {α : Type} {l : List α} {p : α → Bool} : idxQ l p < l.length ∧ -1 ≤ idxQ l p := by
  unfold idxQ
  cases h : l.findIdx? p with
  | none => exact ⟨by show (-1 : Int) < _; omega, Int.le_refl _⟩
  | some i =>
    obtain ⟨hi, _⟩ := List.findIdx?_eq_some_iff_getElem.1 h
    exact ⟨by show (i : Int) < _; omega, by show (-1 : Int) ≤ (i : Int); omega⟩
section
variable {A : Nat → Prop} {h : H} {K : Value → H → Prop} {col : Col} {w : Addr} {m : WM} {b : Option Addr} {n c : Nat}
theorem deleteO_calls {base i : Nat} {l : List OpenP} (o : OwnA elOpen Non h base 39 b n c l) (hi : i < n) (hk : ∀ h', OwnA elOpen Non h' base 39 b (n - 1) c (l.eraseIdx i) → Grow h h' b → K (.slice b (n - 1) c) h') :
    HCalls Try.prog 75 ⟨[.slice b n c, .int .i64 (i : Int), .int .i64 ((i + 1 : Nat) : Int)]⟩ h K := by
  have hcap := o.own.cap
  refine Sx.slices_Delete_apiOpen.ok _ _ _ _ _ _ _ ⟨⟨by omega, by omega, by omega, by omega⟩, splF (by omega) ⟨⟨by omega, by omega, by omega⟩, ⟨by omega, by omega, by omega⟩, ?_⟩⟩
  have e0 : (if c = Int.toNat (0 : Int) then b else Option.map (fun q => q.add (Int.toNat (0 : Int) * 4)) b) = b := by
    split
    · rfl
    · cases b with
      | none => rfl
      | some q => rfl
  rw [e0]
  exact delRow_k apdOpen (by kernel_rfl) o (fun k hk => hk.elim) hi (K := fun sb sn sc h => K (.slice sb sn sc) h) fun h' o' g' _ => hk h' o' g'
theorem drop_callsW (p : PW h col w m) {id : Int} (hl : m.op.length < 1000000) (hk : ∀ h' col', PW h' col' w (dropW m id) → ExtP PS h col h' col' → (0 < idxQ m.op (fun x => decide (x.1 = id)) → ∃ b c, cell h' (w.add 1) = some (.slice b (dropO m.op id).length c) ∧ (dropO m.op id).length + 1 ≤ c) → K (.tuple ⟨[]⟩) h') :
    HCalls Try.prog 64 ⟨[.pointer (some w), .int .i64 id]⟩ h K := by
  obtain ⟨t, ads, T, W⟩ := p.ex
  obtain ⟨ob, oc, mb, mn, mc, v, o, om⟩ := W.ex
  refine Sx.place_World_Drop.ok _ _ _ _ (newx_var fun a1 h1 v1 k1 e1 s1 => vSomeMk ⟨_, _, _, (v.kb k1).cell 1 rfl, ?_⟩)
  refine indexFuncOpen_calls (p := fun x => decide (x.1 = id)) (o.kb k1).row (fun x h2 next hx k2 hR hn => ?_) fun h2 k2 => vIntMk ?_
  · have e : CallV Try.prog 4 (.func (.func 74) ⟨[]⟩ ⟨[.pointer (some a1)]⟩) ⟨[.agg ⟨[.int .i64 x.1, .int .u8 x.2.1, S x.2.2.1, .int .u8 x.2.2.2]⟩]⟩ h2 next =
        HCalls Try.prog 74 ⟨[.agg ⟨[.int .i64 x.1, .int .u8 x.2.1, S x.2.2.1, .int .u8 x.2.2.2]⟩, .pointer (some a1)]⟩ h2 fun v h' => vBool v fun b => cond b (next (.bool true) h') (next (.bool false) h') := by kernel_rfl
    rw [e]
    refine Sx.place_World_Drop_1.ok _ _ _ _ _ _ _ (newx_var fun a8 h8 v8 k8 e8 _ => ⟨_, v8.cell 0 rfl, _, ((v1.kb k2).kb k8).cell0 rfl, ?_⟩)
    have := hn h8 k8
    refine spl (fun e => ?_) fun e => ?_
    · rw [decide_eq_true e] at this; exact this
    · rw [decide_eq_false e] at this; exact this
  · have k02 := k1.trans k2
    have hlt := idxQ_lt (l := m.op) (p := fun x => decide (x.1 = id))
    refine spl (fun hp => condT ?_) fun hp => condF ?_
    · obtain ⟨k, ek⟩ := Int.eq_ofNat_of_zero_le (Int.le_of_lt hp)
      have hkl : k < m.op.length := by have := hlt.1; rw [ek] at this; exact Int.ofNat_lt.1 this
      rw [ek]
      obtain ⟨xs, he, hc, _⟩ := (o.kb k02).parts
      refine vSomeMk ⟨_, _, _, (v.kb k02).cell 1 rfl, cloneO_calls he hc rfl o.cap.1 o.nil (by omega) fun b' c' h3 o3 k3 => vSliceMk ⟨rng64 (by show _ ≤ (k : Int) + 1; omega) (by show (k : Int) + 1 ≤ _; omega), ?_⟩⟩
      have e1 : ((k : Int) + (1 : Int)) = ((k + 1 : Nat) : Int) := rfl
      rw [e1]
      refine deleteO_calls o3 hkl fun h4 o4 g4 => vSliceMk (vSomeMk (setOpen_k (W.kb k02) (p.fresh.kb k02) (g4.kb0 k3 o3.lo) o4 fun h5 W5 E5 f5 c5 => ?_))
      have hd : dropO m.op id = m.op.eraseIdx k := by unfold dropO; rw [if_pos hp, ek]; rfl
      refine hk h5 _ ⟨t, ads, (T.kb k02).otherP (S := fun k => k = 2) (by decide) E5 f5, ?_⟩ ((ExtP.kb k02).trans (E5.mono fun s hs => .inr hs)) fun _ => ?_
      rotate_left
      · have hcap := o3.own.cap
        have hl5 : (dropO m.op id).length = m.op.length - 1 := by rw [hd, List.length_eraseIdx, if_pos hkl]
        rw [hl5]
        exact ⟨_, _, c5, by omega⟩
      show WorldW _ _ _ _ _ _ (dropO m.op id) _ _ _
      rw [hd]; exact W5
    · have hd : dropO m.op id = m.op := by unfold dropO; rw [if_neg hp]
      refine hk h2 col ?_ (.kb k02) fun h => absurd h hp
      have p2 := p.kb k02
      have e2 : dropW m id = m := by unfold dropW; rw [hd]
      rw [e2]; exact p2
end
end Go.Proofs
/- dom: the chapter's tree in memory: one row of nodes. No condition. dom: the chapter's tree: what is stored, and a node behind the others. No condition. dom: the chapter's tree: New, bare, Make, Copy. No condition. -/
namespace Go.Proofs
open Go Go.Sh
set_option linter.unusedVariables false
set_option maxRecDepth 100000
/-- a node and its slices -/
structure RawN where
  x : NodeM
  ab : Option Addr
  an : Nat
  ac : Nat
  kb : Option Addr
  kn : Nat
  kc : Nat
structure RawAt (h : H) (col : Col) (s i : Nat) (r : RawN) : Prop where
  ra : Row elAttr (Free col h) h r.ab r.an r.ac r.x.attrs
  az : r.ab = none → r.ac = 0
  ok : OwnI h r.kb r.kn r.kc r.x.kids
  hkc : ∀ q, r.kb = some q → col q.block = some (s, 2 * i + 3)
  rk : Rng .u8 r.x.kind
  rs : Rng .u8 r.x.space
  rp : Rng .i64 r.x.parent
  fa : r.x.attrs.length ≤ 1000000
  fn : r.x.name.length ≤ maxLen
  ft : r.x.text.length ≤ maxLen
section
variable {h h' : H} {K : Value → H → Prop} {col col' : Col} {s i p : Nat} {t a : Addr} {ns : List NodeM} {x y : NodeM} {lb : Option Addr} {lc : Nat} {rs : List RawN} {r : RawN}
theorem RawAt.keep (N : RawAt h col s i r) {B : Nat → Prop} (k : Keep B h h') (hc : ∀ k, k < h.size → col' k = col k) (hB : ∀ k, k < h.size → (col k = none ∨ col k = some (s, 2 * i + 3)) → B k) : RawAt h' col' s i r :=
  ⟨N.ra.keep (k.less fun q hq => hB q hq.1.2 (.inl hq.1.1)) (fun q hq hs => ⟨by rw [hc q hs]; exact hq.1, Nat.lt_of_lt_of_le hs k.1⟩), N.az, N.ok.keep k fun q e => hB _ (N.ok.hi q e) (.inr (N.hkc q e)), fun q e => by rw [hc _ (N.ok.hi q e)]; exact N.hkc q e, N.rk, N.rs, N.rp, N.fa, N.fn, N.ft⟩
/-! ### what is read -/
end
end Go.Proofs
namespace Go.Proofs
open Go Go.Sh
set_option linter.unusedVariables false
set_option maxRecDepth 100000
section
variable {h h' : H} {K : Value → H → Prop} {col col' : Col} {s i p : Nat} {t a : Addr} {ns : List NodeM} {x y : NodeM} {lb : Option Addr} {lc : Nat} {rs : List RawN} {r : RawN}
end
end Go.Proofs
namespace Go.Proofs
open Go Go.Sh
set_option linter.unusedVariables false
set_option maxRecDepth 100000
section
variable {h h' : H} {K : Value → H → Prop} {col col' : Col} {s i p : Nat} {t a : Addr} {ns : List NodeM} {x y : NodeM} {lb : Option Addr} {lc : Nat} {rs : List RawN} {r : RawN}
end
end Go.Proofs
/- dom: the chapter's tree: Cut, Put, Kids. No condition but that the tree is one. -/
namespace Go.Proofs
open Go Go.Sh
set_option linter.unusedVariables false
set_option maxRecDepth 100000
section
variable {h h' : H} {K : Value → H → Prop} {col col' : Col} {s i p : Nat} {t a : Addr} {ns : List NodeM} {x y : NodeM} {lb : Option Addr} {lc : Nat} {rs : List RawN} {r : RawN}
end
end Go.Proofs
/- dom: the chapter's tree: Move, Write. No condition but that the tree is one. -/
namespace Go.Proofs
open Go Go.Sh
set_option linter.unusedVariables false
set_option maxRecDepth 100000
section
variable {h h' : H} {K : Value → H → Prop} {col col' : Col} {s i p : Nat} {t a : Addr} {ns : List NodeM} {x y : NodeM} {lb : Option Addr} {lc : Nat} {rs : List RawN} {r : RawN}
end
end Go.Proofs
/- dom: the chapter's tree: Whole. No condition but that the tree is one and its nodes hold what their kinds have. -/
namespace Go.Proofs
open Go Go.Sh
set_option linter.unusedVariables false
set_option maxRecDepth 100000
section
variable {h h' : H} {K : Value → H → Prop} {col col' : Col} {s i p : Nat} {t a : Addr} {ns : List NodeM} {x y z : NodeM} {lb : Option Addr} {lc : Nat} {rs : List RawN} {r : RawN}
end
end Go.Proofs
/- place: the chapter's Lower, point, Until, Where. No condition. -/
namespace Go.Proofs
open Go Go.Sh
set_option linter.unusedVariables false
set_option maxRecDepth 100000
section
variable {A B : Nat → Prop} {h : H} {b b2 : Option Addr} {n c n2 c2 : Nat} {ns : List Bs} {s row : Bs} {x : OpenP}
end
section
variable {A B : Nat → Prop} {h : H} {b b2 : Option Addr} {n c n2 c2 : Nat} {l : List OpenP} {ns : List Bs} {s : Bs} {sc : Int}
end
/-! ### Lower -/
section
variable {h : H} {K : Value → H → Prop}
end
/-! ### point -/
section
variable {A : Nat → Prop} {h : H} {K : Value → H → Prop} {b : Option Addr} {n c : Nat} {attrs : List AttrP} {sp tk : Int} {nm tx : Bs} {cl : Bool}
end
/-! ### Current, Where -/
section
variable {h : H} {K : Value → H → Prop} {col : Col} {s s0 : Nat} {w t : Addr} {ns : List NodeM} {op : List OpenP} {mk : List MarkP} {fo : Bool} {hi : Int} {x : OpenP}
end
end Go.Proofs
/- place: the chapter's World: New, Insert, Write, Note, Close, Rebuild, Drop. No condition but that the tree is one. -/
namespace Go.Proofs
open Go Go.Sh
set_option linter.unusedVariables false
set_option maxRecDepth 100000
section
variable {Z : Nat → Prop} {h h' : H} {K : Value → H → Prop} {col col' : Col} {w : Addr} {m : WM}
end
end Go.Proofs
/- place: the chapter's Rebuild and Drop. No condition but that the tree is one. -/
namespace Go.Proofs
open Go Go.Sh
set_option linter.unusedVariables false
set_option maxRecDepth 100000
section
variable {h : H} {K : Value → H → Prop} {col : Col} {s ty : Nat} {w t : Addr} {op : List OpenP} {mk : List MarkP} {fo : Bool} {hi : Int} {m : WM}
theorem ExtP.step {Z : Nat → Prop} {a b c : H} {x y : Col} {g : Nat} (E : ExtP Z a x b y) (k : KX g b c) (hg : a.size ≤ g) : ExtP Z a x c y :=
  ⟨E.sk.trans (k.less fun q hq e => by have := hq.1; omega), E.cl⟩
/-! ### Drop -/
end
end Go.Proofs
/- place: both Worlds side by side: what holds of them. No condition. -/
namespace Go.Proofs
open Go Go.Sh
set_option linter.unusedVariables false
set_option maxRecDepth 100000
/-! ### what holds of a World -/
def MarksS (l : List MarkP) : Prop := ∀ x ∈ l, x.2.1.length ≤ 4000 ∧ x.2.2.length ≤ 500 ∧ ∀ a ∈ x.2.2, a.2.length ≤ 4000
structure DI (m : WM) (u v x : Nat) : Prop where
  G : GoodT m.ns
  B : BareT m.ns
  ne : 0 < m.op.length
  ids : ∀ y ∈ m.op, 0 ≤ y.1 ∧ y.1 < m.ns.length
  nd : (m.op.map (·.1)).Nodup
  lo : m.op.length ≤ u
  ln : m.ns.length ≤ u
  ml : m.mks.length ≤ v
  mw : MarksS m.mks
  tx : TextB m.ns x
theorem MarksS.w {l : List MarkP} (h : MarksS l) : MarksW l := fun x hx => ⟨by have := (h x hx).1; omega, by have := (h x hx).2.1; omega, fun a ha => by have := (h x hx).2.2 a ha; omega⟩
theorem DI.zero : DI wm0 1 0 0 :=
  ⟨good_root, BareT.root1, by decide, fun y hy => by
    have : y = (0, 0, wHtml, 0) := by simpa [wm0] using hy
    subst this; exact ⟨by decide, by decide⟩, by decide, by decide, by decide, by decide, (fun y hy => nomatch hy), TextB.root1⟩
theorem DI.mono {m : WM} {u v x u' v' x' : Nat} (H : DI m u v x) (h1 : u ≤ u') (h2 : v ≤ v') (h3 : x ≤ x') : DI m u' v' x' :=
  ⟨H.G, H.B, H.ne, H.ids, H.nd, Nat.le_trans H.lo h1, Nat.le_trans H.ln h1, Nat.le_trans H.ml h2, H.mw, H.tx.mono h3⟩
section
variable {m : WM} {u v x : Nat}
theorem DI.pos (H : DI m u v x) : 0 < m.ns.length := by obtain ⟨r, hr, _⟩ := H.G.root; exact getI hr
theorem DI.insert (H : DI m u v x) (sp : Int) (nm : Bs) (at' : List AttrP) : DI (insertM m sp nm at') (u + 1) v x := by
  have hl : (insertM m sp nm at').ns.length = m.ns.length + 1 := insert_lenR H.G
  have hop : (insertM m sp nm at').op = m.op ++ [((m.ns.length : Int), sp, nm, pointM sp nm at')] := rfl
  have hlo : (insertM m sp nm at').op.length = m.op.length + 1 := by rw [hop, List.length_append]; rfl
  have h1 := H.lo
  have h2 := H.ln
  refine ⟨goodInsertR H.G, ?_, by omega, fun y hy => ?_, ?_, by omega, by omega, H.ml, H.mw, ?_⟩
  · exact (H.B.addM H.pos 1 sp nm at' []).like (put_like (H.G.addM _ _ _ _ _) _ _ _)
  · rw [hop] at hy
    rw [hl]
    rcases List.mem_append.1 hy with h | h
    · have := H.ids y h; exact ⟨this.1, by omega⟩
    · rw [List.mem_singleton.1 h]; exact ⟨by show (0 : Int) ≤ (m.ns.length : Int); omega, by show (m.ns.length : Int) < _; omega⟩
  · rw [hop, List.map_append]
    refine List.nodup_append.2 ⟨H.nd, by simp, fun a ha b hb => ?_⟩
    obtain ⟨y, hy, rfl⟩ := List.mem_map.1 ha
    have hb : b = (m.ns.length : Int) := by simpa using hb
    have := (H.ids y hy).2
    omega
  · have h1 : TextB (addM m.ns (bareM 1 sp nm at' [])).1 x := H.tx.addM (by simp)
    exact h1.like (put_like (H.G.addM _ _ _ _ _) _ _ _)
theorem write_lenL {ns : List NodeM} (G : GoodT ns) (p b : Int) (tx : Bs) : ns.length ≤ (writeM ns p b tx).1.length := by
  rcases write_of (ns := ns) p b tx with h | ⟨j, z, _, _, h⟩ | ⟨i, h⟩
  · rw [h]; exact Nat.le_refl _
  · rw [h, List.length_set]; exact Nat.le_refl _
  · rw [h, put_len (G.addM _ _ _ _ _)]
    show _ ≤ (ns ++ [_]).length
    simp
theorem DI.write (H : DI m u v x) {tx : Bs} (ht : tx.length ≤ 4000) : DI (writeW m tx) (u + 1) v (x + 4000) := by
  have h1 := H.lo
  have h2 := H.ln
  have hg := write_lenL H.G (whereC m).1 (whereC m).2 tx
  have hl := write_len H.G (whereC m).1 (whereC m).2 tx
  refine ⟨H.G.writeM _ _ _, H.B.writeM H.G H.pos _ _ _, H.ne, fun y hy => ?_, H.nd, by show m.op.length ≤ _; omega, by show (writeM _ _ _ _).1.length ≤ _; omega, H.ml, H.mw, H.tx.writeM H.G _ _ ht⟩
  have := H.ids y hy
  exact ⟨this.1, by show y.1 < ((writeM _ _ _ _).1.length : Int); omega⟩
theorem DI.ops (H : DI m u v x) {op : List OpenP} (hne : 0 < op.length) (hs : op.Sublist m.op) : DI { m with op := op } u v x :=
  ⟨H.G, H.B, hne, fun y hy => H.ids y (hs.subset hy), H.nd.sublist (hs.map _), Nat.le_trans hs.length_le H.lo, H.ln, H.ml, H.mw, H.tx⟩
theorem DI.close (H : DI m u v x) (n : Int) : DI (closeW m n) u v x := by
  unfold closeW closeO
  have := H.ne
  split
  · exact H.ops (by rw [List.length_take]; omega) (List.take_sublist _ _)
  · exact H
theorem DI.drop (H : DI m u v x) (id : Int) : DI (dropW m id) u v x := by
  unfold dropW dropO
  have hq := idxQ_lt (l := m.op) (p := fun x => decide (x.1 = id))
  split
  · refine H.ops ?_ (List.eraseIdx_sublist _ _)
    rw [List.length_eraseIdx, if_pos (by omega)]
    omega
  · exact H
theorem push_mem {l : List MarkP} {y z : MarkP} (h : z ∈ pushP l y) : z ∈ l ∨ z = y := by
  unfold pushP at h
  split at h
  · rcases List.mem_append.1 h with h | h
    · exact .inl h
    · exact .inr (List.mem_singleton.1 h)
  · rcases List.mem_append.1 h with h | h
    · exact .inl (List.mem_of_mem_eraseIdx h)
    · exact .inr (List.mem_singleton.1 h)
theorem push_length (l : List MarkP) (y : MarkP) : (pushP l y).length ≤ l.length + 1 := by
  unfold pushP
  split
  · rw [List.length_append]; exact Nat.le_refl _
  · rw [List.length_append]
    have := List.length_eraseIdx_le l ((pushS l y).headD 0)
    show _ + 1 ≤ _
    omega
theorem DI.push (H : DI m u v x) {y : MarkP} (hy : y.2.1.length ≤ 4000 ∧ y.2.2.length ≤ 500 ∧ ∀ a ∈ y.2.2, a.2.length ≤ 4000) : DI { m with mks := pushP m.mks y } u (v + 1) x :=
  ⟨H.G, H.B, H.ne, H.ids, H.nd, H.lo, H.ln, by have := push_length m.mks y; have := H.ml; show (pushP _ _).length ≤ _; omega, fun z hz => by
    rcases push_mem hz with h | h
    · exact H.mw z h
    · rw [h]; exact hy, H.tx⟩
theorem MarksS.set {l : List MarkP} (w : MarksS l) {i : Nat} (hi : i < l.length) (id : Int) : MarksS (l.set i (id, l[i].2)) := fun x hx => by
  rcases List.mem_or_eq_of_mem_set hx with h | h
  · exact w x h
  · rw [h]; exact w l[i] (List.getElem_mem hi)
end
/-! ### both Worlds -/
section
variable {h h' : H} {K : Value → H → Prop} {col col' : Col} {w r : Addr} {m m' : WM} {u v x : Nat}
end
end Go.Proofs
/- open: what bounds a scope, In, of both texts; the chapter's Special, Implied. No condition but that the library's variable holds a number. -/
namespace Go.Proofs
open Go Go.Sh
set_option linter.unusedVariables false
set_option maxRecDepth 100000
section
variable {A B : Nat → Prop} {h : H} {b b2 : Option Addr} {n c n2 c2 : Nat} {ns : List Bs} {s row : Bs} {x : OpenP} {sc sp : Int}
end
section
variable {A B : Nat → Prop} {h : H} {b b2 : Option Addr} {n c n2 c2 : Nat} {ns : List Bs} {s row : Bs} {x : OpenP} {sc sp : Int}

theorem boundsP_table (e : sc = 3) : boundsP x sc = oneP x wTable := by unfold boundsP; rw [if_pos e]
theorem boundsP_other (e : sc ≠ 3) (e2 : x.2.1 ≠ 0) : boundsP x sc = specialP x.2.1 x.2.2.1 := by unfold boundsP; rw [if_neg e, if_pos e2]
theorem boundsP_html (e : sc ≠ 3) (e2 : x.2.1 = 0) : boundsP x sc = (inNames wBnd x.2.2.1 || (decide (sc = 1) && inNames wList x.2.2.1) || (decide (sc = 2) && inNames wButton x.2.2.1)) := by unfold boundsP; rw [if_neg e, if_neg (fun h => h e2)]
theorem oneP_html (e2 : x.2.1 = 0) : oneP x ns = inNames ns x.2.2.1 := by unfold oneP; rw [decide_eq_true e2, Bool.true_and]

theorem bounds_calls (m : ML h) (hs : x.2.2.1.length ≤ 9000000000000000000) {K : Value → H → Prop} (hk : ∀ h', KB h h' → K (.bool (boundsP x sc)) h') : HCalls Try.prog 73 ⟨[.agg ⟨cellsO x⟩, .int .u8 sc]⟩ h K := by
  refine Sx.open_bounds.ok _ _ _ _ _ _ _ (newx_var fun a h1 v1 k1 _ _ => ?_)
  -- the last test: a word of the row
  have last : ∀ h2, KB h1 h2 → sc ≠ 3 → x.2.1 = 0 → (decide (sc = 1) && inNames wList x.2.2.1) = false → (decide (sc = 2) && inNames wButton x.2.2.1) = false →
      Sx.open_bounds.n3 a (fun y4 h => K (.bool y4) h) (fun y4 h => K (.bool y4) h) h2 := fun h2 k2 e1 e2 e3 e4 => by
    refine ⟨_, (v1.kb k2).cell 2 rfl, hasRow_calls wBnd wBnd_ok (by decide +kernel) (by decide +kernel) ((m.kb k1).kb k2) hs (vBool_mk (condK (K := fun b => K (.bool b) h2) ?_))⟩
    have := hk h2 (k1.trans k2)
    rwa [boundsP_html e1 e2, e3, e4, Bool.or_false, Bool.or_false] at this
  have second : ∀ h2, KB h1 h2 → sc ≠ 3 → x.2.1 = 0 → (decide (sc = 1) && inNames wList x.2.2.1) = false →
      Sx.open_bounds.n14 sc a false (fun z2 z20 h => Sx.open_bounds.n12 z2 z20 (fun z2 h => Sx.open_bounds.n3 z2 (fun y4 h => K (.bool y4) h) (fun y4 h => K (.bool y4) h) h) (fun z2 h => Sx.open_bounds.n3 z2 (fun y4 h => K (.bool y4) h) (fun y4 h => K (.bool y4) h) h) (fun y4 h => K (.bool y4) h) h)
        (fun z2 h => Sx.open_bounds.n3 z2 (fun y4 h => K (.bool y4) h) (fun y4 h => K (.bool y4) h) h) (fun y4 h => K (.bool y4) h) h2 := fun h2 k2 e1 e2 e3 => by
    refine spl (fun e => ldVar (v1.kb k2) (newx_var (cs := wButton.map S) fun a3 h3 v3 k3 _ _ => ofLit_calls wButton rfl (by decide +kernel) (by decide +kernel) v3 fun h4 k4 => vBool_mk (condB (fun ht => ?_) fun ht => ?_))) fun e => last h2 k2 e1 e2 e3 (by rw [decide_eq_false e, Bool.false_and])
    · rw [oneP_html e2] at ht
      have := hk h4 (((k1.trans k2).trans k3).trans k4)
      rwa [boundsP_html e1 e2, ht, decide_eq_true e, Bool.and_self, Bool.or_true] at this
    · rw [oneP_html e2] at ht
      exact last h4 ((k2.trans k3).trans k4) e1 e2 e3 (by rw [ht, Bool.and_false])
  refine spl (fun e => ldVar v1 (newx_var (cs := wTable.map S) fun a3 h3 v3 k3 _ _ => ofLit_calls wTable rfl (by decide +kernel) (by decide +kernel) v3 fun h4 k4 => vBool_mk (condK (K := fun b => K (.bool b) h4) ?_))) fun e => ⟨_, v1.cell 1 rfl, spl (fun e2 => ?_) fun e2 => ?_⟩
  · have := hk h4 ((k1.trans k3).trans k4)
    rwa [boundsP_table e] at this
  · refine spl (fun e3 => ldVar v1 (newx_var (cs := wList.map S) fun a3 h3 v3 k3 _ _ => ofLit_calls wList rfl (by decide +kernel) (by decide +kernel) v3 fun h4 k4 => vBool_mk (condB (fun ht => ?_) fun ht => ?_))) fun e3 => second h1 (KB.refl h1) e e2 (by rw [decide_eq_false e3, Bool.false_and])
    · rw [oneP_html e2] at ht
      have := hk h4 ((k1.trans k3).trans k4)
      rwa [boundsP_html e e2, ht, decide_eq_true e3, Bool.and_self, Bool.or_true, Bool.true_or] at this
    · rw [oneP_html e2] at ht
      exact second h4 (k3.trans k4) e e2 (by rw [ht, Bool.and_false])
  · refine ⟨_, v1.cell 1 rfl, _, v1.cell 2 rfl, special_calls (m.kb k1) hs (vBool_mk (condK (K := fun b => K (.bool b) h1) ?_))⟩
    have := hk h1 k1
    rwa [boundsP_other e e2] at this

end
section
variable {A B : Nat → Prop} {h : H} {b b2 : Option Addr} {n c n2 c2 : Nat} {l : List OpenP} {ns : List Bs} {s : Bs} {sc : Int}
theorem rdOpenV {i : Int} {x : OpenP} {K : Value → Int → Int → Bs → Int → Prop} (h : K (.int .i64 i) x.1 x.2.1 x.2.2.1 x.2.2.2) :
    uncons [.int .i64 i, .agg ⟨cellsO x⟩] fun e l => uncons l fun e2 l2 => vAgg e2 fun l3 => uncons l3 fun e3 l4 => vInt .i64 e3 fun j => uncons l4 fun e4 l5 => vInt .u8 e4 fun k => uncons l5 fun e5 l6 => vStr e5 fun s => uncons l6 fun e6 l7 => vInt .u8 e6 fun p => unnil l7 (unnil l2 (K e j k s p)) := h
theorem openIn_calls (m : ML h) (hA : ∀ k, A k → k < h.size) (r : Row elOpen A h b n c l) (hl : ∀ x ∈ l, x.2.2.1.length ≤ 9000000000000000000) (rn : Row elStr B h b2 n2 c2 ns) {K : Value → H → Prop} (hk : ∀ h', KB h h' → K (.bool (inP l sc ns)) h') :
    HCalls Try.prog 63 ⟨[.slice b n c, .int .u8 sc, .slice b2 n2 c2]⟩ h K := by
  refine Sx.open_In.ok _ _ _ _ _ _ _ _ _ (newx_var fun x1 h1 v1 k1 e1 s1 => newx_var fun x2 h2 v2 k2 e2 s2 => newx_var fun y h3 v3 k3 e3 s3 => outwards_calls fun a h4 va k4 ea => ?_)
  have k03 := (k1.trans k2).trans k3
  have k04 := k03.trans k4
  have r4 := r.kb k04
  refine scan_open (f := inF sc ns) (val := .bool) (d := false) (res := inP l sc ns) k04 r4 hA va (v3.kb k4) (by omega) (by omega) rfl (fun i hi h5 Kc k5 hcont hstore hbreak => rdOpenV (front_open k5 (fun k hk => ?_) (Nat.le_refl _) fun ax hb kb vb => ?_)) (fun h' k' hd v => leave_k hd k' k04.1 v fun h'' k'' v'' => ⟨_, v''.cell0 rfl, hk h'' k''⟩)
  · rcases hk with hk | hk
    · exact Nat.lt_of_lt_of_le (hA _ hk) k04.1
    · rw [hk]; exact va.lt
  · have w2 := ((v2.kb k3).kb k4).kb kb
    have w1 := (((v1.kb k2).kb k3).kb k4).kb kb
    refine ldVar vb ⟨_, _, _, w2.cell0 rfl, of_calls ((rn.kb k04).kb kb) fun h6 k6 => vBool_mk (condB (fun ht => hstore hb h6 true kb k6 (by unfold inF; rw [if_pos ht])) fun hf => ldVar (vb.kb k6) ⟨_, (w1.kb k6).cell0 rfl, bounds_calls (((m.kb k04).kb kb).kb k6) (hl _ (List.getElem_mem _)) fun h7 k7 => vBool_mk (condB (fun ht => hbreak hb h7 kb (k6.trans k7) (by unfold inF; rw [if_neg (by rw [hf]; simp), if_pos ht])) fun hf2 => hcont hb h7 kb (k6.trans k7) (by unfold inF; rw [if_neg (by rw [hf]; simp), if_neg (by rw [hf2]; simp)]))⟩)⟩

end
end Go.Proofs
