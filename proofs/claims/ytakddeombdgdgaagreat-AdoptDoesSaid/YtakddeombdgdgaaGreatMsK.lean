import Derived.Test.YtakddeombdgdgaaGreatDoE
import Derived.Test.YtakddeombdgdgaaGreatOpA
import Derived.Test.YtakddeombdgdgaaGreatTxA
import Derived.Test.YtakddeombdgdgaaGreatPcD
import Derived.Test.YtakddeombdgdgaaGreatHmI
import Derived.Test.YtakddeombdgdgaaGreatTxD
import Derived.Test.YtakddeombdgdgaaGreatTxF
namespace Go.Proofs
open Go Go.Sh
set_option linter.unusedVariables false
set_option maxRecDepth 100000
inductive NodeV where
  | mk (kind space : Int) (name : Bs) (attrs : List AttrP) (text : Bs) (kids : List NodeV)
def NodeV.kind : NodeV -> Int | .mk k _ _ _ _ _ => k
def NodeV.space : NodeV -> Int | .mk _ s _ _ _ _ => s
def NodeV.name : NodeV -> Bs | .mk _ _ n _ _ _ => n
def NodeV.attrs : NodeV -> List AttrP | .mk _ _ _ a _ _ => a
def NodeV.text : NodeV -> Bs | .mk _ _ _ _ t _ => t
def NodeV.kids : NodeV -> List NodeV | .mk _ _ _ _ _ k => k
abbrev nvCells (x : NodeV) (ab : Option Addr) (an ac : Nat) (kb : Option Addr) (kn kc : Nat) : List Value := [.int .u8 x.kind, .int .u8 x.space, S x.name, .slice ab an ac, S x.text, .slice kb kn kc]
def nodeR : Nat -> (Nat -> Prop) -> H -> NodeV -> List Value -> Prop
  | 0, _, _, _, _ => False
  | d + 1, A, h, x, cs => ∃ ab an ac kb kn kc, cs = nvCells x ab an ac kb kn kc /\ Row elAttr A h ab an ac x.attrs /\ (ab = none -> ac = 0) /\
      (x.kids.length = kn /\ kn <= kc /\ kc <= maxLen /\ ∀ (i : Nat) y, x.kids[i]? = some y -> ∃ a, kb = some a /\ A (a.add (i * 6)).block /\ ∃ cs, nodeR d A h y cs /\ ∀ (j : Nat) v, cs[j]? = some v -> cell h ((a.add (i * 6)).add j) = some v) /\
      (kb = none -> kc = 0) /\ Rng .u8 x.kind /\ Rng .u8 x.space /\ x.name.length <= maxLen /\ x.text.length <= maxLen
theorem nodeR_len : ∀ {d : Nat} {A : Nat -> Prop} {h : H} {x : NodeV} {cs : List Value}, nodeR d A h x cs -> cs.length = 6
  | 0, _, _, _, _, h => h.elim
  | d + 1, _, _, _, _, ⟨ab, an, ac, kb, kn, kc, e, _⟩ => by rw [e]; rfl
theorem nodeR_keep : ∀ {d : Nat} {A A' : Nat -> Prop} {h h' : H} {x : NodeV} {cs : List Value}, nodeR d A h x cs -> Keep (fun k => A k /\ k < h.size) h h' -> (∀ k, A k -> k < h.size -> A' k) -> nodeR d A' h' x cs
  | 0, _, _, _, _, _, _, h, _, _ => h.elim
  | d + 1, A, A', h, h', x, cs, ⟨ab, an, ac, kb, kn, kc, e, ra, hz, ⟨h1, h2, h3, h4⟩, hz2, r1, r2, r3, r4⟩, k, hb =>
    ⟨ab, an, ac, kb, kn, kc, e, ra.keep k hb, hz, ⟨h1, h2, h3, fun i y hy => by
      obtain ⟨a, ea, hA, cs', hR, hc⟩ := h4 i y hy
      have hl := nodeR_len hR
      have hlt : (a.add (i * 6)).block < h.size := by
        have := cell_lt (hc 0 _ (List.getElem?_eq_getElem (by omega)))
        rwa [add_block] at this
      exact ⟨a, ea, hb _ hA hlt, cs', nodeR_keep hR k hb, fun j v hv => k.cell (by rw [add_block]; exact ⟨hA, hlt⟩) (hc j v hv)⟩⟩, hz2, r1, r2, r3, r4⟩
def elNode (d : Nat) : El NodeV where
  sz := 6
  R := nodeR d
  len := fun _ _ _ _ h => nodeR_len h
  one := fun _ _ _ _ h v hv => by
    cases d with
    | zero => exact h.elim
    | succ d =>
      obtain ⟨ab, an, ac, kb, kn, kc, e, _⟩ := h
      rw [e] at hv
      simp only [nvCells, List.mem_cons, List.not_mem_nil, or_false] at hv
      rcases hv with rfl | rfl | rfl | rfl | rfl | rfl <;> rfl
  keep := fun _ _ _ _ _ _ h k hb => nodeR_keep h k hb
  pos := by decide
theorem nodeR_mk {d : Nat} {A : Nat -> Prop} {h : H} {x : NodeV} {ab kb : Option Addr} {an ac kn kc : Nat} (ra : Row elAttr A h ab an ac x.attrs) (hz : ab = none -> ac = 0) (rk : Row (elNode d) A h kb kn kc x.kids) (hz2 : kb = none -> kc = 0)
    (r1 : Rng .u8 x.kind) (r2 : Rng .u8 x.space) (r3 : x.name.length <= maxLen) (r4 : x.text.length <= maxLen) : nodeR (d + 1) A h x (nvCells x ab an ac kb kn kc) :=
  ⟨ab, an, ac, kb, kn, kc, rfl, ra, hz, ⟨rk.len, rk.cap, rk.max, fun i y hy => by
    obtain ⟨a, e, hA, cs, hR, hc⟩ := rk.at' i y hy
    exact ⟨a, e, hA, cs, hR, hc⟩⟩, hz2, r1, r2, r3, r4⟩
theorem nodeR_inv {d : Nat} {A : Nat -> Prop} {h : H} {x : NodeV} {cs : List Value} (hR : nodeR (d + 1) A h x cs) : ∃ ab an ac kb kn kc, cs = nvCells x ab an ac kb kn kc /\ Row elAttr A h ab an ac x.attrs /\ (ab = none -> ac = 0) /\ Row (elNode d) A h kb kn kc x.kids /\ (kb = none -> kc = 0) /\ Rng .u8 x.kind /\ Rng .u8 x.space /\ x.name.length <= maxLen /\ x.text.length <= maxLen := by
  obtain ⟨ab, an, ac, kb, kn, kc, e, ra, hz, ⟨h1, h2, h3, h4⟩, hz2, r1, r2, r3, r4⟩ := hR
  exact ⟨ab, an, ac, kb, kn, kc, e, ra, hz, ⟨h1, h2, h3, fun i y hy => by
    obtain ⟨a, e, hA, cs, hR, hc⟩ := h4 i y hy
    exact ⟨a, e, hA, cs, hR, hc⟩⟩, hz2, r1, r2, r3, r4⟩
theorem ldNode {d : Nat} {A : Nat -> Prop} {h : H} {a : Addr} {x : NodeV} {K : Int -> Int -> Bs -> Option Addr -> Nat -> Nat -> Bs -> Option Addr -> Nat -> Nat -> Prop} (hA : At (elNode (d + 1)) A h a x)
    (hk : ∀ ab an ac kb kn kc, Row elAttr A h ab an ac x.attrs -> (ab = none -> ac = 0) -> Row (elNode d) A h kb kn kc x.kids -> (kb = none -> kc = 0) -> Rng .u8 x.kind -> Rng .u8 x.space -> x.name.length <= maxLen -> x.text.length <= maxLen -> K x.kind x.space x.name ab an ac x.text kb kn kc) :
    ∃ i, cell h (a.add 0) = some (.int .u8 i) /\ ∃ j, cell h (a.add 1) = some (.int .u8 j) /\ ∃ s, cell h (a.add 2) = some (S s) /\ ∃ ab an ac, cell h (a.add 3) = some (.slice ab an ac) /\ ∃ tx, cell h (a.add 4) = some (S tx) /\ ∃ kb kn kc, cell h (a.add 5) = some (.slice kb kn kc) /\ K i j s ab an ac tx kb kn kc := by
  obtain ⟨_, cs, hR, hc⟩ := hA
  obtain ⟨ab, an, ac, kb, kn, kc, rfl, ra, hz, rk, hz2, r1, r2, r3, r4⟩ := nodeR_inv hR
  exact ⟨_, hc 0 _ rfl, _, hc 1 _ rfl, _, hc 2 _ rfl, _, _, _, hc 3 _ rfl, _, hc 4 _ rfl, _, _, _, hc 5 _ rfl, hk ab an ac kb kn kc ra hz rk hz2 r1 r2 r3 r4⟩
theorem apdNode (d : Nat) : Apd Tryz.prog (elNode d) 54 57 88 := apd_of (sz := 6) (by kernel_rfl) rfl
def thawB (A : Nat -> Prop) (h : H) (b : Option Addr) (n : Nat) : Prop := n = 0 ∨ ∃ q, b = some q /\ A q.block /\ ∃ c e, h[q.block]? = some (.cells c e (0, 0))
theorem thawB.keep {A A' : Nat -> Prop} {h h' : H} {b : Option Addr} {n : Nat} (t : thawB A h b n) (k : Keep (fun k => A k /\ k < h.size) h h') (hb : ∀ k, A k -> k < h.size -> A' k) : thawB A' h' b n := by
  rcases t with h0 | ⟨q, e, hA, c, f, hg⟩
  · exact Or.inl h0
  · have hlt := (Array.getElem?_eq_some_iff.1 hg).1
    exact Or.inr ⟨q, e, hb _ hA hlt, c, f, k.2 _ ⟨hA, hlt⟩ _ hg rfl⟩
theorem thaw_own {h : H} {base e sz n c : Nat} {b : Option Addr} {xs : List Value} {A : Nat -> Prop} (o : Own h base e sz b n c xs) (hA : ∀ q, b = some q -> A q.block) : thawB A h b n := by
  rcases o.is with h1 | ⟨g, cur, e1, _, hg, _⟩
  · exact Or.inl h1.1
  · exact Or.inr ⟨_, e1, hA _ e1, _, _, hg⟩
def nodeT : Nat -> (Nat -> Prop) -> H -> NodeV -> List Value -> Prop
  | 0, _, _, _, _ => False
  | d + 1, A, h, x, cs => ∃ ab an ac kb kn kc, cs = nvCells x ab an ac kb kn kc /\ Row elAttr A h ab an ac x.attrs /\ (ab = none -> ac = 0) /\
      (x.kids.length = kn /\ kn <= kc /\ kc <= maxLen /\ ∀ (i : Nat) y, x.kids[i]? = some y -> ∃ a, kb = some a /\ A (a.add (i * 6)).block /\ ∃ cs, nodeT d A h y cs /\ ∀ (j : Nat) v, cs[j]? = some v -> cell h ((a.add (i * 6)).add j) = some v) /\
      (kb = none -> kc = 0) /\ Rng .u8 x.kind /\ Rng .u8 x.space /\ x.name.length <= maxLen /\ x.text.length <= maxLen /\ thawB A h ab an /\ thawB A h kb kn
theorem nodeT_len : ∀ {d : Nat} {A : Nat -> Prop} {h : H} {x : NodeV} {cs : List Value}, nodeT d A h x cs -> cs.length = 6
  | 0, _, _, _, _, h => h.elim
  | d + 1, _, _, _, _, ⟨_, _, _, _, _, _, e, _⟩ => by rw [e]; rfl
theorem nodeT_keep : ∀ {d : Nat} {A A' : Nat -> Prop} {h h' : H} {x : NodeV} {cs : List Value}, nodeT d A h x cs -> Keep (fun k => A k /\ k < h.size) h h' -> (∀ k, A k -> k < h.size -> A' k) -> nodeT d A' h' x cs
  | 0, _, _, _, _, _, _, h, _, _ => h.elim
  | d + 1, A, A', h, h', x, cs, ⟨ab, an, ac, kb, kn, kc, e, ra, hz, ⟨h1, h2, h3, h4⟩, hz2, r1, r2, r3, r4, t1, t2⟩, k, hb =>
    ⟨ab, an, ac, kb, kn, kc, e, ra.keep k hb, hz, ⟨h1, h2, h3, fun i y hy => by
      obtain ⟨a, ea, hA, cs', hR, hc⟩ := h4 i y hy
      have hl := nodeT_len hR
      have hlt : (a.add (i * 6)).block < h.size := by
        have := cell_lt (hc 0 _ (List.getElem?_eq_getElem (by omega)))
        rwa [add_block] at this
      exact ⟨a, ea, hb _ hA hlt, cs', nodeT_keep hR k hb, fun j v hv => k.cell (by rw [add_block]; exact ⟨hA, hlt⟩) (hc j v hv)⟩⟩, hz2, r1, r2, r3, r4, t1.keep k hb, t2.keep k hb⟩
def elNodeT (d : Nat) : El NodeV where
  sz := 6
  R := nodeT d
  len := fun _ _ _ _ h => nodeT_len h
  one := fun _ _ _ _ h v hv => by
    cases d with
    | zero => exact h.elim
    | succ d =>
      obtain ⟨ab, an, ac, kb, kn, kc, e, _⟩ := h
      rw [e] at hv
      simp only [nvCells, List.mem_cons, List.not_mem_nil, or_false] at hv
      rcases hv with rfl | rfl | rfl | rfl | rfl | rfl <;> rfl
  keep := fun _ _ _ _ _ _ h k hb => nodeT_keep h k hb
  pos := by decide
theorem nodeT_mk {d : Nat} {A : Nat -> Prop} {h : H} {x : NodeV} {ab kb : Option Addr} {an ac kn kc : Nat} (ra : Row elAttr A h ab an ac x.attrs) (hz : ab = none -> ac = 0) (rk : Row (elNodeT d) A h kb kn kc x.kids) (hz2 : kb = none -> kc = 0)
    (r1 : Rng .u8 x.kind) (r2 : Rng .u8 x.space) (r3 : x.name.length <= maxLen) (r4 : x.text.length <= maxLen) (t1 : thawB A h ab an) (t2 : thawB A h kb kn) : nodeT (d + 1) A h x (nvCells x ab an ac kb kn kc) :=
  ⟨ab, an, ac, kb, kn, kc, rfl, ra, hz, ⟨rk.len, rk.cap, rk.max, fun i y hy => by
    obtain ⟨a, e, hA, cs, hR, hc⟩ := rk.at' i y hy
    exact ⟨a, e, hA, cs, hR, hc⟩⟩, hz2, r1, r2, r3, r4, t1, t2⟩
theorem nodeT_R : ∀ {d : Nat} {A : Nat -> Prop} {h : H} {x : NodeV} {cs : List Value}, nodeT d A h x cs -> nodeR d A h x cs
  | 0, _, _, _, _, h => h.elim
  | d + 1, _, _, _, _, ⟨ab, an, ac, kb, kn, kc, e, ra, hz, ⟨h1, h2, h3, h4⟩, hz2, r1, r2, r3, r4, _, _⟩ =>
    ⟨ab, an, ac, kb, kn, kc, e, ra, hz, ⟨h1, h2, h3, fun i y hy => by
      obtain ⟨a, ea, hA, cs', hR, hc⟩ := h4 i y hy
      exact ⟨a, ea, hA, cs', nodeT_R hR, hc⟩⟩, hz2, r1, r2, r3, r4⟩
theorem encT_R {d : Nat} {A : Nat -> Prop} {h : H} : ∀ {l : List NodeV} {xs : List Value}, Enc (elNodeT d) A h l xs -> Enc (elNode d) A h l xs
  | [], _, h => h
  | x :: l, _, ⟨cs, ys, e, hR, hE⟩ => ⟨cs, ys, e, nodeT_R hR, encT_R hE⟩
theorem apdNodeT (d : Nat) : Apd Tryz.prog (elNodeT d) 54 57 88 := apd_of (sz := 6) (by kernel_rfl) rfl
structure OwnR {α : Type} (E : El α) (h : H) (base e : Nat) (b : Option Addr) (n c : Nat) (l : List α) : Prop where
  own : OwnT E (fun k => base <= k /\ But h b k) h base e b n c l
  lo : ∀ a, b = some a -> base <= a.block
  hi : ∀ a, b = some a -> a.block < h.size
  nil : b = none -> c = 0
section
variable {α : Type} {E : El α}
theorem OwnR.none (h : H) (base e : Nat) : OwnR E h base e none 0 0 [] := ⟨OwnT.nil _ _ _ _ _, (fun _ e => by cases e), (fun _ e => by cases e), fun _ => rfl⟩
theorem OwnR.kw {h h' : H} {base e n c : Nat} {b : Option Addr} {l : List α} (o : OwnR E h base e b n c l) (k : Keep (fun k => base <= k) h h') : OwnR E h' base e b n c l :=
  ⟨o.own.keep (B := fun k => base <= k) k (fun _ h _ => h.1) (fun k' hk hks => ⟨hk.1, Nat.lt_of_lt_of_le hks k.1, hk.2.2⟩) fun _ _ h _ => h, o.lo, fun a e => Nat.lt_of_lt_of_le (o.hi a e) k.1, o.nil⟩
theorem OwnR.kb {h h' : H} {base e n c : Nat} {b : Option Addr} {l : List α} (o : OwnR E h base e b n c l) (k : KB h h') : OwnR E h' base e b n c l :=
  ⟨o.own.keep (B := Bel h.size) (KB.w k) (fun _ _ h => h) (fun k' hk hks => ⟨hk.1, Nat.lt_of_lt_of_le hks k.1, hk.2.2⟩) fun _ _ _ h => h, o.lo, fun a e => Nat.lt_of_lt_of_le (o.hi a e) k.1, o.nil⟩
theorem OwnR.lower {h : H} {base base' e n c : Nat} {b : Option Addr} {l : List α} (o : OwnR E h base e b n c l) (hb : base' <= base) : OwnR E h base' e b n c l :=
  ⟨(o.own.keep (B := fun _ => True) (Keep.refl _ _) (fun _ _ _ => trivial) (fun k hk _ => ⟨Nat.le_trans hb hk.1, hk.2⟩) fun _ _ _ _ => trivial).lower hb, fun a e => Nat.le_trans hb (o.lo a e), o.hi, o.nil⟩
theorem OwnR.row {h : H} {base e n c : Nat} {b : Option Addr} {l : List α} (o : OwnR E h base e b n c l) : Row E (fun k => base <= k /\ k < h.size) h b n c l := o.own.row (fun _ h => ⟨h.1, h.2.1⟩) fun g _ h hb => ⟨hb, h⟩
theorem OwnR.weakT {d : Nat} {h : H} {base e n c : Nat} {b : Option Addr} {l : List NodeV} (o : OwnR (elNodeT d) h base e b n c l) : OwnR (elNode d) h base e b n c l := by
  obtain ⟨xs, h1, h2⟩ := o.own.own
  exact ⟨⟨o.own.len, xs, h1, encT_R h2⟩, o.lo, o.hi, o.nil⟩
theorem OwnR.append {t ty e by' : Nat} {P : Program} (ap : Apd P E t e by') {h : H} {sb rb : Option Addr} {n c m k base : Nat} {l l2 : List α} (o : OwnR E h base e sb n c l) (r : Row E (fun k => base <= k /\ But h sb k) h rb m k l2)
    (h63 : n + m <= maxLen) (hb : (n + m) * by' <= 140737488355328) (hbase : base <= h.size) {K : Value -> H -> Prop}
    (hk : ∀ b' c' h', OwnR E h' base e b' (n + m) c' (l ++ l2) -> Grow h h' sb -> K (.slice b' (n + m) c') h') :
    SemH P (Builtin.append_ #[t, t] ty ⟨[.slice sb n c, .slice rb m k]⟩) h K := by
  refine OwnT.append ap o.own r h63 hb hbase (fun k hk _ => hk.2.2) fun b2 c2 h' o' hg hb h0 => hk b2 c2 h' ⟨?_, ?_, ?_, ?_⟩ hg
  · refine o'.keep (Keep.refl (fun _ => True) _) (fun _ _ _ => trivial) (fun k hk' hks => ⟨hk'.1, hks, fun x hx => ?_⟩) fun _ _ _ _ => trivial
    rcases hb with rfl | rfl
    · exact hk'.2.2 x hx
    · cases hx
      have := hk'.2.1
      show h.size ≠ k
      omega
  · intro x hx
    rcases hb with rfl | rfl
    · exact o.lo x hx
    · cases hx; exact hbase
  · intro x hx
    rcases hb with rfl | rfl
    · exact Nat.lt_of_lt_of_le (o.hi x hx) hg.size
    · obtain ⟨xs, ho, _⟩ := o'.own
      rcases ho.is with h1 | ⟨g, cur, e1, _, hgg, _⟩
      · have := h0 h1.1
        exact Nat.lt_of_lt_of_le (o.hi x (this.1 ▸ hx)) hg.size
      · rw [hx] at e1; cases e1; exact (Array.getElem?_eq_some_iff.1 hgg).1
  · intro hbn
    obtain ⟨xs, ho, _⟩ := o'.own
    rcases ho.is with h1 | ⟨g, cur, e1, _⟩
    · exact h1.2
    · rw [hbn] at e1; cases e1
theorem _root_.Go.Sh.OwnF.behind (hf : Flat E) {h : H} {base e n c : Nat} {b : Option Addr} {l : List α} (o : OwnF E h base e b n c l) {A : Nat -> Prop} (hA : ∀ k, base <= k -> k < h.size -> A k) : Row E A h b n c l := by
  obtain ⟨xs, h1, h2⟩ := o.own.own
  by_cases hn : n = 0
  · subst hn
    have : l = [] := List.eq_nil_of_length_eq_zero o.own.len
    subst this
    exact ⟨rfl, h1.cap, h1.max, fun i x hx => by simp at hx⟩
  · exact Row.of (Enc.flat hf h2) h1.cells o.own.len h1.cap h1.max fun q e => hA _ (o.lo q e) (o.hi q e)
end
end Go.Proofs
namespace Go.Proofs
open Go Go.Sh
set_option linter.unusedVariables false
set_option maxRecDepth 100000
def kidsI (ns : List NodeM) (id : Int) : List Int := if 0 <= id then ((ns[id.toNat]?).map (·.kids)).getD [] else []
def nodeVI (ns : List NodeM) (k : Int) (kids : List NodeV) : NodeV :=
  match ns[k.toNat]? with
  | some z => .mk z.kind z.space z.name z.attrs z.text kids
  | none => .mk 0 0 [] [] [] []
def wholeL : Nat -> List NodeM -> Int -> List NodeV
  | 0, _, _ => []
  | d + 1, ns, id => (kidsI ns id).map fun k => nodeVI ns k (wholeL d ns k)
def Deep : Nat -> List NodeM -> Int -> Prop
  | 0, _, _ => False
  | d + 1, ns, id => ∀ k ∈ kidsI ns id, Deep d ns k
theorem Deep.up : ∀ {d : Nat} {ns : List NodeM} {id : Int}, Deep d ns id -> Deep (d + 1) ns id
  | 0, _, _, h => h.elim
  | d + 1, _, _, h => fun k hk => (h k hk).up
theorem Deep.mono {d d' : Nat} {ns : List NodeM} {id : Int} (h : Deep d ns id) (hd : d <= d') : Deep d' ns id := by
  induction hd with
  | refl => exact h
  | step _ ih => exact ih.up
theorem kidsI_some {ns : List NodeM} {j : Nat} {z : NodeM} (h : ns[j]? = some z) : kidsI ns (j : Int) = z.kids := by
  unfold kidsI
  rw [if_pos (by omega), Int.toNat_natCast, h]; rfl
theorem bound_rk (rk : Nat -> Nat) : ∀ n, ∃ M, ∀ i, i < n -> rk i <= M
  | 0 => ⟨0, fun i h => by omega⟩
  | n + 1 => by
    obtain ⟨M, hM⟩ := bound_rk rk n
    refine ⟨M + rk n, fun i h => ?_⟩
    by_cases e : i = n
    · subst e; omega
    · have := hM i (by omega); omega
theorem GoodT.deep {ns : List NodeM} (G : GoodT ns) : ∃ D, ∀ d, D <= d -> ∀ id : Int, Deep d ns id := by
  obtain ⟨rk, hr⟩ := G.rank
  obtain ⟨M, hM⟩ := bound_rk rk ns.length
  have key : ∀ f (j : Nat), j < ns.length -> M < rk j + f -> Deep f ns (j : Int) := by
    intro f
    induction f with
    | zero => intro j hj h; have := hM j hj; omega
    | succ f ih =>
      intro j hj h k hk
      have hz : ns[j]? = some ns[j] := List.getElem?_eq_getElem hj
      rw [kidsI_some hz] at hk
      obtain ⟨m, w, rfl, hw, hp⟩ := (G.kid j _ k hz).1 hk
      have := hr m j w hw hp
      exact ih m (getI hw) (by omega)
  refine ⟨M + 2, fun d hd id => ?_⟩
  have h1 : Deep (M + 2) ns id := by
    intro k hk
    unfold kidsI at hk
    split at hk
    · rename_i h0
      cases hz : ns[id.toNat]? with
      | none => rw [hz] at hk; cases hk
      | some z =>
        rw [hz] at hk
        have hk : k ∈ z.kids := hk
        obtain ⟨m, w, rfl, hw, hp⟩ := (G.kid id.toNat z k hz).1 hk
        exact key (M + 1) m (getI hw) (by omega)
    · cases hk
  exact h1.mono hd
section
variable {h : H} {K : Value -> H -> Prop} {col : Col} {s i p : Nat} {t a : Addr} {ads : List Addr} {ns : List NodeM} {x y : NodeM}
theorem wholeT_calls (G : GoodT ns) : ∀ (d : Nat) (id : Int) {h : H} {K : Value -> H -> Prop} (T : TreeP h col s t ads ns) (hd : Deep d ns id)
    (hk : ∀ h' b n c, KB h h' -> OwnR (elNodeT d) h' h.size 57 b n c (wholeL d ns id) -> K (.slice b n c) h'),
    HCalls Tryz.prog 21 ⟨[.pointer (some t), .int .i64 id]⟩ h K := by
  intro d
  induction d with
  | zero => intro id h K T hd; exact hd.elim
  | succ d ihd =>
    intro id h K T hd hk
    have hlen := T.len
    have hft := T.few
    refine Sx.dom_Tree_Whole.ok _ _ _ _ (at_calls T (fun hn => vPtrMk (ptrEq_k (by kernel_rfl) (vBool_mk (condT ?_)))) fun i a x e hx ha => vPtrMk (ptrEq_k (by kernel_rfl) (vBool_mk (condF ?_))))
    · have e : wholeL (d + 1) ns id = [] := by
        unfold wholeL kidsI
        by_cases h0 : 0 <= id
        · rw [if_pos h0, List.getElem?_eq_none (by omega)]; rfl
        · rw [if_neg h0]; rfl
      rw [e] at hk
      exact hk h none 0 0 (KB.refl h) (OwnR.none _ _ _)
    · subst e
      obtain ⟨ab, an, ac, kb, kn, kc, v, ra, hz, ok, hkc⟩ := (T.nodes i x a hx ha).ex
      have hkl := ok.len
      have hfx := G.few hx
      have ew : wholeL (d + 1) ns (i : Int) = x.kids.map fun k => nodeVI ns k (wholeL d ns k) := by
        show (kidsI ns (i : Int)).map _ = _
        rw [kidsI_some hx]
      have hdk : ∀ k ∈ x.kids, Deep d ns k := by
        have := hd
        intro k hk2
        exact this k (by rw [kidsI_some hx]; exact hk2)
      rw [ew] at hk
      refine vSomeMk ⟨_, _, _, v.cell 7 rfl, kn + 1, ?_⟩
      have key : ∀ N m h2 ob oc (out : List NodeV), m + N = kn -> KB h h2 -> OwnR (elNodeT (d + 1)) h2 h.size 57 ob m oc out -> out = (x.kids.take m).map (fun k => nodeVI ns k (wholeL d ns k)) ->
          Sx.dom_Tree_Whole.n9_L (fun z6b z6n z6c h => Sx.dom_Tree_Whole.n6 z6b z6n z6c (fun y4b y4n y4c h => K (.slice y4b y4n y4c) h) (fun y4b y4n y4c h => K (.slice y4b y4n y4c) h) h) (fun z6b z6n z6c h => Sx.dom_Tree_Whole.n6 z6b z6n z6c (fun y4b y4n y4c h => K (.slice y4b y4n y4c) h) (fun y4b y4n y4c h => K (.slice y4b y4n y4c) h) h) (fun y4b y4n y4c h => K (.slice y4b y4n y4c) h) (N + 1) (some t) ob m oc kb kn kc (kn : Int) (m : Int) h2 := by
        intro N
        induction N with
        | zero =>
          intro m h2 ob oc out hmN k2 o2 eo
          unfold Sx.dom_Tree_Whole.n9_L
          refine splF (by omega) ?_
          rw [List.take_of_length_le (by omega)] at eo
          rw [eo] at o2
          exact hk h2 ob m oc k2 o2
        | succ N ih =>
          intro m h2 ob oc out hmN k2 o2 eo
          have hml : m < x.kids.length := by omega
          unfold Sx.dom_Tree_Whole.n9_L
          have ok2 : OwnI h2 kb kn kc x.kids := ok.keep (KB.w k2) fun q e => ok.hi q e
          refine splT (by omega) ((ok2.row (A := fun _ => True) fun _ _ => trivial).idxN hml rfl fun q hA => ldI hA fun _ => ?_)
          obtain ⟨j, z, ej, hz', hpz⟩ := (G.kid i x _ hx).1 (List.getElem_mem hml)
          have hjl := getI hz'
          have T2 := T.kb k2
          obtain ⟨lb, lc, vt, o, hl2⟩ := T2.ex
          have hdj : Deep d ns (j : Int) := by rw [<- ej]; exact hdk _ (List.getElem_mem hml)
          rw [ej]
          refine vSomeMk ⟨_, _, _, vt.cell 0 rfl, ?_⟩
          refine o.row.idxN (i := j) (by omega) rfl fun q2 hA2 => ldPtr hA2 (vSomeMk ?_)
          have haj : ads[j]? = some (ads[j]'(by omega)) := List.getElem?_eq_getElem (by omega)
          have Nj := T2.nodes j z _ hz' haj
          obtain ⟨ab2, an2, ac2, kb2, kn2, kc2, v2, ra2, hz2, ok3, hkc2⟩ := Nj.ex
          have hal2 := ra2.len
          have hfa := Nj.fa
          refine ⟨_, v2.cellZ 0 rfl, _, v2.cellZ 1 rfl, _, v2.cellZ 2 rfl, _, _, _, v2.cellZ 3 rfl, _, v2.cellZ 4 rfl, _, _, _, v2.cellZ 5 rfl, newx_var fun a3 h3 v3 k3 e3 s3 => stL_var0 v3 (Nat.le_refl 6) fun h4 v4 k4 s4 => ⟨_, _, _, v4.cell 3 rfl, ?_⟩⟩
          have k24 : KB h2 h4 := KB.step k3 k4 (by omega)
          have hs2 := k2.1
          refine cloneA_calls (ra2.bel.keep ((KB.w k24).less fun k hk => hk.2) (B' := fun _ => True) fun _ _ _ => trivial) hz2 (by omega) fun b5 c5 h5 o5 k5 => vSliceMk ?_
          have hs5 := k5.1
          refine ihd (j : Int) (T2.kb (k24.trans k5)) hdj fun h6 b6 n6 c6 k6 o6 => vSliceMk ?_
          have hs6 := k6.1
          have v6 := (v4.kb k5).kb k6
          refine stL_var (m := 3) (i := 0) v6 (by show 3 + 0 + 1 <= 6; omega) fun h7 v7 k7 s7 => stL_var (m := 5) (i := 0) v7 (by show 5 + 0 + 1 <= 6; omega) fun h8 v8 k8 s8 => ?_
          have v8 : Var h8 a3 57 [.int .u8 z.kind, .int .u8 z.space, S z.name, .slice b5 an2 c5, S z.text, .slice b6 n6 c6] := v8
          refine ⟨_, v8.cell 0 rfl, _, v8.cell 1 rfl, _, v8.cell 2 rfl, _, _, _, v8.cell 3 rfl, _, v8.cell 4 rfl, _, _, _, v8.cell 5 rfl, newx_var fun a9 h9 v9 k9 e9 s9 => ?_⟩
          have k28 : KB h2 h8 := KB.step (KB.step ((k24.trans k5).trans k6) k7 (by omega)) k8 (by omega)
          have o9 : OwnR (elNodeT (d + 1)) h9 h.size 57 ob m oc out := (o2.kb k28).kb k9
          have hob := o2.hi
          have oa : OwnF elAttr h9 h4.size 94 b5 an2 c5 z.attrs := (((o5.kb k6).flatK k7 flatAttr fun g hg => by omega).flatK k8 flatAttr fun g hg => by omega).kb k9
          have okk : OwnR (elNodeT d) h9 h5.size 57 b6 n6 c6 (wholeL d ns j) := ((o6.kw (k7.w.less fun g (hg : h5.size <= g) => by omega)).kw (k8.w.less fun g (hg : h5.size <= g) => by omega)).kb k9
          have hR : nodeT (d + 1) (fun k => h.size <= k /\ But h9 ob k) h9 (.mk z.kind z.space z.name z.attrs z.text (wholeL d ns j)) [.int .u8 z.kind, .int .u8 z.space, S z.name, .slice b5 an2 c5, S z.text, .slice b6 n6 c6] :=
            nodeT_mk (x := .mk z.kind z.space z.name z.attrs z.text (wholeL d ns j)) (oa.behind flatAttr fun k h1 h2' => ⟨by omega, h2', fun q e => by have := hob q e; omega⟩) oa.nil
              (okk.row.keep (Keep.refl _ _) fun k hk hs => ⟨by have := hk.1; omega, hs, fun q e => by have := hob q e; have := hk.1; omega⟩) okk.nil Nj.rk Nj.rs Nj.fn Nj.ft
              (thaw_own (Classical.choose_spec oa.own.own).1 fun q e => ⟨by have := oa.lo q e; omega, oa.hi q e, fun q' e' => by have := oa.lo q e; have := hob q' e'; omega⟩)
              (thaw_own (Classical.choose_spec okk.own.own).1 fun q e => ⟨by have := okk.lo q e; omega, okk.hi q e, fun q' e' => by have := okk.lo q e; have := hob q' e'; omega⟩)
          have r9 : Row (elNodeT (d + 1)) (fun k => h.size <= k /\ But h9 ob k) h9 (some a9) 1 1 [.mk z.kind z.space z.name z.attrs z.text (wholeL d ns j)] := v9.row1 hR ⟨by omega, v9.lt, fun q e => by have := hob q e; omega⟩
          refine OwnR.append (apdNodeT (d + 1)) o9 r9 (by simp only [maxLen]; omega) (by omega) (by omega) fun b10 c10 h10 o10 g10 => vSliceMk ⟨rngI (by omega) (by omega), ?_⟩
          refine ih (m + 1) h10 b10 c10 _ (by omega) ?_ o10 ?_
          · exact g10.kb0 ((k2.trans k28).trans k9) fun q e => o2.lo q e
          · rw [eo, List.take_add_one, List.getElem?_eq_getElem hml, List.map_append, ej]
            congr 1
            show [_] = [nodeVI ns (j : Int) _]
            unfold nodeVI
            rw [Int.toNat_natCast, hz']
      exact key kn 0 h none 0 [] (by omega) (KB.refl h) (OwnR.none _ _ _) rfl
theorem whole_calls (G : GoodT ns) (d : Nat) (id : Int) {h : H} {K : Value -> H -> Prop} (T : TreeP h col s t ads ns) (hd : Deep d ns id)
    (hk : ∀ h' b n c, KB h h' -> OwnR (elNode d) h' h.size 57 b n c (wholeL d ns id) -> K (.slice b n c) h') :
    HCalls Tryz.prog 21 ⟨[.pointer (some t), .int .i64 id]⟩ h K := wholeT_calls G d id T hd fun h' b n c k o => hk h' b n c k o.weakT
end
end Go.Proofs
namespace Go.Proofs
open Go Go.Sh
set_option linter.unusedVariables false
set_option maxRecDepth 100000
theorem eqAttr (x y : AttrP) : eqAll [S x.1, S x.2] [S y.1, S y.2] = decide (x = y) := by
  obtain ⟨x1, x2⟩ := x; obtain ⟨y1, y2⟩ := y
  simp only [eqAll, eqV, Bool.and_true]
  rw [Bool.eq_iff_iff]
  simp
theorem attrNe {x y : AttrP} {p q : Operand} {h : H} {K : Value -> Prop} (hk : K (.bool (!decide (x = y)))) : SemR Tryz.prog (binS .neq 94 p q (.agg ⟨[S x.1, S x.2]⟩) (.agg ⟨[S y.1, S y.2]⟩)) h K :=
  semR_neq (by kernel_rfl) (by kernel_rfl) (by rw [eqAttr]; exact hk)
theorem list_eq_of {α : Type} {a b : List α} (hl : a.length = b.length) (h : ∀ (i : Nat) (ha : i < a.length) (hb : i < b.length), a[i] = b[i]) : a = b :=
  List.ext_getElem hl h
section
variable {A B : Nat -> Prop} {h : H} {b b2 : Option Addr} {n c n2 c2 : Nat} {K : Value -> H -> Prop}
theorem ldAttr {a : Addr} {m : AttrP} {Q : Bs -> Bs -> Prop} (hA : At elAttr A h a m) (hk : m.1.length <= maxLen -> m.2.length <= maxLen -> Q m.1 m.2) :
    ∃ s, cell h (a.add 0) = some (S s) /\ ∃ t, cell h (a.add 1) = some (S t) /\ Q s t :=
  ⟨_, by have := hA.fst.str.1; rwa [add_zero'], _, hA.snd.str.1, hk hA.fst.str.2 hA.snd.str.2⟩
theorem sameAttrs_calls {l l2 : List AttrP} (r : Row elAttr A h b n c l) (r2 : Row elAttr B h b2 n2 c2 l2) (hk : K (.bool (decide (l = l2))) h) :
    HCalls Tryz.prog 101 ⟨[.slice b n c, .slice b2 n2 c2]⟩ h K := by
  refine Sx.r00_SameAttrs.ok _ _ _ _ _ _ _ _ ?_
  have hl := r.len
  have hl2 := r2.len
  have hm : n <= maxLen := Nat.le_trans r.cap r.max
  simp only [maxLen] at hm
  refine spl (fun hn => ⟨n + 1, ?_⟩) fun hn => ?_
  · have key : ∀ k i, i + k = n -> (∀ j (h1 : j < l.length) (h2 : j < l2.length), j < i -> l[j] = l2[j]) ->
        Sx.r00_SameAttrs.n7_L (fun h => K (.bool true) h) (fun h => K (.bool true) h) (fun y4 h => K (.bool y4) h) (k + 1) b n c b2 n2 c2 (i : Int) h := by
      intro k
      induction k with
      | zero =>
        intro i hi hall
        refine splF (by omega) ?_
        have : l = l2 := list_eq_of (by omega) fun j h1 h2 => hall j h1 h2 (by omega)
        rw [decide_eq_true this] at hk
        exact hk
      | succ k ih =>
        intro i hi hall
        refine splT (by omega) (r.idxN (by omega) rfl fun a hA => ldAttr hA fun _ _ => r2.idxN (i := i) (by omega) rfl fun a2 hA2 => ldAttr hA2 fun _ _ => attrNe ?_)
        refine condB (fun hd => ?_) fun hd => ⟨rngI (by omega) (by omega), ih (i + 1) (by omega) fun j h1 h2 hj => ?_⟩
        · have : l ≠ l2 := fun e => by subst e; simp at hd
          rw [decide_eq_false this] at hk
          exact hk
        · by_cases e : j < i
          · exact hall j h1 h2 e
          · have : j = i := by omega
            subst this
            simpa using hd
    exact key n 0 (by omega) fun j _ _ hj => absurd hj (Nat.not_lt_zero _)
  · have : l ≠ l2 := fun e => hn (by rw [<- hl, <- hl2, e])
    rw [decide_eq_false this] at hk
    exact hk
end
noncomputable def sameN (a b : List NodeV) : Bool := @decide (a = b) (Classical.propDecidable _)
theorem sameN_true {a b : List NodeV} (h : a = b) : sameN a b = true := by unfold sameN; exact @decide_eq_true (a = b) (Classical.propDecidable _) h
theorem sameN_false {a b : List NodeV} (h : a ≠ b) : sameN a b = false := by unfold sameN; exact @decide_eq_false (a = b) (Classical.propDecidable _) h
theorem sameN_iff {a b : List NodeV} : sameN a b = true ↔ a = b := ⟨fun h => Classical.byContradiction fun hn => (by rw [sameN_false hn] at h; cases h), sameN_true⟩
theorem nodeV_ext {x y : NodeV} (h1 : x.kind = y.kind) (h2 : x.space = y.space) (h3 : x.name = y.name) (h4 : x.attrs = y.attrs) (h5 : x.text = y.text) (h6 : x.kids = y.kids) : x = y := by
  cases x; cases y
  simp only [NodeV.kind, NodeV.space, NodeV.name, NodeV.attrs, NodeV.text, NodeV.kids] at *
  subst h1; subst h2; subst h3; subst h4; subst h5; subst h6; rfl
theorem row_zero {A : Nat -> Prop} {h : H} {b : Option Addr} {n c : Nat} {l : List NodeV} (r : Row (elNode 0) A h b n c l) : l = [] := by
  cases l with
  | nil => rfl
  | cons x l =>
    obtain ⟨a, _, _, cs, hR, _⟩ := r.at' 0 x rfl
    exact hR.elim
theorem sameNodes_calls : ∀ (d : Nat) {A B : Nat -> Prop} {h : H} {b b2 : Option Addr} {n c n2 c2 : Nat} {K : Value -> H -> Prop} {l l2 : List NodeV} (r : Row (elNode d) A h b n c l) (r2 : Row (elNode d) B h b2 n2 c2 l2) (hk : ∀ h', KB h h' -> K (.bool (sameN l l2)) h'),
    HCalls Tryz.prog 58 ⟨[.slice b n c, .slice b2 n2 c2]⟩ h K := by
  intro d
  induction d with
  | zero =>
    intro A B h b b2 n c n2 c2 K l l2 r r2 hk
    have e1 := row_zero r
    have e2 := row_zero r2
    have hl := r.len
    have hl2 := r2.len
    subst e1; subst e2
    rw [sameN_true rfl] at hk
    have hl : 0 = n := hl
    have hl2 : 0 = n2 := hl2
    refine Sx.r00_SameNodes.ok _ _ _ _ _ _ _ _ (splT (by omega) ⟨1, ?_⟩)
    exact splF (by omega) (hk h (KB.refl h))
  | succ d ihd =>
    intro A B h b b2 n c n2 c2 K l l2 r r2 hk
    have hl := r.len
    have hl2 := r2.len
    have hm : n <= maxLen := Nat.le_trans r.cap r.max
    simp only [maxLen] at hm
    refine Sx.r00_SameNodes.ok _ _ _ _ _ _ _ _ (spl (fun hn => ⟨n + 1, ?_⟩) fun hn => ?_)
    · have key : ∀ k i h1, i + k = n -> KB h h1 -> (∀ j (h1 : j < l.length) (h2 : j < l2.length), j < i -> l[j] = l2[j]) ->
          Sx.r00_SameNodes.n7_L (fun h => K (.bool true) h) (fun h => K (.bool true) h) (fun y4 h => K (.bool y4) h) (k + 1) b n c b2 n2 c2 (i : Int) h1 := by
        intro k
        induction k with
        | zero =>
          intro i h1 hi k1 hall
          unfold Sx.r00_SameNodes.n7_L
          refine splF (by omega) ?_
          have : l = l2 := list_eq_of (by omega) fun j h1 h2 => hall j h1 h2 (by omega)
          have h3 := hk h1 k1
          rw [sameN_true this] at h3
          exact h3
        | succ k ih =>
          intro i h1 hi k1 hall
          have hil : i < l.length := by omega
          have hil2 : i < l2.length := by omega
          have no : ∀ h', KB h h' -> l[i] ≠ l2[i] -> K (.bool false) h' := fun h' k' hne => by
            have h3 := hk h' k'
            rw [sameN_false (fun e => hne (by subst e; rfl))] at h3
            exact h3
          unfold Sx.r00_SameNodes.n7_L
          refine splT (by omega) ((r.kb k1).idxN hil rfl fun a hA => ldNode hA fun ab an ac kb kn kc ra hz rk hz2 _ _ _ _ => newx_var fun a3 h3 v3 k3 e3 s3 => stL_var0 v3 (Nat.le_refl 6) fun h4 v4 k4 s4 => ?_)
          have k14 : KB h1 h4 := KB.step k3 k4 (by omega)
          refine ((r2.kb k1).kb k14).idxN (i := i) hil2 rfl fun a2 hA2 => ldNode hA2 fun ab2 an2 ac2 kb2 kn2 kc2 ra2 hz3 rk2 hz4 _ _ _ _ => newx_var fun a5 h5 v5 k5 e5 s5 => stL_var0 v5 (Nat.le_refl 6) fun h6 v6 k6 s6 => ?_
          have k46 : KB h4 h6 := KB.step k5 k6 (by omega)
          have k16 : KB h h6 := (k1.trans k14).trans k46
          have v4 : Var h6 a3 57 (nvCells l[i] ab an ac kb kn kc) := v4.kb k46
          have v6 : Var h6 a5 57 (nvCells l2[i] ab2 an2 ac2 kb2 kn2 kc2) := v6
          refine ⟨_, v4.cell 0 rfl, _, v6.cell 0 rfl, spl (fun e1 => ?_) fun e1 => no h6 k16 fun e => e1 (by rw [e])⟩
          refine ⟨_, v4.cell 1 rfl, _, v6.cell 1 rfl, spl (fun e2 => ?_) fun e2 => no h6 k16 fun e => e2 (by rw [e])⟩
          refine ⟨_, v4.cell 2 rfl, _, v6.cell 2 rfl, spl (fun e3 => ?_) fun e3 => no h6 k16 fun e => e3 (by rw [e])⟩
          refine ⟨_, v4.cell 4 rfl, _, v6.cell 4 rfl, spl (fun e4 => ?_) fun e4 => no h6 k16 fun e => e4 (by rw [e])⟩
          refine ⟨_, _, _, v4.cell 3 rfl, _, _, _, v6.cell 3 rfl, sameAttrs_calls ((ra.kb k14).kb k46) (ra2.kb k46) (vBool_mk (condB (fun e5 => ?_) fun e5 => no h6 k16 fun e => by have := of_decide_eq_false e5; exact this (by rw [e])))⟩
          refine ⟨_, _, _, v4.cell 5 rfl, _, _, _, v6.cell 5 rfl, ihd ((rk.kb k14).kb k46) (rk2.kb k46) fun h7 k7 => vBool_mk (condB (fun e6 => ⟨rngI (by omega) (by omega), ih (i + 1) h7 (by omega) (k16.trans k7) fun j h1 h2 hj => ?_⟩) fun e6 => no h7 (k16.trans k7) fun e => by rw [sameN_true (by rw [e])] at e6; cases e6)⟩
          by_cases e : j < i
          · exact hall j h1 h2 e
          · have : j = i := by omega
            subst this
            exact nodeV_ext e1 e2 e3 (of_decide_eq_true e5) e4 (sameN_iff.1 e6)
      exact key n 0 h (by omega) (KB.refl h) fun j _ _ hj => absurd hj (Nat.not_lt_zero _)
    · have : l ≠ l2 := fun e => hn (by rw [<- hl, <- hl2, e])
      have h3 := hk h (KB.refl h)
      rw [sameN_false this] at h3
      exact h3
section
variable {h : H} {K : Value -> H -> Prop}
end
end Go.Proofs
namespace Go.Proofs
open Go Go.Sh
set_option linter.unusedVariables false
set_option maxRecDepth 100000
end Go.Proofs
namespace Go.Proofs
open Go Go.Sh
set_option linter.unusedVariables false
set_option maxRecDepth 100000
section
variable {A : Nat -> Prop} {h : H} {a : Addr}
abbrev MarkR (A : Nat -> Prop) (h : H) (m : MarkP) (b : Option Addr) (n c : Nat) : Prop := elMark.R A h m [.int .i64 m.1, S m.2.1, .slice b n c]
theorem markR {m : MarkP} {b : Option Addr} {n c : Nat} (r : Row elAttr A h b n c m.2.2) (hz : b = none -> c = 0) (hr : Rng .i64 m.1) (hs : m.2.1.length <= maxLen) : MarkR A h m b n c :=
  ⟨[.int .i64 m.1], [S m.2.1, .slice b n c], rfl, ⟨rfl, hr⟩, [S m.2.1], [.slice b n c], rfl, ⟨rfl, hs⟩, b, n, c, rfl, r, hz⟩
theorem MarkR.inv {m : MarkP} {b : Option Addr} {n c : Nat} (r : MarkR A h m b n c) : Row elAttr A h b n c m.2.2 /\ (b = none -> c = 0) /\ Rng .i64 m.1 /\ m.2.1.length <= maxLen := by
  obtain ⟨c1, c2, e, ⟨e1, hr⟩, c3, c4, e2, ⟨e3, hs⟩, b', n', c', e4, r', hz⟩ := r
  subst e4; subst e3; subst e1; subst e2
  simp at e
  obtain ⟨rfl, rfl, rfl⟩ := e
  exact ⟨r', hz, hr, hs⟩
theorem MarkR.kb {h' : H} {m : MarkP} {b : Option Addr} {n c : Nat} (r : MarkR A h m b n c) (k : KB h h') : MarkR A h' m b n c := elMark.keep _ _ _ _ _ _ r ((SK.w k).less fun _ h => h.2) fun _ h _ => h
theorem MarkR.kw {h' : H} {m : MarkP} {b : Option Addr} {n c : Nat} (r : MarkR A h m b n c) (k : KW h h') : MarkR A h' m b n c := elMark.keep _ _ _ _ _ _ r (k.less fun _ h => h.2) fun _ h _ => h
theorem MarkR.any {m : MarkP} {b : Option Addr} {n c : Nat} (r : MarkR A h m b n c) : MarkR (fun _ => True) h m b n c := elMark.keep _ _ _ _ _ _ r (Keep.refl _ _) fun _ _ _ => trivial
theorem ldMark {m : MarkP} {K : Int -> Bs -> Option Addr -> Nat -> Nat -> Prop} (hA : At elMark A h a m) (hk : ∀ b n c, MarkR A h m b n c -> K m.1 m.2.1 b n c) :
    ∃ i, cell h (a.add 0) = some (.int .i64 i) /\ ∃ s, cell h (a.add 1) = some (S s) /\ ∃ b n c, cell h (a.add 2) = some (.slice b n c) /\ K i s b n c :=
  ⟨_, hA.fst.int.1, _, hA.snd.fst.str.1, ldSl (hA.snd.sndAt (k := 2) rfl) fun b n c r hz => hk b n c (markR r hz hA.fst.int.2 hA.snd.fst.str.2)⟩
end
def behindTo (l : List MarkP) : Nat -> Nat
  | 0 => 0
  | i + 1 => if (l.getD i (0, [], [])).1 < 0 then i + 1 else behindTo l i
def behind (l : List MarkP) : Nat := behindTo l l.length
theorem behind_asks {A : Nat -> Prop} {h : H} {b : Option Addr} {n c : Nat} {l : List MarkP} (r : Row elMark A h b n c l) {K : Value -> H -> Prop} (hk : K (.int .i64 (behind l)) h) : Sx.r12_behind.asks b n c K h := by
  have hl := r.len
  have hm : n <= maxLen := Nat.le_trans r.cap r.max
  simp only [maxLen] at hm
  refine ⟨rng64 (by omega) (by omega), n + 1, ?_⟩
  have key : ∀ i, i <= n -> behindTo l i = behind l -> Sx.r12_behind.n6_L (fun h => K (.int .i64 0) h) (fun h => K (.int .i64 0) h) (fun y2 h => K (.int .i64 y2) h) (i + 1) b n c ((i : Int) - 1) h := by
    intro i
    induction i with
    | zero =>
      intro _ e
      refine splF (by omega) ?_
      rw [<- e] at hk
      exact hk
    | succ i ih =>
      intro hi e
      refine splT (by omega) (r.idx (by omega) (by omega) rfl fun a hi2 hA => ldI (hA.fst) fun hr => ?_)
      have hx : ((i + 1 : Nat) : Int) - 1 = (i : Int) := by omega
      have hxt : (((i + 1 : Nat) : Int) - 1).toNat = i := by omega
      unfold behindTo at e
      rw [getD_get (by omega)] at e
      simp only [hxt]
      refine spl (fun hneg => ⟨rng64 (by omega) (by omega), ?_⟩) fun hneg => ⟨rng64 (by omega) (by omega), ?_⟩
      · rw [if_pos hneg] at e
        rw [<- e] at hk
        rw [show ((i + 1 : Nat) : Int) - 1 + 1 = ((i + 1 : Nat) : Int) by omega]
        exact hk
      · rw [if_neg hneg] at e
        rw [hx]
        exact ih (by omega) e
  exact key n (Nat.le_refl _) (by rw [<- hl]; rfl)
theorem behind_calls {A : Nat -> Prop} {h : H} {b : Option Addr} {n c : Nat} {l : List MarkP} (r : Row elMark A h b n c l) {K : Value -> H -> Prop} (hk : K (.int .i64 (behind l)) h) :
    HCalls Tryz.prog 34 ⟨[.slice b n c]⟩ h K := Sx.r12_behind.ok _ _ _ _ _ (behind_asks r hk)
theorem behindTo_le (l : List MarkP) : ∀ i, behindTo l i <= i
  | 0 => Nat.le_refl _
  | i + 1 => by
    unfold behindTo
    split
    · exact Nat.le_refl _
    · exact Nat.le_succ_of_le (behindTo_le l i)
theorem behind_le (l : List MarkP) : behind l <= l.length := behindTo_le l _
theorem attrEq {x y : AttrP} {p q : Operand} {h : H} {K : Value -> Prop} (hk : K (.bool (decide (x = y)))) : SemR Tryz.prog (binS .eql 94 p q (.agg ⟨[S x.1, S x.2]⟩) (.agg ⟨[S y.1, S y.2]⟩)) h K :=
  semR_eql (by kernel_rfl) (by kernel_rfl) (by rw [eqAttr]; exact hk)
theorem ldAttrM {A : Nat -> Prop} {h : H} {a : Addr} {m : AttrP} {K : Bs -> Bs -> Prop} (hA : At elAttr A h a m) (hk : True -> K m.1 m.2) : ∃ s, cell h (a.add 0) = some (S s) /\ ∃ t, cell h (a.add 1) = some (S t) /\ K s t := ldAttr hA fun _ _ => hk trivial
def alikeP (x y : MarkP) : Bool := decide (x.2.1 = y.2.1) && (decide (x.2.2.length = y.2.2.length) && x.2.2.all fun a => decide (a ∈ y.2.2))
section
variable {A B : Nat -> Prop} {h : H} {b b2 : Option Addr} {n c n2 c2 : Nat}
theorem refAlike_calls {x y : MarkP} (hx : MarkR A h x b n c) (hy : MarkR B h y b2 n2 c2) {K : Value -> H -> Prop} (hk : ∀ h', KB h h' -> K (.bool (alikeP x y)) h') :
    HCalls Tryz.prog 35 ⟨[.agg ⟨[.int .i64 x.1, S x.2.1, .slice b n c]⟩, .agg ⟨[.int .i64 y.1, S y.2.1, .slice b2 n2 c2]⟩]⟩ h K := by
  refine Sx.r12_alike.ok _ _ _ _ _ _ _ _ _ _ _ _ (newx_var fun a1 h1 v1 k1 e1 _ => newx_var fun a2 h2 v2 k2 e2 _ => ?_)
  have hA1 : At elMark (fun _ => True) h2 a1 x := (v1.at (A := fun _ => True) (MarkR.any hx |>.kb k1) trivial).kb k2
  have hA2 : At elMark (fun _ => True) h2 a2 y := v2.at (A := fun _ => True) (MarkR.any hy |>.kb (k1.trans k2)) trivial
  have hk := hk h2 (k1.trans k2)
  refine ldS hA1.snd.fst fun _ => ldS hA2.snd.fst fun _ => spl (fun e1 => ?_) fun e1 => ?_
  · refine ldSl (hA1.snd.sndAt (k := 2) rfl) fun b n c r _ => ldSl (hA2.snd.sndAt (k := 2) rfl) fun b2 n2 c2 r2 _ => spl (fun e2 => ?_) fun e2 => ?_
    · have e2' : x.2.2.length = y.2.2.length := by rw [r.len, r2.len]; omega
      have hm : x.2.2.length <= maxLen := by rw [r.len]; exact Nat.le_trans r.cap r.max
      simp only [maxLen] at hm
      refine ⟨x.2.2.length + 1, ?_⟩
      have inner : ∀ (i : Nat) (hi : i < x.2.2.length) (Kn Ke2 : Sx.r12_alike.T5) (Ke1 : Sx.r12_alike.T4) (Ke0 : Sx.r12_alike.T3) (Kr : Sx.r12_alike.T0)
          (k : Nat) (j : Nat) (is : Bool), j + k = y.2.2.length -> (is = decide (x.2.2[i] ∈ y.2.2.take j)) ->
          Ke2 a1 a2 i (decide (x.2.2[i] ∈ y.2.2)) h2 ->
          Sx.r12_alike.n17_L Kn Ke2 Ke1 Ke0 Kr (k + 1) a1 a2 (i : Int) is (j : Int) h2 := by
        intro i hi Kn Ke2 Ke1 Ke0 Kr k
        induction k with
        | zero =>
          intro j is hj his hK
          refine ldSl (hA2.snd.sndAt (k := 2) rfl) fun b2 n2 c2 r2 _ => splF (by rw [<- r2.len]; omega) ?_
          rw [show j = y.2.2.length by omega, List.take_length] at his
          rw [his]; exact hK
        | succ k ih =>
          intro j is hj his hK
          have hjl : j < y.2.2.length := by omega
          have hst : y.2.2.take (j + 1) = y.2.2.take j ++ [y.2.2[j]] := by rw [List.take_succ_eq_append_getElem hjl]
          refine ldSl (hA2.snd.sndAt (k := 2) rfl) fun b2 n2 c2 r2 _ => splT (by rw [<- r2.len]; omega) ?_
          refine condB (fun e => ⟨rng64 (by omega) (by omega), ih (j + 1) true (by omega) ?_ hK⟩) fun e => ?_
          · rw [e] at his
            rw [hst]
            exact (decide_eq_true (List.mem_append_left _ (of_decide_eq_true his.symm))).symm
          · refine ldSl (hA1.snd.sndAt (k := 2) rfl) fun b n c r _ => r.idxN hi rfl fun a hA => ldAttrM hA fun _ => ldSl (hA2.snd.sndAt (k := 2) rfl) fun b2 n2 c2 r2 _ => r2.idxN hjl rfl fun a' hA' => ldAttrM hA' fun _ => attrEq ?_
            rw [e] at his
            have hnot := of_decide_eq_false his.symm
            refine condB (fun hd => ⟨rng64 (by omega) (by omega), ih (j + 1) true (by omega) ?_ hK⟩) fun hd => ⟨rng64 (by omega) (by omega), ih (j + 1) false (by omega) ?_ hK⟩
            · rw [hst]
              exact (decide_eq_true (List.mem_append_right _ (List.mem_singleton.2 (of_decide_eq_true hd)))).symm
            · rw [hst]
              refine (decide_eq_false fun hm => ?_).symm
              rcases List.mem_append.1 hm with hm | hm
              · exact hnot hm
              · exact (of_decide_eq_false hd) (List.mem_singleton.1 hm)
      have key : ∀ k i, i + k = x.2.2.length -> (∀ j (hj : j < x.2.2.length), j < i -> x.2.2[j] ∈ y.2.2) ->
          Sx.r12_alike.n7_L (fun h => K (.bool true) h) (fun h => K (.bool true) h) (fun y4 h => K (.bool y4) h) (k + 1) a1 a2 (i : Int) h2 := by
        intro k
        induction k with
        | zero =>
          intro i hi hall
          refine ldSl (hA1.snd.sndAt (k := 2) rfl) fun b n c r _ => splF (by rw [<- r.len]; omega) ?_
          have : alikeP x y = true := by
            unfold alikeP
            rw [decide_eq_true e1, decide_eq_true e2', Bool.true_and, Bool.true_and, List.all_eq_true]
            intro z hz
            obtain ⟨j, hj, e⟩ := List.mem_iff_getElem.1 hz
            rw [<- e]; exact decide_eq_true (hall j hj (by omega))
          rw [this] at hk; exact hk
        | succ k ih =>
          intro i hi hall
          have hil : i < x.2.2.length := by omega
          refine ldSl (hA1.snd.sndAt (k := 2) rfl) fun b n c r _ => splT (by rw [<- r.len]; omega) ⟨y.2.2.length + 1, ?_⟩
          refine inner i hil _ _ _ _ _ y.2.2.length 0 false (by omega) (by simp) ?_
          refine condB (fun hd => ⟨rng64 (by omega) (by omega), ih (i + 1) (by omega) fun j hj hj2 => ?_⟩) fun hd => ?_
          · by_cases e : j < i
            · exact hall j hj e
            · have : j = i := by omega
              subst this
              exact of_decide_eq_true hd
          · have : alikeP x y = false := by
              unfold alikeP
              have h3 : (x.2.2.all fun a => decide (a ∈ y.2.2)) = false := by
                rw [List.all_eq_false]
                exact ⟨_, List.getElem_mem hil, by rw [hd]; simp⟩
              rw [h3, Bool.and_false, Bool.and_false]
            rw [this] at hk; exact hk
      exact key x.2.2.length 0 (by omega) fun j _ hj => absurd hj (Nat.not_lt_zero _)
    · have e2' : x.2.2.length ≠ y.2.2.length := by rw [r.len, r2.len]; omega
      rwa [show alikeP x y = false by simp [alikeP, e2']] at hk
  · rwa [show alikeP x y = false by simp [alikeP, e1]] at hk
theorem sameMarks_calls {l l2 : List MarkP} (r : Row elMark A h b n c l) (r2 : Row elMark B h b2 n2 c2 l2) {K : Value -> H -> Prop} (hk : K (.bool (decide (l = l2))) h) :
    HCalls Tryz.prog 57 ⟨[.slice b n c, .slice b2 n2 c2]⟩ h K := by
  refine Sx.r00_SameMarks.ok _ _ _ _ _ _ _ _ ?_
  have hl := r.len
  have hl2 := r2.len
  have hm : n <= maxLen := Nat.le_trans r.cap r.max
  simp only [maxLen] at hm
  refine spl (fun hn => ⟨n + 1, ?_⟩) fun hn => ?_
  · have hn' : n = n2 := by omega
    have key : ∀ k i, i + k = n -> (∀ j (h1 : j < l.length) (h2 : j < l2.length), j < i -> l[j] = l2[j]) ->
        Sx.r00_SameMarks.n7_L (fun h => K (.bool true) h) (fun h => K (.bool true) h) (fun y4 h => K (.bool y4) h) (k + 1) b n c b2 n2 c2 (i : Int) h := by
      intro k
      induction k with
      | zero =>
        intro i hi hall
        refine splF (by omega) ?_
        have : l = l2 := list_eq_of (by omega) fun j h1 h2 => hall j h1 h2 (by omega)
        rw [decide_eq_true this] at hk
        exact hk
      | succ k ih =>
        intro i hi hall
        have h1 : i < l.length := by omega
        have h2 : i < l2.length := by omega
        have no : l[i] ≠ l2[i] -> K (.bool false) h := fun hne => by
          have : l ≠ l2 := fun e => by subst e; exact hne rfl
          rw [decide_eq_false this] at hk
          exact hk
        refine splT (by omega) (r.idxN h1 rfl fun a hA => ldI hA.fst fun _ => r2.idxN h2 rfl fun a2 hA2 => ldI hA2.fst fun _ => spl (fun e1 => ?_) fun e1 => no fun e => e1 (by rw [e]))
        refine r.idxN h1 rfl fun a hA => ldS hA.snd.fst fun _ => r2.idxN h2 rfl fun a2 hA2 => ldS hA2.snd.fst fun _ => spl (fun e2 => ?_) fun e2 => no fun e => e2 (by rw [e])
        refine r.idxN h1 rfl fun a hA => ldSl (hA.snd.sndAt (k := 2) rfl) fun b3 n3 c3 r3 _ => r2.idxN h2 rfl fun a2 hA2 => ldSl (hA2.snd.sndAt (k := 2) rfl) fun b4 n4 c4 r4 _ => sameAttrs_calls r3 r4 ?_
        refine condB (fun hd => ⟨rng64 (by omega) (by omega), ih (i + 1) (by omega) fun j h1 h2 hj => ?_⟩) fun hd => no fun e => (of_decide_eq_false hd) (by rw [e])
        by_cases e : j < i
        · exact hall j h1 h2 e
        · have : j = i := by omega
          subst this
          have e3 := of_decide_eq_true hd
          exact Prod.ext e1 (Prod.ext e2 e3)
    exact key n 0 (by omega) fun j _ _ hj => absurd hj (Nat.not_lt_zero _)
  · have : l ≠ l2 := fun e => hn (by rw [<- hl, <- hl2, e])
    rw [decide_eq_false this] at hk
    exact hk
end
end Go.Proofs
namespace Go.Proofs
open Go Go.Sh
set_option linter.unusedVariables false
set_option maxRecDepth 100000
def Backs (A : Nat -> Prop) (h : H) (l : List MarkP) : Nat -> List (List Value) -> Prop
  | 0, xs => xs = []
  | i + 1, xs => ∃ (hi : i < l.length) (b : Option Addr) (n c : Nat) (rest : List (List Value)), MarkR A h l[i] b n c /\ xs = [.int .i64 i, .agg ⟨[.int .i64 l[i].1, S l[i].2.1, .slice b n c]⟩] :: rest /\ Backs A h l i rest
theorem Backs.kw {A : Nat -> Prop} {h h' : H} {l : List MarkP} (k : KW h h') : ∀ {i : Nat} {xs : List (List Value)}, Backs A h l i xs -> Backs A h' l i xs
  | 0, _, e => e
  | i + 1, _, ⟨hi, b, n, c, rest, hm, e, hr⟩ => ⟨hi, b, n, c, rest, hm.kw k, e, hr.kw k⟩
theorem Backs.of {A : Nat -> Prop} {h : H} {b : Option Addr} {n c : Nat} {l : List MarkP} (r : Row elMark A h b n c l) : ∀ {i : Nat}, i <= l.length -> ∃ xs, Backs A h l i xs
  | 0, _ => ⟨[], rfl⟩
  | i + 1, hi => by
    obtain ⟨rest, hr⟩ := Backs.of r (i := i) (by omega)
    obtain ⟨a, e, hA⟩ := r.at' i _ (List.getElem?_eq_getElem (by omega))
    obtain ⟨b', n', c', _, r', hz⟩ := (hA.snd.sndAt (k := 2) rfl).sl
    exact ⟨_, by omega, b', n', c', rest, markR r' hz hA.fst.int.2 hA.snd.fst.str.2, rfl, hr⟩
theorem Backs.len {A : Nat -> Prop} {h : H} {l : List MarkP} : ∀ {i : Nat} {xs : List (List Value)}, Backs A h l i xs -> ∀ x ∈ xs, x.length = 2
  | 0, _, e, x, hx => by simp [Backs] at e; rw [e] at hx; cases hx
  | i + 1, _, ⟨hi, b, n, c, rest, hm, e, hr⟩, x, hx => by
    rw [e] at hx
    rcases List.mem_cons.1 hx with rfl | hx
    · rfl
    · exact hr.len x hx
theorem backward_emits {A : Nat -> Prop} {h : H} {b : Option Addr} {n c : Nat} {l : List MarkP} {a : Addr} (r : Row elMark A h b n c l) (v : Var h a 37 [.slice b n c]) :
    ∃ xs, Backs A h l l.length xs /\ Emits Tryz.prog (.func (.func 110) ⟨[]⟩ ⟨[.pointer (some a)]⟩) h xs Non (fun k => A k ∨ k = a.block) := by
  have hl := r.len
  have hm : n <= maxLen := Nat.le_trans r.cap r.max
  simp only [maxLen] at hm
  have cellsOf : ∀ i, i <= l.length -> ∃ xs, Backs A h l i xs /\ ∀ (L : Nat) (J : List (List Value) -> H -> Prop) (Stop : H -> Prop),
      (∀ x rest h', J (x :: rest) h' -> YCalls Tryz.prog L ⟨x⟩ h' fun v h'' => (v = .bool true /\ J rest h'' /\ KpR (fun k => A k ∨ k = a.block) h' h'') ∨ (v = .bool false /\ Stop h'' /\ KpR (fun k => A k ∨ k = a.block) h' h'')) ->
      ∀ h', Keep (fun k => (A k ∨ k = a.block) /\ k < h.size) h h' -> J xs h' ->
        Sx.slices_Backward_1_apiMark1.n3_L (fun h3 => J [] h3 ∨ Stop h3) (fun h3 => J [] h3 ∨ Stop h3) (fun h3 => J [] h3 ∨ Stop h3) (i + 1) (.func (.yield L) ⟨[]⟩ ⟨[]⟩) a ((i : Int) - 1) h' := by
    intro i
    induction i with
    | zero =>
      intro _
      exact ⟨[], rfl, fun L J Stop hY h' hk hJ => splF (by omega) (.inl hJ)⟩
    | succ i ih =>
      intro hi
      obtain ⟨rest, hr, hw⟩ := ih (by omega)
      obtain ⟨ar, ear, hA⟩ := r.at' i _ (List.getElem?_eq_getElem (by omega))
      obtain ⟨b', n', c', eb, r', hz⟩ := (hA.snd.sndAt (k := 2) rfl).sl
      refine ⟨_, ⟨by omega, b', n', c', rest, markR r' hz hA.fst.int.2 hA.snd.fst.str.2, rfl, hr⟩, fun L J Stop hY h' hk hJ => ?_⟩
      have hx : ((i + 1 : Nat) : Int) - 1 = (i : Int) := by omega
      rw [hx]
      have hal : A ar.block := by have := hA.1; rwa [add_block] at this
      have hcell : ∀ j x, cell h ((ar.add (i * 3)).add j) = some x -> cell h' ((ar.add (i * 3)).add j) = some x := fun j x e => hk.cell (by rw [add_block, add_block]; exact ⟨.inl hal, by have := cell_lt e; rwa [add_block, add_block] at this⟩) e
      have v' : Var h' a 37 [.slice b n c] := v.keep hk ⟨.inr rfl, v.lt⟩
      refine splT (by omega) ⟨_, _, _, v'.cell0 rfl, ⟨by omega, by omega⟩, ?_⟩
      rw [ear]
      refine ⟨_, hcell 0 _ hA.fst.int.1, _, hcell 1 _ hA.snd.fst.str.1, _, _, _, hcell 2 _ eb, ?_⟩
      rw [callYield]
      refine fun w hw2 => ?_
      obtain ⟨fn, tmps, assign, body, hrun, hrd⟩ := hY _ _ _ hJ w hw2
      refine ⟨fn, tmps, assign, body, hrun, hrd.mono ?_⟩
      rintro e w' ⟨v, he, ho, hor⟩
      refine ⟨v, he, ho, ?_⟩
      have hxx : (i : Int) - 1 = (i : Int) - (1 : Int) := rfl
      rcases hor with ⟨rfl, hJ', hkr⟩ | ⟨rfl, hS, hkr⟩
      · exact ⟨rng64 (by omega) (by omega), hw L J Stop hY _ (Keep.trans (hw2 ▸ hk) (hkr.keep.less fun _ h => h.1)) hJ'⟩
      · exact .inr hS
  obtain ⟨xs, hB, hw⟩ := cellsOf l.length (Nat.le_refl _)
  refine ⟨xs, hB, 110, _, _, rfl, fun args w => by kernel_rfl, fun L J Stop h2 hn hJ hS hY hj => ?_⟩
  refine Sx.slices_Backward_1_apiMark1.ok (.func (.yield L) ⟨[]⟩ ⟨[]⟩) a _ _ ?_
  refine ⟨_, _, _, (v.kw hn.kw).cell0 rfl, rng64 (by omega) (by omega), l.length + 1, ?_⟩
  rw [<- hl]
  exact hw L J Stop hY h2 (hn.kw.less fun _ h => h.2) hj
theorem rdMark {i j : Int} {s : Bs} {b : Option Addr} {n c : Nat} {K : Int -> Int -> Bs -> Option Addr -> Nat -> Nat -> Prop} (h : K i j s b n c) :
    uncons [.int .i64 i, .agg ⟨[.int .i64 j, S s, .slice b n c]⟩] fun e l => vInt .i64 e fun i => uncons l fun e l2 => vAgg e fun l3 => uncons l3 fun e l4 => vInt .i64 e fun j => uncons l4 fun e l5 => vStr e fun s => uncons l5 fun e l6 => vSlice e fun b n c => unnil l6 (unnil l2 (K i j s b n c)) := h
section
variable {A : Nat -> Prop} {h : H} {b : Option Addr} {n c : Nat} {l : List MarkP}
theorem backward_calls (r : Row elMark A h b n c l) {K : Value -> H -> Prop} (hk : ∀ a h', Var h' a 37 [.slice b n c] -> KB h h' -> a.block = h.size -> K (.func (.func 110) ⟨[]⟩ ⟨[.pointer (some a)]⟩) h') :
    HCalls Tryz.prog 80 ⟨[.slice b n c]⟩ h K :=
  Sx.slices_Backward_apiMark.ok _ _ _ _ _ (newx_var fun a1 h1 v1 k1 e1 _ => hk a1 h1 v1 k1 e1)
end
end Go.Proofs
namespace Go.Proofs
open Go Go.Sh
set_option linter.unusedVariables false
set_option maxRecDepth 100000
def idxQ {α : Type} (l : List α) (p : α -> Bool) : Int := match l.findIdx? p with | some i => (i : Int) | none => -1
theorem idxQ_some {α : Type} {l : List α} {p : α -> Bool} {i : Nat} (hi : i < l.length) (hp : p l[i] = true) (hall : ∀ j (hj : j < l.length), j < i -> p l[j] = false) : idxQ l p = i := by
  have : l.findIdx? p = some i := List.findIdx?_eq_some_iff_getElem.2 ⟨hi, hp, fun j hj => by simp [hall j (by omega) hj]⟩
  unfold idxQ; rw [this]
theorem idxQ_none {α : Type} {l : List α} {p : α -> Bool} (hall : ∀ j (hj : j < l.length), p l[j] = false) : idxQ l p = -1 := by
  have : l.findIdx? p = none := List.findIdx?_eq_none_iff.2 fun x hx => by
    obtain ⟨j, hj, e⟩ := List.mem_iff_getElem.1 hx
    rw [<- e]; exact hall j hj
  unfold idxQ; rw [this]
theorem idxQ_any {α : Type} {l : List α} {p : α -> Bool} : 0 <= idxQ l p ↔ l.any p = true := by
  unfold idxQ
  cases h : l.findIdx? p with
  | none =>
    have := List.findIdx?_eq_none_iff.1 h
    refine ⟨fun h => absurd h (by decide), fun h2 => ?_⟩
    obtain ⟨x, hx, hp⟩ := List.any_eq_true.1 h2
    rw [this x hx] at hp; cases hp
  | some i =>
    obtain ⟨hi, hp, _⟩ := List.findIdx?_eq_some_iff_getElem.1 h
    exact ⟨fun _ => List.any_eq_true.2 ⟨_, List.getElem_mem _, hp⟩, fun _ => by simp⟩
theorem OpenR.any {A : Nat -> Prop} {h : H} {m : OpenP} (r : OpenR A h m) : OpenR (fun _ => True) h m := elOpen.keep _ _ _ _ _ _ r (Keep.refl _ _) fun _ _ _ => trivial
theorem OpenR.kb {A : Nat -> Prop} {h h' : H} {m : OpenP} (r : OpenR A h m) (k : KB h h') : OpenR A h' m := elOpen.keep _ _ _ _ _ _ r ((SK.w k).less fun _ h => h.2) fun _ h _ => h
theorem ldOpenR {A : Nat -> Prop} {h : H} {a : Addr} {m : OpenP} {K : Int -> Int -> Bs -> Int -> Prop} (hA : At elOpen A h a m) (hk : OpenR A h m -> K m.1 m.2.1 m.2.2.1 m.2.2.2) :
    ∃ i, cell h (a.add 0) = some (.int .i64 i) /\ ∃ j, cell h (a.add 1) = some (.int .u8 j) /\ ∃ s, cell h (a.add 2) = some (S s) /\ ∃ k, cell h (a.add 3) = some (.int .u8 k) /\ K i j s k :=
  have h1 := hA.fst.int
  have h2 := hA.snd.fst.int
  have h3 := (hA.snd.sndAt (k := 2) rfl).fst.str
  have h4 := ((hA.snd.sndAt (k := 2) rfl).sndAt (k := 3) rfl).int
  ⟨_, h1.1, _, h2.1, _, h3.1, _, h4.1, hk ⟨[.int .i64 m.1], _, rfl, ⟨rfl, h1.2⟩, [.int .u8 m.2.1], _, rfl, ⟨rfl, h2.2⟩, [S m.2.2.1], _, rfl, ⟨rfl, h3.2⟩, rfl, h4.2⟩⟩
section
variable {A B : Nat -> Prop} {h : H} {b b2 : Option Addr} {n c n2 c2 : Nat} {l : List MarkP}
theorem indexFuncOpen_calls {l : List OpenP} {f : Value} {p : OpenP -> Bool} (r : Row elOpen A h b n c l)
    (hf : ∀ x h1 (next : Value -> H -> Prop), x ∈ l -> KB h h1 -> OpenR A h1 x -> (∀ h2, KB h1 h2 -> next (.bool (p x)) h2) -> CallV Tryz.prog 4 f ⟨[.agg ⟨[.int .i64 x.1, .int .u8 x.2.1, S x.2.2.1, .int .u8 x.2.2.2]⟩]⟩ h1 next)
    {K : Value -> H -> Prop} (hk : ∀ h', KB h h' -> K (.int .i64 (idxQ l p)) h') :
    HCalls Tryz.prog 88 ⟨[.slice b n c, f]⟩ h K := by
  refine Sx.slices_IndexFunc_apiOpen.ok _ _ _ _ _ _ ?_
  have hl := r.len
  have hm : n <= maxLen := Nat.le_trans r.cap r.max
  simp only [maxLen] at hm
  refine ⟨n + 1, ?_⟩
  have key : ∀ k i h1, i + k = n -> KB h h1 -> (∀ j (h1 : j < l.length), j < i -> p l[j] = false) ->
      Sx.slices_IndexFunc_apiOpen.n6_L (fun h => K (.int .i64 (-1)) h) (fun h => K (.int .i64 (-1)) h) (fun y4 h => K (.int .i64 y4) h) (k + 1) b n c f (n : Int) (i : Int) h1 := by
    intro k
    induction k with
    | zero =>
      intro i h1 hi k1 hall
      have := hk h1 k1
      rw [idxQ_none fun j hj => hall j hj (by omega)] at this
      exact splF (by omega) this
    | succ k ih =>
      intro i h1 hi k1 hall
      have hil : i < l.length := by omega
      refine splT (by omega) ((r.kb k1).idxN hil rfl fun a hA => ldOpenR hA fun hR => hf _ h1 _ (List.getElem_mem _) k1 hR fun h2 k2 => ?_)
      refine condB (fun hd => ?_) fun hd => ⟨rng64 (by omega) (by omega), ih (i + 1) h2 (by omega) (k1.trans k2) fun j h1 hj => ?_⟩
      · have := hk h2 (k1.trans k2)
        rwa [idxQ_some hil hd hall] at this
      · by_cases e : j < i
        · exact hall j h1 e
        · have : j = i := by omega
          subst this
          exact hd
  exact key n 0 h (by omega) (KB.refl h) fun j _ hj => absurd hj (Nat.not_lt_zero _)
theorem containsFuncOpen_calls {l : List OpenP} {f : Value} {p : OpenP -> Bool} (r : Row elOpen A h b n c l)
    (hf : ∀ x h1 (next : Value -> H -> Prop), x ∈ l -> KB h h1 -> OpenR A h1 x -> (∀ h2, KB h1 h2 -> next (.bool (p x)) h2) -> CallV Tryz.prog 4 f ⟨[.agg ⟨[.int .i64 x.1, .int .u8 x.2.1, S x.2.2.1, .int .u8 x.2.2.2]⟩]⟩ h1 next)
    {K : Value -> H -> Prop} (hk : ∀ h', KB h h' -> K (.bool (l.any p)) h') :
    HCalls Tryz.prog 81 ⟨[.slice b n c, f]⟩ h K := by
  refine Sx.slices_ContainsFunc_apiOpen.ok _ _ _ _ _ _ (indexFuncOpen_calls r hf fun h' k' => ?_)
  refine spl (fun hp => ?_) fun hp => ?_
  · have := hk h' k'
    rwa [idxQ_any.1 hp] at this
  · have := hk h' k'
    have e : l.any p = false := by
      cases hq : l.any p with
      | false => rfl
      | true => exact absurd (idxQ_any.2 hq) hp
    rwa [e] at this
end
def lostAt (m : MarkP) (o : List OpenP) : Bool := decide (m.1 < 0) || o.any fun x => decide (x.1 = m.1)
def lostTo (l : List MarkP) (o : List OpenP) : Nat -> Int
  | 0 => 0
  | i + 1 => if lostAt (l.getD i (0, [], [])) o then ((i : Int) + 1) else lostTo l o i
def lostP (l : List MarkP) (o : List OpenP) : Int := lostTo l o l.length
section
variable {A B : Nat -> Prop} {h : H} {b b2 : Option Addr} {n c n2 c2 : Nat} {l : List MarkP} {o : List OpenP}
theorem lost_calls (hA : ∀ k, A k -> k < h.size) (r : Row elMark A h b n c l) (ro : Row elOpen B h b2 n2 c2 o) {K : Value -> H -> Prop} (hk : ∀ h', KB h h' -> K (.int .i64 (lostP l o)) h') :
    HCalls Tryz.prog 38 ⟨[.slice b n c, .slice b2 n2 c2]⟩ h K := by
  refine Sx.marks_Lost.ok _ _ _ _ _ _ _ _ (newx_var fun xs0 h0 v0 k0 e0 _ => newx_var fun x2 h1 v1 k1 e1 _ => backward_calls ((r.kb k0).kb k1) fun a h2 v2 k2 e2 => ?_)
  have hm : n <= maxLen := Nat.le_trans r.cap r.max
  simp only [maxLen] at hm
  have hl := r.len
  obtain ⟨xs, hB, hE⟩ := backward_emits (((r.kb k0).kb k1).kb k2) v2
  have h01 := k0.1
  have hne : ¬ (A x2.block ∨ x2.block = a.block) := fun e => by
    have := v1.lt
    rcases e with e | e
    · have := hA _ e; omega
    · omega
  have v12 := v1.kb k2
  have v02 := (v0.kb k1).kb k2
  have k02 : KB h h2 := (k0.trans k1).trans k2
  have k02s := k02.1
  refine ⟨xs, Non, _, hE, hB.len, rounds_of (fun xs h' => KB h2 h' /\ ∃ i, Backs A h' l i xs /\ lostTo l o i = lostP l o) (fun xs h' h'' ⟨k, i, hb, e⟩ n => ⟨k.nz n (Nat.le_succ _), i, hb.kw n.kw, e⟩) ?_ ?_ xs h2 ⟨KB.refl _, l.length, hB, rfl⟩⟩
  · rintro x xs h3 Kc ⟨k3, i, hb, e⟩ hKc
    cases i with
    | zero => simp [Backs] at hb
    | succ i =>
      obtain ⟨hi, b', n', c', rest, hm', e', hr⟩ := hb
      cases e'
      unfold lostTo at e
      rw [getD_get hi] at e
      refine rdMark (newx_var fun a4 h4 v4 k4 e4 _ => stL_var0 v4 (Nat.le_refl _) fun h5 v5 k5 s5 => ?_)
      have k35 : KB h3 h5 := KB.step k4 k5 (by omega)
      refine ⟨(k4.kp).trans (KX.kp v4 k5 fun e => ?_), fun h6 n6 => ?_⟩
      · have := k3.1; have h22 := k02.1
        rcases e with e | e
        · have := hA _ e; omega
        · have := v2.lt; omega
      have v6 := v5.kw n6.kw
      have k26 : KB h2 h6 := (k3.trans k35).nz n6 (Nat.le_succ _)
      have vx := v12.kb k26
      have found : lostAt l[i] o = true -> lostP l o = (i : Int) + 1 := fun ht => by rw [<- e, if_pos ht]
      refine ⟨_, v6.cell 0 rfl, spl (fun hneg => ⟨rng64 (by omega) (by omega), ?_⟩) fun hneg => ⟨_, _, _, (v02.kb k26).cell0 rfl, ?_⟩⟩
      · refine stL_var0 vx (Nat.le_refl _) fun h7 v7 k7 s7 => ⟨KX.kp vx k7 hne, fun h8 n8 hd => ?_⟩
        refine leave_int hd ((KB.step (k02.trans k26) k7 (by omega)).nz n8 (by omega)) k02s (v7.kw n8.kw) fun h' k' => ?_
        rw [found (by unfold lostAt; rw [decide_eq_true hneg, Bool.true_or])] at hk
        exact hk h' k'
      · refine containsFuncOpen_calls (p := fun x => decide (x.1 = l[i].1)) ((ro.kb k02).kb k26) (fun x h7 next hx k7 hR hn => ?_) fun h7 k7 => ?_
        · have e : CallV Tryz.prog 4 (.func (.func 82) ⟨[]⟩ ⟨[.pointer (some a4)]⟩) ⟨[.agg ⟨[.int .i64 x.1, .int .u8 x.2.1, S x.2.2.1, .int .u8 x.2.2.2]⟩]⟩ h7 next =
              HCalls Tryz.prog 82 ⟨[.agg ⟨[.int .i64 x.1, .int .u8 x.2.1, S x.2.2.1, .int .u8 x.2.2.2]⟩, .pointer (some a4)]⟩ h7 fun v h' => vBool v fun b => cond b (next (.bool true) h') (next (.bool false) h') := by kernel_rfl
          rw [e]
          refine Sx.marks_Lost_1.ok _ _ _ _ _ _ _ (newx_var fun a8 h8 v8 k8 e8 _ => ⟨_, v8.cell 0 rfl, _, ((v6.kb k7).kb k8).cell 0 rfl, ?_⟩)
          have := hn h8 k8
          refine spl (fun e => ?_) fun e => ?_
          · rw [decide_eq_true e] at this; exact this
          · rw [decide_eq_false e] at this; exact this
        · refine condB (fun ht => ⟨rng64 (by omega) (by omega), ?_⟩) fun ht => ?_
          · have vx7 := vx.kb k7
            refine stL_var0 vx7 (Nat.le_refl _) fun h8 v8 k8 s8 => ⟨(k7.kp).trans (KX.kp vx7 k8 hne), fun h9 n9 hd => ?_⟩
            refine leave_int hd ((KB.step ((k02.trans k26).trans k7) k8 (by omega)).nz n9 (by omega)) k02s (v8.kw n9.kw) fun h' k' => ?_
            rw [found (by unfold lostAt; rw [ht, Bool.or_true])] at hk
            exact hk h' k'
          · refine hKc _ _ k7.kp ⟨k26.trans k7, i, ((hr.kw (KB.w k35)).kw n6.kw).kw (KB.w k7), ?_⟩
            rw [if_neg (by unfold lostAt; rw [ht, decide_eq_false hneg]; simp)] at e
            exact e
  · rintro h3 ⟨k3, i, hb, e⟩ hd
    cases i with
    | succ i => obtain ⟨_, _, _, _, _, _, e', _⟩ := hb; cases e'
    | zero =>
      have vx := v12.kb k3
      refine stL_var0 vx (Nat.le_refl _) fun h7 v7 k7 s7 => ?_
      refine leave_int (vx.dOpen k7 hd) (KB.step (k02.trans k3) k7 (by omega)) k02s v7 fun h' k' => ?_
      rw [<- e] at hk; exact hk h' k'
theorem refLost_calls (r : Row elMark A h b n c l) (ro : Row elOpen B h b2 n2 c2 o) {K : Value -> H -> Prop} (hk : K (.int .i64 (lostP l o)) h) :
    HCalls Tryz.prog 40 ⟨[.slice b n c, .slice b2 n2 c2]⟩ h K := by
  refine Sx.r12_Lost.ok _ _ _ _ _ _ _ _ ?_
  have hl := r.len
  have hm : n <= maxLen := Nat.le_trans r.cap r.max
  have hlo := ro.len
  have hmo : n2 <= maxLen := Nat.le_trans ro.cap ro.max
  simp only [maxLen] at hm hmo
  refine ⟨rng64 (by omega) (by omega), n + 1, ?_⟩
  have inner : ∀ (i : Nat) (hi : i < l.length) (Kn Ke2 : Sx.r12_Lost.T4) (Ke1 : Sx.r12_Lost.T3) (Ke0 : Sx.r12_Lost.T2) (Kr : Sx.r12_Lost.T0) (k j : Nat) (is : Bool), j + k = n2 ->
      (∀ res, (res = (is || (o.drop j).any fun x => decide (x.1 = l[i].1))) -> Ke2 b n c b2 n2 c2 i res h) ->
      Sx.r12_Lost.n16_L Kn Ke2 Ke1 Ke0 Kr (k + 1) b n c b2 n2 c2 (i : Int) is (j : Int) h := by
    intro i hi Kn Ke2 Ke1 Ke0 Kr k
    induction k with
    | zero =>
      intro j is hj hK
      refine splF (by omega) (hK is ?_)
      rw [List.drop_of_length_le (by omega)]; simp
    | succ k ih =>
      intro j is hj hK
      have hjl : j < o.length := by omega
      have hst : o.drop j = o[j] :: o.drop (j + 1) := by rw [List.drop_eq_getElem_cons hjl]
      refine splT (by omega) (condB (fun e => ⟨rng64 (by omega) (by omega), ih (j + 1) true (by omega) fun res hr => hK res ?_⟩) fun e => ?_)
      · rw [hr, e]; simp
      · refine ro.idxN hjl rfl fun a hA => ldI hA.fst fun _ => r.idxN hi rfl fun a' hA' => ldI hA'.fst fun _ => spl (fun hd => ⟨rng64 (by omega) (by omega), ih (j + 1) true (by omega) fun res hr => hK res ?_⟩) fun hd => ⟨rng64 (by omega) (by omega), ih (j + 1) false (by omega) fun res hr => hK res ?_⟩
        · rw [hr, e, hst]; simp only [List.any_cons, decide_eq_true hd, Bool.true_or, Bool.false_or]
        · rw [hr, e, hst]; simp only [List.any_cons, decide_eq_false hd, Bool.false_or]
  have key : ∀ i, i <= n -> lostTo l o i = lostP l o ->
      Sx.r12_Lost.n6_L (fun h => K (.int .i64 0) h) (fun h => K (.int .i64 0) h) (fun y4 h => K (.int .i64 y4) h) (i + 1) b n c b2 n2 c2 ((i : Int) - 1) h := by
    intro i
    induction i with
    | zero =>
      intro _ e
      refine splF (by omega) ?_
      rw [<- e] at hk; exact hk
    | succ i ih =>
      intro hi e
      have hx : ((i + 1 : Nat) : Int) - 1 = (i : Int) := by omega
      have hil : i < l.length := by omega
      unfold lostTo at e
      rw [getD_get hil] at e
      rw [hx]
      have go : ∀ is : Bool, is = decide (l[i].1 < 0) -> ∀ Ke1 : Sx.r12_Lost.T3,
          Sx.r12_Lost.n12 b n c b2 n2 c2 (i : Int) is (fun z0b z0n z0c z1b z1n z1c z5 h => Sx.r12_Lost.n9 z0b z0n z0c z1b z1n z1c z5 (fun z0b z0n z0c z1b z1n z1c z5 h => Sx.r12_Lost.n6_L (fun h => K (.int .i64 0) h) (fun h => K (.int .i64 0) h) (fun y4 h => K (.int .i64 y4) h) (i + 1) z0b z0n z0c z1b z1n z1c z5 h) (fun h => K (.int .i64 0) h) (fun y4 h => K (.int .i64 y4) h) h) Ke1 (fun h => K (.int .i64 0) h) (fun y4 h => K (.int .i64 y4) h) h := by
        intro is his Ke1
        refine ⟨n2 + 1, inner i hil _ _ _ _ _ n2 0 is (by omega) fun res hr => ?_⟩
        have hres : res = lostAt l[i] o := by rw [hr, his]; rfl
        refine condB (fun ht => ⟨rng64 (by omega) (by omega), ?_⟩) fun ht => ⟨rng64 (by omega) (by omega), ?_⟩
        · rw [if_pos (by rw [<- hres]; exact ht)] at e
          rw [<- e] at hk; exact hk
        · rw [if_neg (by rw [<- hres, ht]; simp)] at e
          exact ih (by omega) e
      refine splT (by omega) (r.idxN hil rfl fun a hA => ldI hA.fst fun _ => spl (fun hd => go true (decide_eq_true hd).symm _) fun hd => go false (decide_eq_false hd).symm _)
  exact key n (Nat.le_refl _) (by rw [<- hl]; rfl)
end
end Go.Proofs
namespace Go.Proofs
open Go Go.Sh
set_option linter.unusedVariables false
set_option maxRecDepth 100000
theorem apdMark : Apd Tryz.prog elMark 37 36 48 := apd_of (sz := 3) (by kernel_rfl) rfl
section
variable {A : Nat -> Prop} {h : H} {b : Option Addr}
theorem markPart {l : List MarkP} {xs : List Value} (he : Enc elMark A h l xs) (hc : Cells h b xs) {i : Nat} (hi : i < l.length) :
    ∃ a b2 n2 c2, b = some a /\ cell h ((a.add (i * 3)).add 0) = some (.int .i64 l[i].1) /\ cell h ((a.add (i * 3)).add 1) = some (S l[i].2.1) /\ cell h ((a.add (i * 3)).add 2) = some (.slice b2 n2 c2) /\ MarkR A h l[i] b2 n2 c2 := by
  obtain ⟨cs, hR, hcs⟩ := he.at (List.getElem?_eq_getElem hi)
  have hR0 := hR
  obtain ⟨c1, c2, e, h1, c3, c4, e2, h2, b2, n2, cc2, e3, h3, h4⟩ := hR
  rw [h1.1] at e
  rw [h2.1] at e2
  rw [e3] at e2
  rw [e2] at e
  subst e
  obtain ⟨a, ea, ec⟩ := hc _ _ (hcs 0 _ rfl)
  subst ea
  have cel : ∀ j v, ([Value.int .i64 l[i].1] ++ ([S l[i].2.1] ++ [Value.slice b2 n2 cc2]))[j]? = some v -> cell h ((a.add (i * 3)).add j) = some v := fun j v hv => by
    obtain ⟨a', ea', ec'⟩ := hc _ _ (hcs j v hv)
    cases ea'
    rw [add_add]; exact ec'
  exact ⟨a, b2, n2, cc2, rfl, cel 0 _ rfl, cel 1 _ rfl, cel 2 _ rfl, hR0⟩
end
def sames (l : List MarkP) (m : MarkP) (s k : Nat) : List Nat := (List.range' s k).filter fun j => alikeP m (l.getD j (0, [], []))
theorem sames_succ (l : List MarkP) (m : MarkP) (s k : Nat) : sames l m s (k + 1) = if alikeP m (l.getD (s + k) (0, [], [])) then sames l m s k ++ [s + k] else sames l m s k := by
  unfold sames
  rw [List.range'_concat, List.filter_append, Nat.one_mul]
  rw [List.filter_cons]
  split
  · rfl
  · rw [List.filter_nil, List.append_nil]
def pushS (l : List MarkP) (m : MarkP) : List Nat := if m.1 < 0 then [] else sames l m (behind l) (l.length - behind l)
def pushP (l : List MarkP) (m : MarkP) : List MarkP := if (pushS l m).length < 3 then l ++ [m] else l.eraseIdx ((pushS l m).headD 0) ++ [m]
def fstI (l : List Nat) : Int := match l with | [] => -1 | a :: _ => (a : Int)
theorem fstI_append (l : List Nat) (j : Nat) : fstI (l ++ [j]) = if fstI l < 0 then (j : Int) else fstI l := by
  cases l with
  | nil => rfl
  | cons a t => show (a : Int) = if (a : Int) < 0 then _ else _; rw [if_neg (by omega)]; rfl
section
variable {A B : Nat -> Prop} {h : H} {b b2 : Option Addr} {n c n2 c2 : Nat} {l : List MarkP} {m : MarkP}
def keptTo (l : List MarkP) (s : List Nat) (i : Nat) : List MarkP := if s.length < 3 then l.take i else (l.take i).eraseIdx (s.headD 0)
theorem keptTo_yes {s : List Nat} {i : Nat} (hi : i < l.length) (hy : s.length < 3 ∨ (i : Int) ≠ fstI s) : keptTo l s (i + 1) = keptTo l s i ++ [l[i]] := by
  unfold keptTo
  rw [List.take_succ_eq_append_getElem hi]
  by_cases hs : s.length < 3
  · rw [if_pos hs, if_pos hs]
  · rw [if_neg hs, if_neg hs]
    have hne := hy.resolve_left hs
    cases s with
    | nil => simp at hs
    | cons a t =>
      simp only [List.headD_cons]
      have hne : i ≠ a := fun e => hne (by show (i : Int) = (a : Int); rw [e])
      by_cases ha : a < i
      · rw [List.eraseIdx_append_of_lt_length (by simp; omega)]
      · rw [List.eraseIdx_of_length_le (by simp; omega), List.eraseIdx_of_length_le (by simp; omega)]
theorem keptTo_no {s : List Nat} {i : Nat} (hi : i < l.length) (hs : ¬ s.length < 3) (hn : (i : Int) = fstI s) : keptTo l s (i + 1) = keptTo l s i := by
  unfold keptTo
  rw [List.take_succ_eq_append_getElem hi, if_neg hs, if_neg hs]
  cases s with
  | nil => simp at hs
  | cons a t =>
    simp only [List.headD_cons]
    have e : i = a := by have : (i : Int) = (a : Int) := hn; omega
    subst e
    have hlen : (l.take i).length = i := by simp; omega
    rw [List.eraseIdx_append_of_length_le (by omega), List.eraseIdx_of_length_le (k := i) (l := l.take i) (by omega), hlen]
    simp
theorem keptTo_len (s : List Nat) (i : Nat) : (keptTo l s i).length <= i := by
  unfold keptTo
  split
  · simp; omega
  · exact Nat.le_trans (List.length_eraseIdx_le _ _) (by simp; omega)
theorem refPush_calls {xs : List Value} (r : Row elMark B h b n c l) (hx : Enc elMark A h l xs) (hcx : Cells h b xs) (hA : ∀ k, A k -> k < h.size) (hR : MarkR A h m b2 n2 c2) (hn : n <= 100000000) {K : Value -> H -> Prop}
    (hk : ∀ b' n' c' h', OwnA elMark A h' h.size 36 b' n' c' (pushP l m) -> KB h h' -> K (.slice b' n' c') h') :
    HCalls Tryz.prog 10 ⟨[.slice b n c, .agg ⟨[.int .i64 m.1, S m.2.1, .slice b2 n2 c2]⟩]⟩ h K := by
  refine Sx.r12_Push.ok _ _ _ _ _ _ _ _ _ _ (newx_var fun x3 h1 v1 k1 e1 _ => behind_calls (r.kb k1) ?_)
  have hl := r.len
  have hble := behind_le l
  refine ⟨(n - behind l) + 1, ?_⟩
  have second : ∀ h2, KB h1 h2 -> Sx.r12_Push.n5 b n c x3 ((pushS l m).length : Int) (fstI (pushS l m)) (fun y4b y4n y4c h => K (.slice y4b y4n y4c) h) (fun y4b y4n y4c h => K (.slice y4b y4n y4c) h) h2 := by
    intro h2 k2
    have key : ∀ k i h5 b9 c9, i + k = n -> KB h1 h5 -> OwnA elMark A h5 h1.size 36 b9 (keptTo l (pushS l m) i).length c9 (keptTo l (pushS l m) i) ->
        Sx.r12_Push.n10_L (fun z3 z9b z9n z9c h => Sx.r12_Push.n7 z3 z9b z9n z9c (fun y4b y4n y4c h => K (.slice y4b y4n y4c) h) (fun y4b y4n y4c h => K (.slice y4b y4n y4c) h) h)
          (fun z3 z9b z9n z9c h => Sx.r12_Push.n7 z3 z9b z9n z9c (fun y4b y4n y4c h => K (.slice y4b y4n y4c) h) (fun y4b y4n y4c h => K (.slice y4b y4n y4c) h) h)
          (fun y4b y4n y4c h => K (.slice y4b y4n y4c) h) (k + 1) b n c x3 ((pushS l m).length : Int) (fstI (pushS l m)) b9 (keptTo l (pushS l m) i).length c9 (i : Int) h5 := by
      intro k
      induction k with
      | zero =>
        intro i h5 b9 c9 hi k5 o9
        have e : i = n := by omega
        subst e
        have v5 := v1.kb k5
        have k1s := k1.1
        have k5s := k5.1
        have hlen := keptTo_len (l := l) (pushS l m) i
        refine splF (by omega) ⟨_, v5.cell 0 rfl, _, v5.cell 1 rfl, _, _, _, v5.cell 2 rfl, newx_var fun a6 h6 v6 k6 e6 _ => ?_⟩
        have k16 := k5.trans k6
        have hR6 : MarkR A h6 m b2 n2 c2 := hR.kb (k1.trans k16)
        have k6s := k6.1
        refine OwnA.append1 apdMark (o9.kb k6) (fun k hk => by have := hA k hk; omega) v6 hR6 (by simp only [maxLen]; omega) (by omega) (by omega) fun b7 c7 h7 o7 g7 => hk b7 _ c7 h7 ?_ (Grow.kb0 (k1.trans k16) g7 fun a e => by have := o9.lo a e; omega)
        have e2 : keptTo l (pushS l m) i ++ [m] = pushP l m := by
          unfold keptTo pushP
          rw [List.take_of_length_le (by omega)]
          split <;> rfl
        rw [e2] at o7
        exact o7.lower k1s
      | succ k ih =>
        intro i h5 b9 c9 hi k5 o9
        have hil : i < l.length := by omega
        have hlen := keptTo_len (l := l) (pushS l m) i
        have yes : (pushS l m).length < 3 ∨ (i : Int) ≠ fstI (pushS l m) -> ∀ (Kn Ke3 : Sx.r12_Push.T7) (Ke2 : Sx.r12_Push.T6) (Kr : Sx.r12_Push.T0), (∀ b7 c7 h7, KB h1 h7 -> OwnA elMark A h7 h1.size 36 b7 (keptTo l (pushS l m) (i + 1)).length c7 (keptTo l (pushS l m) (i + 1)) -> Kn b n c x3 ((pushS l m).length : Int) (fstI (pushS l m)) b7 (keptTo l (pushS l m) (i + 1)).length c7 (i : Int) h7) ->
            Sx.r12_Push.n16 b n c x3 ((pushS l m).length : Int) (fstI (pushS l m)) b9 (keptTo l (pushS l m) i).length c9 (i : Int) true Kn Ke3 Ke2 Kr h5 := by
          intro hy Kn Ke3 Ke2 Kr hKn
          have e7 : (keptTo l (pushS l m) (i + 1)).length = (keptTo l (pushS l m) i).length + 1 := by rw [keptTo_yes hil hy]; simp
          rw [e7] at hKn
          have k05 : KB h h5 := k1.trans k5
          obtain ⟨a, b', n', c', eb, m0, m1, m2, hRi⟩ := markPart (hx.keep ((KB.w k05).less fun k hk => hk.2) fun _ h _ => h) (fun j u hu => by
            obtain ⟨q, e, ec⟩ := hcx j u hu
            exact ⟨q, e, (KB.w k05).cell (cell_lt ec) ec⟩) hil
          subst eb
          refine ⟨⟨by omega, by omega⟩, ⟨_, m0, _, m1, _, _, _, m2, newx_var fun a6 h6 v6 k6 e6 _ => ?_⟩⟩
          have k16 := k5.trans k6
          have k6s := k6.1
          have k5s := k5.1
          have k1s := k1.1
          refine OwnA.append1 apdMark (o9.kb k6) (fun k hk => by have := hA k hk; omega) v6 (hRi.kb k6) (by simp only [maxLen]; omega) (by omega) (by omega) fun b7 c7 h7 o7 g7 => hKn b7 c7 h7 (Grow.kb0 k16 g7 o9.lo) ?_
          rw [keptTo_yes hil hy]; exact o7
        refine splT (by omega) (spl (fun h3 => yes (.inl (by omega)) _ _ _ _ fun b7 c7 h7 k7 o7 => ⟨rng64 (by omega) (by omega), ih (i + 1) h7 b7 c7 (by omega) k7 o7⟩) fun h3 => spl (fun hf => ?_) fun hf => yes (.inr hf) _ _ _ _ fun b7 c7 h7 k7 o7 => ⟨rng64 (by omega) (by omega), ih (i + 1) h7 b7 c7 (by omega) k7 o7⟩)
        have en := keptTo_no hil (by omega) hf
        have := ih (i + 1) h5 b9 c9 (by omega) k5 (by rw [en]; exact o9)
        rw [en] at this
        exact ⟨rng64 (by omega) (by omega), this⟩
    have e0 : keptTo l (pushS l m) 0 = [] := by unfold keptTo; simp
    have := key n 0 h2 none 0 (by omega) k2 (by rw [e0]; exact OwnA.none _ _ _ _)
    rw [e0] at this
    exact ⟨n + 1, this⟩
  have key : ∀ k i h5, behind l + i + k = n -> KB h1 h5 -> (m.1 < 0 -> i = 0) ->
      Sx.r12_Push.n19_L (fun z0b z0n z0c z3 z5 z6 h => Sx.r12_Push.n5 z0b z0n z0c z3 z5 z6 (fun y4b y4n y4c h => K (.slice y4b y4n y4c) h) (fun y4b y4n y4c h => K (.slice y4b y4n y4c) h) h)
        (fun z0b z0n z0c z3 z5 z6 h => Sx.r12_Push.n5 z0b z0n z0c z3 z5 z6 (fun y4b y4n y4c h => K (.slice y4b y4n y4c) h) (fun y4b y4n y4c h => K (.slice y4b y4n y4c) h) h)
        (fun y4b y4n y4c h => K (.slice y4b y4n y4c) h) (k + 1) b n c x3 ((sames l m (behind l) i).length : Int) (fstI (sames l m (behind l) i)) ((behind l + i : Nat) : Int) h5 := by
    intro k
    induction k with
    | zero =>
      intro i h5 hi k5 hneg
      refine splF (by omega) ?_
      have e : sames l m (behind l) i = pushS l m := by
        unfold pushS
        split
        · rename_i hm
          rw [hneg hm]; rfl
        · congr 1; omega
      rw [e]
      exact second h5 k5
    | succ k ih =>
      intro i h5 hi k5 hneg
      have hil : behind l + i < l.length := by omega
      have v5 := v1.kb k5
      have hsl : (sames l m (behind l) i).length <= i := by
        unfold sames
        exact Nat.le_trans (List.length_filter_le _ _) (by rw [List.length_range']; exact Nat.le_refl _)
      refine splT (by omega) ⟨_, v5.cell 0 rfl, spl (fun hp => ?_) fun hp => ?_⟩
      · refine ⟨_, v5.cell 0 rfl, _, v5.cell 1 rfl, _, _, _, v5.cell 2 rfl, (r.kb (k1.trans k5)).idxN hil rfl fun a hAt => ldMark hAt fun b' n' c' hRi => refAlike_calls (hR.kb (k1.trans k5)) hRi fun h6 k6 => ?_⟩
        have hsuc := sames_succ l m (behind l) i
        rw [getD_get hil] at hsuc
        have go := ih (i + 1) h6 (by omega) (k5.trans k6) (fun h => by omega)
        refine condB (fun ha => ⟨rng64 (by omega) (by omega), ?_⟩) fun ha => ⟨rng64 (by omega) (by omega), ?_⟩
        · rw [if_pos ha] at hsuc
          rw [hsuc, List.length_append, List.length_singleton, fstI_append] at go
          refine spl (fun hf => ⟨rng64 (by omega) (by omega), ?_⟩) fun hf => ⟨rng64 (by omega) (by omega), ?_⟩
          · rw [if_pos hf] at go
            exact go
          · rw [if_neg hf] at go
            exact go
        · rw [if_neg (by rw [ha]; simp)] at hsuc
          rw [hsuc] at go
          exact go
      · have hi0 : i = 0 := hneg (by omega)
        subst hi0
        have e : pushS l m = [] := by unfold pushS; rw [if_pos (by omega)]
        have := second h5 k5
        rw [e] at this
        exact this
  exact key (n - behind l) 0 h1 (by omega) (KB.refl _) fun _ => rfl
end
end Go.Proofs
