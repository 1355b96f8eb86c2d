import Derived.Test.YtijoifkjeamonaaGreatDoE
import Derived.Test.YtijoifkjeamonaaGreatOpA
import Derived.Test.YtijoifkjeamonaaGreatTxA
import Derived.Test.YtijoifkjeamonaaGreatPcD
import Derived.Test.YtijoifkjeamonaaGreatShQ
import Derived.Test.YtijoifkjeamonaaGreatTxD
import Derived.Test.YtijoifkjeamonaaGreatTxF
namespace Go.Proofs
open Go Go.Sh
set_option linter.unusedVariables false
set_option maxRecDepth 100000
inductive NodeV where
  | mk (kind space : Int) (name : Bs) (attrs : List AttrP) (text : Bs) (kids : List NodeV)
def NodeV.kind : NodeV -> Int | .mk k _ _ _ _ _ => k
def NodeV.space : NodeV -> Int | .mk _ s _ _ _ _ => s
def NodeV.name : NodeV -> Bs | .mk _ _ n _ _ _ => n
def NodeV.attrs : NodeV -> List AttrP | .mk _ _ _ a _ _ => a
def NodeV.text : NodeV -> Bs | .mk _ _ _ _ t _ => t
def NodeV.kids : NodeV -> List NodeV | .mk _ _ _ _ _ k => k
abbrev nvCells (x : NodeV) (ab : Option Addr) (an ac : Nat) (kb : Option Addr) (kn kc : Nat) : List Value := [.int .u8 x.kind, .int .u8 x.space, S x.name, .slice ab an ac, S x.text, .slice kb kn kc]
def nodeR : Nat -> (Nat -> Prop) -> H -> NodeV -> List Value -> Prop
  | 0, _, _, _, _ => False
  | d + 1, A, h, x, cs => ∃ ab an ac kb kn kc, cs = nvCells x ab an ac kb kn kc /\ Row elAttr A h ab an ac x.attrs /\ (ab = none -> ac = 0) /\
      (x.kids.length = kn /\ kn <= kc /\ kc <= maxLen /\ ∀ (i : Nat) y, x.kids[i]? = some y -> ∃ a, kb = some a /\ A (a.add (i * 6)).block /\ ∃ cs, nodeR d A h y cs /\ ∀ (j : Nat) v, cs[j]? = some v -> cell h ((a.add (i * 6)).add j) = some v) /\
      (kb = none -> kc = 0) /\ Rng .u8 x.kind /\ Rng .u8 x.space /\ x.name.length <= maxLen /\ x.text.length <= maxLen
theorem nodeR_len : ∀ {d : Nat} {A : Nat -> Prop} {h : H} {x : NodeV} {cs : List Value}, nodeR d A h x cs -> cs.length = 6
  | 0, _, _, _, _, h => h.elim
  | d + 1, _, _, _, _, ⟨ab, an, ac, kb, kn, kc, e, _⟩ => by rw [e]; rfl
theorem nodeR_keep : ∀ {d : Nat} {A A' : Nat -> Prop} {h h' : H} {x : NodeV} {cs : List Value}, nodeR d A h x cs -> Keep (fun k => A k /\ k < h.size) h h' -> (∀ k, A k -> k < h.size -> A' k) -> nodeR d A' h' x cs
  | 0, _, _, _, _, _, _, h, _, _ => h.elim
  | d + 1, A, A', h, h', x, cs, ⟨ab, an, ac, kb, kn, kc, e, ra, hz, ⟨h1, h2, h3, h4⟩, hz2, r1, r2, r3, r4⟩, k, hb =>
    ⟨ab, an, ac, kb, kn, kc, e, ra.keep k hb, hz, ⟨h1, h2, h3, fun i y hy => by
      obtain ⟨a, ea, hA, cs', hR, hc⟩ := h4 i y hy
      have hl := nodeR_len hR
      have hlt : (a.add (i * 6)).block < h.size := by
        have := cell_lt (hc 0 _ (List.getElem?_eq_getElem (by omega)))
        rwa [add_block] at this
      exact ⟨a, ea, hb _ hA hlt, cs', nodeR_keep hR k hb, fun j v hv => k.cell (by rw [add_block]; exact ⟨hA, hlt⟩) (hc j v hv)⟩⟩, hz2, r1, r2, r3, r4⟩
def elNode (d : Nat) : El NodeV where
  sz := 6
  R := nodeR d
  len := fun _ _ _ _ h => nodeR_len h
  one := fun _ _ _ _ h v hv => by
    cases d with
    | zero => exact h.elim
    | succ d =>
      obtain ⟨ab, an, ac, kb, kn, kc, e, _⟩ := h
      rw [e] at hv
      simp only [nvCells, List.mem_cons, List.not_mem_nil, or_false] at hv
      rcases hv with rfl | rfl | rfl | rfl | rfl | rfl <;> rfl
  keep := fun _ _ _ _ _ _ h k hb => nodeR_keep h k hb
  pos := by decide
theorem nodeR_inv {d : Nat} {A : Nat -> Prop} {h : H} {x : NodeV} {cs : List Value} (hR : nodeR (d + 1) A h x cs) : ∃ ab an ac kb kn kc, cs = nvCells x ab an ac kb kn kc /\ Row elAttr A h ab an ac x.attrs /\ (ab = none -> ac = 0) /\ Row (elNode d) A h kb kn kc x.kids /\ (kb = none -> kc = 0) /\ Rng .u8 x.kind /\ Rng .u8 x.space /\ x.name.length <= maxLen /\ x.text.length <= maxLen := by
  obtain ⟨ab, an, ac, kb, kn, kc, e, ra, hz, ⟨h1, h2, h3, h4⟩, hz2, r1, r2, r3, r4⟩ := hR
  exact ⟨ab, an, ac, kb, kn, kc, e, ra, hz, ⟨h1, h2, h3, fun i y hy => by
    obtain ⟨a, e, hA, cs, hR, hc⟩ := h4 i y hy
    exact ⟨a, e, hA, cs, hR, hc⟩⟩, hz2, r1, r2, r3, r4⟩
def thawB (A : Nat -> Prop) (h : H) (b : Option Addr) (n : Nat) : Prop := n = 0 ∨ ∃ q, b = some q /\ A q.block /\ ∃ c e, h[q.block]? = some (.cells c e (0, 0))
theorem thawB.keep {A A' : Nat -> Prop} {h h' : H} {b : Option Addr} {n : Nat} (t : thawB A h b n) (k : Keep (fun k => A k /\ k < h.size) h h') (hb : ∀ k, A k -> k < h.size -> A' k) : thawB A' h' b n := by
  rcases t with h0 | ⟨q, e, hA, c, f, hg⟩
  · exact Or.inl h0
  · have hlt := (Array.getElem?_eq_some_iff.1 hg).1
    exact Or.inr ⟨q, e, hb _ hA hlt, c, f, k.2 _ ⟨hA, hlt⟩ _ hg rfl⟩
theorem thaw_own {h : H} {base e sz n c : Nat} {b : Option Addr} {xs : List Value} {A : Nat -> Prop} (o : Own h base e sz b n c xs) (hA : ∀ q, b = some q -> A q.block) : thawB A h b n := by
  rcases o.is with h1 | ⟨g, cur, e1, _, hg, _⟩
  · exact Or.inl h1.1
  · exact Or.inr ⟨_, e1, hA _ e1, _, _, hg⟩
def nodeT : Nat -> (Nat -> Prop) -> H -> NodeV -> List Value -> Prop
  | 0, _, _, _, _ => False
  | d + 1, A, h, x, cs => ∃ ab an ac kb kn kc, cs = nvCells x ab an ac kb kn kc /\ Row elAttr A h ab an ac x.attrs /\ (ab = none -> ac = 0) /\
      (x.kids.length = kn /\ kn <= kc /\ kc <= maxLen /\ ∀ (i : Nat) y, x.kids[i]? = some y -> ∃ a, kb = some a /\ A (a.add (i * 6)).block /\ ∃ cs, nodeT d A h y cs /\ ∀ (j : Nat) v, cs[j]? = some v -> cell h ((a.add (i * 6)).add j) = some v) /\
      (kb = none -> kc = 0) /\ Rng .u8 x.kind /\ Rng .u8 x.space /\ x.name.length <= maxLen /\ x.text.length <= maxLen /\ thawB A h ab an /\ thawB A h kb kn
theorem nodeT_len : ∀ {d : Nat} {A : Nat -> Prop} {h : H} {x : NodeV} {cs : List Value}, nodeT d A h x cs -> cs.length = 6
  | 0, _, _, _, _, h => h.elim
  | d + 1, _, _, _, _, ⟨_, _, _, _, _, _, e, _⟩ => by rw [e]; rfl
theorem nodeT_keep : ∀ {d : Nat} {A A' : Nat -> Prop} {h h' : H} {x : NodeV} {cs : List Value}, nodeT d A h x cs -> Keep (fun k => A k /\ k < h.size) h h' -> (∀ k, A k -> k < h.size -> A' k) -> nodeT d A' h' x cs
  | 0, _, _, _, _, _, _, h, _, _ => h.elim
  | d + 1, A, A', h, h', x, cs, ⟨ab, an, ac, kb, kn, kc, e, ra, hz, ⟨h1, h2, h3, h4⟩, hz2, r1, r2, r3, r4, t1, t2⟩, k, hb =>
    ⟨ab, an, ac, kb, kn, kc, e, ra.keep k hb, hz, ⟨h1, h2, h3, fun i y hy => by
      obtain ⟨a, ea, hA, cs', hR, hc⟩ := h4 i y hy
      have hl := nodeT_len hR
      have hlt : (a.add (i * 6)).block < h.size := by
        have := cell_lt (hc 0 _ (List.getElem?_eq_getElem (by omega)))
        rwa [add_block] at this
      exact ⟨a, ea, hb _ hA hlt, cs', nodeT_keep hR k hb, fun j v hv => k.cell (by rw [add_block]; exact ⟨hA, hlt⟩) (hc j v hv)⟩⟩, hz2, r1, r2, r3, r4, t1.keep k hb, t2.keep k hb⟩
def elNodeT (d : Nat) : El NodeV where
  sz := 6
  R := nodeT d
  len := fun _ _ _ _ h => nodeT_len h
  one := fun _ _ _ _ h v hv => by
    cases d with
    | zero => exact h.elim
    | succ d =>
      obtain ⟨ab, an, ac, kb, kn, kc, e, _⟩ := h
      rw [e] at hv
      simp only [nvCells, List.mem_cons, List.not_mem_nil, or_false] at hv
      rcases hv with rfl | rfl | rfl | rfl | rfl | rfl <;> rfl
  keep := fun _ _ _ _ _ _ h k hb => nodeT_keep h k hb
  pos := by decide
theorem nodeT_mk {d : Nat} {A : Nat -> Prop} {h : H} {x : NodeV} {ab kb : Option Addr} {an ac kn kc : Nat} (ra : Row elAttr A h ab an ac x.attrs) (hz : ab = none -> ac = 0) (rk : Row (elNodeT d) A h kb kn kc x.kids) (hz2 : kb = none -> kc = 0)
    (r1 : Rng .u8 x.kind) (r2 : Rng .u8 x.space) (r3 : x.name.length <= maxLen) (r4 : x.text.length <= maxLen) (t1 : thawB A h ab an) (t2 : thawB A h kb kn) : nodeT (d + 1) A h x (nvCells x ab an ac kb kn kc) :=
  ⟨ab, an, ac, kb, kn, kc, rfl, ra, hz, ⟨rk.len, rk.cap, rk.max, fun i y hy => by
    obtain ⟨a, e, hA, cs, hR, hc⟩ := rk.at' i y hy
    exact ⟨a, e, hA, cs, hR, hc⟩⟩, hz2, r1, r2, r3, r4, t1, t2⟩
theorem nodeT_R : ∀ {d : Nat} {A : Nat -> Prop} {h : H} {x : NodeV} {cs : List Value}, nodeT d A h x cs -> nodeR d A h x cs
  | 0, _, _, _, _, h => h.elim
  | d + 1, _, _, _, _, ⟨ab, an, ac, kb, kn, kc, e, ra, hz, ⟨h1, h2, h3, h4⟩, hz2, r1, r2, r3, r4, _, _⟩ =>
    ⟨ab, an, ac, kb, kn, kc, e, ra, hz, ⟨h1, h2, h3, fun i y hy => by
      obtain ⟨a, ea, hA, cs', hR, hc⟩ := h4 i y hy
      exact ⟨a, ea, hA, cs', nodeT_R hR, hc⟩⟩, hz2, r1, r2, r3, r4⟩
theorem encT_R {d : Nat} {A : Nat -> Prop} {h : H} : ∀ {l : List NodeV} {xs : List Value}, Enc (elNodeT d) A h l xs -> Enc (elNode d) A h l xs
  | [], _, h => h
  | x :: l, _, ⟨cs, ys, e, hR, hE⟩ => ⟨cs, ys, e, nodeT_R hR, encT_R hE⟩
theorem apdNodeT (d : Nat) : Apd Tryz.prog (elNodeT d) 25 70 88 := apd_of (sz := 6) (by kernel_rfl) rfl
structure OwnR {α : Type} (E : El α) (h : H) (base e : Nat) (b : Option Addr) (n c : Nat) (l : List α) : Prop where
  own : OwnT E (fun k => base <= k /\ But h b k) h base e b n c l
  lo : ∀ a, b = some a -> base <= a.block
  hi : ∀ a, b = some a -> a.block < h.size
  nil : b = none -> c = 0
section
variable {α : Type} {E : El α}
theorem OwnR.none (h : H) (base e : Nat) : OwnR E h base e none 0 0 [] := ⟨OwnT.nil _ _ _ _ _, (fun _ e => by cases e), (fun _ e => by cases e), fun _ => rfl⟩
theorem OwnR.kw {h h' : H} {base e n c : Nat} {b : Option Addr} {l : List α} (o : OwnR E h base e b n c l) (k : Keep (fun k => base <= k) h h') : OwnR E h' base e b n c l :=
  ⟨o.own.keep (B := fun k => base <= k) k (fun _ h _ => h.1) (fun k' hk hks => ⟨hk.1, Nat.lt_of_lt_of_le hks k.1, hk.2.2⟩) fun _ _ h _ => h, o.lo, fun a e => Nat.lt_of_lt_of_le (o.hi a e) k.1, o.nil⟩
theorem OwnR.kb {h h' : H} {base e n c : Nat} {b : Option Addr} {l : List α} (o : OwnR E h base e b n c l) (k : KB h h') : OwnR E h' base e b n c l :=
  ⟨o.own.keep (B := Bel h.size) (KB.w k) (fun _ _ h => h) (fun k' hk hks => ⟨hk.1, Nat.lt_of_lt_of_le hks k.1, hk.2.2⟩) fun _ _ _ h => h, o.lo, fun a e => Nat.lt_of_lt_of_le (o.hi a e) k.1, o.nil⟩
theorem OwnR.lower {h : H} {base base' e n c : Nat} {b : Option Addr} {l : List α} (o : OwnR E h base e b n c l) (hb : base' <= base) : OwnR E h base' e b n c l :=
  ⟨(o.own.keep (B := fun _ => True) (Keep.refl _ _) (fun _ _ _ => trivial) (fun k hk _ => ⟨Nat.le_trans hb hk.1, hk.2⟩) fun _ _ _ _ => trivial).lower hb, fun a e => Nat.le_trans hb (o.lo a e), o.hi, o.nil⟩
theorem OwnR.row {h : H} {base e n c : Nat} {b : Option Addr} {l : List α} (o : OwnR E h base e b n c l) : Row E (fun k => base <= k /\ k < h.size) h b n c l := o.own.row (fun _ h => ⟨h.1, h.2.1⟩) fun g _ h hb => ⟨hb, h⟩
theorem OwnR.weakT {d : Nat} {h : H} {base e n c : Nat} {b : Option Addr} {l : List NodeV} (o : OwnR (elNodeT d) h base e b n c l) : OwnR (elNode d) h base e b n c l := by
  obtain ⟨xs, h1, h2⟩ := o.own.own
  exact ⟨⟨o.own.len, xs, h1, encT_R h2⟩, o.lo, o.hi, o.nil⟩
theorem OwnR.append {t ty e by' : Nat} {P : Program} (ap : Apd P E t e by') {h : H} {sb rb : Option Addr} {n c m k base : Nat} {l l2 : List α} (o : OwnR E h base e sb n c l) (r : Row E (fun k => base <= k /\ But h sb k) h rb m k l2)
    (h63 : n + m <= maxLen) (hb : (n + m) * by' <= 140737488355328) (hbase : base <= h.size) {K : Value -> H -> Prop}
    (hk : ∀ b' c' h', OwnR E h' base e b' (n + m) c' (l ++ l2) -> Grow h h' sb -> K (.slice b' (n + m) c') h') :
    SemH P (Builtin.append_ #[t, t] ty ⟨[.slice sb n c, .slice rb m k]⟩) h K := by
  refine OwnT.append ap o.own r h63 hb hbase (fun k hk _ => hk.2.2) fun b2 c2 h' o' hg hb h0 => hk b2 c2 h' ⟨?_, ?_, ?_, ?_⟩ hg
  · refine o'.keep (Keep.refl (fun _ => True) _) (fun _ _ _ => trivial) (fun k hk' hks => ⟨hk'.1, hks, fun x hx => ?_⟩) fun _ _ _ _ => trivial
    rcases hb with rfl | rfl
    · exact hk'.2.2 x hx
    · cases hx
      have := hk'.2.1
      show h.size ≠ k
      omega
  · intro x hx
    rcases hb with rfl | rfl
    · exact o.lo x hx
    · cases hx; exact hbase
  · intro x hx
    rcases hb with rfl | rfl
    · exact Nat.lt_of_lt_of_le (o.hi x hx) hg.size
    · obtain ⟨xs, ho, _⟩ := o'.own
      rcases ho.is with h1 | ⟨g, cur, e1, _, hgg, _⟩
      · have := h0 h1.1
        exact Nat.lt_of_lt_of_le (o.hi x (this.1 ▸ hx)) hg.size
      · rw [hx] at e1; cases e1; exact (Array.getElem?_eq_some_iff.1 hgg).1
  · intro hbn
    obtain ⟨xs, ho, _⟩ := o'.own
    rcases ho.is with h1 | ⟨g, cur, e1, _⟩
    · exact h1.2
    · rw [hbn] at e1; cases e1
theorem _root_.Go.Sh.OwnF.behind (hf : Flat E) {h : H} {base e n c : Nat} {b : Option Addr} {l : List α} (o : OwnF E h base e b n c l) {A : Nat -> Prop} (hA : ∀ k, base <= k -> k < h.size -> A k) : Row E A h b n c l := by
  obtain ⟨xs, h1, h2⟩ := o.own.own
  by_cases hn : n = 0
  · subst hn
    have : l = [] := List.eq_nil_of_length_eq_zero o.own.len
    subst this
    exact ⟨rfl, h1.cap, h1.max, fun i x hx => by simp at hx⟩
  · exact Row.of (Enc.flat hf h2) h1.cells o.own.len h1.cap h1.max fun q e => hA _ (o.lo q e) (o.hi q e)
end
end Go.Proofs
namespace Go.Proofs
open Go Go.Sh
set_option linter.unusedVariables false
set_option maxRecDepth 100000
def kidsI (ns : List NodeM) (id : Int) : List Int := if 0 <= id then ((ns[id.toNat]?).map (·.kids)).getD [] else []
def nodeVI (ns : List NodeM) (k : Int) (kids : List NodeV) : NodeV :=
  match ns[k.toNat]? with
  | some z => .mk z.kind z.space z.name z.attrs z.text kids
  | none => .mk 0 0 [] [] [] []
def wholeL : Nat -> List NodeM -> Int -> List NodeV
  | 0, _, _ => []
  | d + 1, ns, id => (kidsI ns id).map fun k => nodeVI ns k (wholeL d ns k)
def Deep : Nat -> List NodeM -> Int -> Prop
  | 0, _, _ => False
  | d + 1, ns, id => ∀ k ∈ kidsI ns id, Deep d ns k
theorem Deep.up : ∀ {d : Nat} {ns : List NodeM} {id : Int}, Deep d ns id -> Deep (d + 1) ns id
  | 0, _, _, h => h.elim
  | d + 1, _, _, h => fun k hk => (h k hk).up
theorem Deep.mono {d d' : Nat} {ns : List NodeM} {id : Int} (h : Deep d ns id) (hd : d <= d') : Deep d' ns id := by
  induction hd with
  | refl => exact h
  | step _ ih => exact ih.up
theorem kidsI_some {ns : List NodeM} {j : Nat} {z : NodeM} (h : ns[j]? = some z) : kidsI ns (j : Int) = z.kids := by
  unfold kidsI
  rw [if_pos (by omega), Int.toNat_natCast, h]; rfl
theorem bound_rk (rk : Nat -> Nat) : ∀ n, ∃ M, ∀ i, i < n -> rk i <= M
  | 0 => ⟨0, fun i h => by omega⟩
  | n + 1 => by
    obtain ⟨M, hM⟩ := bound_rk rk n
    refine ⟨M + rk n, fun i h => ?_⟩
    by_cases e : i = n
    · subst e; omega
    · have := hM i (by omega); omega
theorem GoodT.deep {ns : List NodeM} (G : GoodT ns) : ∃ D, ∀ d, D <= d -> ∀ id : Int, Deep d ns id := by
  obtain ⟨rk, hr⟩ := G.rank
  obtain ⟨M, hM⟩ := bound_rk rk ns.length
  have key : ∀ f (j : Nat), j < ns.length -> M < rk j + f -> Deep f ns (j : Int) := by
    intro f
    induction f with
    | zero => intro j hj h; have := hM j hj; omega
    | succ f ih =>
      intro j hj h k hk
      have hz : ns[j]? = some ns[j] := List.getElem?_eq_getElem hj
      rw [kidsI_some hz] at hk
      obtain ⟨m, w, rfl, hw, hp⟩ := (G.kid j _ k hz).1 hk
      have := hr m j w hw hp
      exact ih m (getI hw) (by omega)
  refine ⟨M + 2, fun d hd id => ?_⟩
  have h1 : Deep (M + 2) ns id := by
    intro k hk
    unfold kidsI at hk
    split at hk
    · rename_i h0
      cases hz : ns[id.toNat]? with
      | none => rw [hz] at hk; cases hk
      | some z =>
        rw [hz] at hk
        have hk : k ∈ z.kids := hk
        obtain ⟨m, w, rfl, hw, hp⟩ := (G.kid id.toNat z k hz).1 hk
        exact key (M + 1) m (getI hw) (by omega)
    · cases hk
  exact h1.mono hd
section
variable {h : H} {K : Value -> H -> Prop} {col : Col} {s i p : Nat} {t a : Addr} {ads : List Addr} {ns : List NodeM} {x y : NodeM}
theorem wholeT_calls (G : GoodT ns) : ∀ (d : Nat) (id : Int) {h : H} {K : Value -> H -> Prop} (T : TreeP h col s t ads ns) (hd : Deep d ns id)
    (hk : ∀ h' b n c, KB h h' -> OwnR (elNodeT d) h' h.size 70 b n c (wholeL d ns id) -> K (.slice b n c) h'),
    HCalls Tryz.prog 25 ⟨[.pointer (some t), .int .i64 id]⟩ h K := by
  intro d
  induction d with
  | zero => intro id h K T hd; exact hd.elim
  | succ d ihd =>
    intro id h K T hd hk
    have hlen := T.len
    have hft := T.few
    refine Sx.dom_Tree_Whole.ok _ _ _ _ (at_calls T (fun hn => vPtrMk (ptrEq_k (by kernel_rfl) (vBool_mk (condT ?_)))) fun i a x e hx ha => vPtrMk (ptrEq_k (by kernel_rfl) (vBool_mk (condF ?_))))
    · have e : wholeL (d + 1) ns id = [] := by
        unfold wholeL kidsI
        by_cases h0 : 0 <= id
        · rw [if_pos h0, List.getElem?_eq_none (by omega)]; rfl
        · rw [if_neg h0]; rfl
      rw [e] at hk
      exact hk h none 0 0 (KB.refl h) (OwnR.none _ _ _)
    · subst e
      obtain ⟨ab, an, ac, kb, kn, kc, v, ra, hz, ok, hkc⟩ := (T.nodes i x a hx ha).ex
      have hkl := ok.len
      have hfx := G.few hx
      have ew : wholeL (d + 1) ns (i : Int) = x.kids.map fun k => nodeVI ns k (wholeL d ns k) := by
        show (kidsI ns (i : Int)).map _ = _
        rw [kidsI_some hx]
      have hdk : ∀ k ∈ x.kids, Deep d ns k := by
        have := hd
        intro k hk2
        exact this k (by rw [kidsI_some hx]; exact hk2)
      rw [ew] at hk
      refine vSomeMk ⟨_, _, _, v.cell 7 rfl, kn + 1, ?_⟩
      have key : ∀ N m h2 ob oc (out : List NodeV), m + N = kn -> KB h h2 -> OwnR (elNodeT (d + 1)) h2 h.size 70 ob m oc out -> out = (x.kids.take m).map (fun k => nodeVI ns k (wholeL d ns k)) ->
          Sx.dom_Tree_Whole.n9_L (fun z6b z6n z6c h => Sx.dom_Tree_Whole.n6 z6b z6n z6c (fun y4b y4n y4c h => K (.slice y4b y4n y4c) h) (fun y4b y4n y4c h => K (.slice y4b y4n y4c) h) h) (fun z6b z6n z6c h => Sx.dom_Tree_Whole.n6 z6b z6n z6c (fun y4b y4n y4c h => K (.slice y4b y4n y4c) h) (fun y4b y4n y4c h => K (.slice y4b y4n y4c) h) h) (fun y4b y4n y4c h => K (.slice y4b y4n y4c) h) (N + 1) (some t) ob m oc kb kn kc (kn : Int) (m : Int) h2 := by
        intro N
        induction N with
        | zero =>
          intro m h2 ob oc out hmN k2 o2 eo
          unfold Sx.dom_Tree_Whole.n9_L
          refine splF (by omega) ?_
          rw [List.take_of_length_le (by omega)] at eo
          rw [eo] at o2
          exact hk h2 ob m oc k2 o2
        | succ N ih =>
          intro m h2 ob oc out hmN k2 o2 eo
          have hml : m < x.kids.length := by omega
          unfold Sx.dom_Tree_Whole.n9_L
          have ok2 : OwnI h2 kb kn kc x.kids := ok.keep (KB.w k2) fun q e => ok.hi q e
          refine splT (by omega) ((ok2.row (A := fun _ => True) fun _ _ => trivial).idxN hml rfl fun q hA => ldI hA fun _ => ?_)
          obtain ⟨j, z, ej, hz', hpz⟩ := (G.kid i x _ hx).1 (List.getElem_mem hml)
          have hjl := getI hz'
          have T2 := T.kb k2
          obtain ⟨lb, lc, vt, o, hl2⟩ := T2.ex
          have hdj : Deep d ns (j : Int) := by rw [<- ej]; exact hdk _ (List.getElem_mem hml)
          rw [ej]
          refine vSomeMk ⟨_, _, _, vt.cell 0 rfl, ?_⟩
          refine o.row.idxN (i := j) (by omega) rfl fun q2 hA2 => ldPtr hA2 (vSomeMk ?_)
          have haj : ads[j]? = some (ads[j]'(by omega)) := List.getElem?_eq_getElem (by omega)
          have Nj := T2.nodes j z _ hz' haj
          obtain ⟨ab2, an2, ac2, kb2, kn2, kc2, v2, ra2, hz2, ok3, hkc2⟩ := Nj.ex
          have hal2 := ra2.len
          have hfa := Nj.fa
          refine ⟨_, v2.cellZ 0 rfl, _, v2.cellZ 1 rfl, _, v2.cellZ 2 rfl, _, _, _, v2.cellZ 3 rfl, _, v2.cellZ 4 rfl, _, _, _, v2.cellZ 5 rfl, newx_var fun a3 h3 v3 k3 e3 s3 => stL_var0 v3 (Nat.le_refl 6) fun h4 v4 k4 s4 => ⟨_, _, _, v4.cell 3 rfl, ?_⟩⟩
          have k24 : KB h2 h4 := KB.step k3 k4 (by omega)
          have hs2 := k2.1
          refine cloneA_calls (ra2.bel.keep ((KB.w k24).less fun k hk => hk.2) (B' := fun _ => True) fun _ _ _ => trivial) hz2 (by omega) fun b5 c5 h5 o5 k5 => vSliceMk ?_
          have hs5 := k5.1
          refine ihd (j : Int) (T2.kb (k24.trans k5)) hdj fun h6 b6 n6 c6 k6 o6 => vSliceMk ?_
          have hs6 := k6.1
          have v6 := (v4.kb k5).kb k6
          refine stL_var (m := 3) (i := 0) v6 (by show 3 + 0 + 1 <= 6; omega) fun h7 v7 k7 s7 => stL_var (m := 5) (i := 0) v7 (by show 5 + 0 + 1 <= 6; omega) fun h8 v8 k8 s8 => ?_
          have v8 : Var h8 a3 70 [.int .u8 z.kind, .int .u8 z.space, S z.name, .slice b5 an2 c5, S z.text, .slice b6 n6 c6] := v8
          refine ⟨_, v8.cell 0 rfl, _, v8.cell 1 rfl, _, v8.cell 2 rfl, _, _, _, v8.cell 3 rfl, _, v8.cell 4 rfl, _, _, _, v8.cell 5 rfl, newx_var fun a9 h9 v9 k9 e9 s9 => ?_⟩
          have k28 : KB h2 h8 := KB.step (KB.step ((k24.trans k5).trans k6) k7 (by omega)) k8 (by omega)
          have o9 : OwnR (elNodeT (d + 1)) h9 h.size 70 ob m oc out := (o2.kb k28).kb k9
          have hob := o2.hi
          have oa : OwnF elAttr h9 h4.size 67 b5 an2 c5 z.attrs := (((o5.kb k6).flatK k7 flatAttr fun g hg => by omega).flatK k8 flatAttr fun g hg => by omega).kb k9
          have okk : OwnR (elNodeT d) h9 h5.size 70 b6 n6 c6 (wholeL d ns j) := ((o6.kw (k7.w.less fun g (hg : h5.size <= g) => by omega)).kw (k8.w.less fun g (hg : h5.size <= g) => by omega)).kb k9
          have hR : nodeT (d + 1) (fun k => h.size <= k /\ But h9 ob k) h9 (.mk z.kind z.space z.name z.attrs z.text (wholeL d ns j)) [.int .u8 z.kind, .int .u8 z.space, S z.name, .slice b5 an2 c5, S z.text, .slice b6 n6 c6] :=
            nodeT_mk (x := .mk z.kind z.space z.name z.attrs z.text (wholeL d ns j)) (oa.behind flatAttr fun k h1 h2' => ⟨by omega, h2', fun q e => by have := hob q e; omega⟩) oa.nil
              (okk.row.keep (Keep.refl _ _) fun k hk hs => ⟨by have := hk.1; omega, hs, fun q e => by have := hob q e; have := hk.1; omega⟩) okk.nil Nj.rk Nj.rs Nj.fn Nj.ft
              (thaw_own (Classical.choose_spec oa.own.own).1 fun q e => ⟨by have := oa.lo q e; omega, oa.hi q e, fun q' e' => by have := oa.lo q e; have := hob q' e'; omega⟩)
              (thaw_own (Classical.choose_spec okk.own.own).1 fun q e => ⟨by have := okk.lo q e; omega, okk.hi q e, fun q' e' => by have := okk.lo q e; have := hob q' e'; omega⟩)
          have r9 : Row (elNodeT (d + 1)) (fun k => h.size <= k /\ But h9 ob k) h9 (some a9) 1 1 [.mk z.kind z.space z.name z.attrs z.text (wholeL d ns j)] := v9.row1 hR ⟨by omega, v9.lt, fun q e => by have := hob q e; omega⟩
          refine OwnR.append (apdNodeT (d + 1)) o9 r9 (by simp only [maxLen]; omega) (by omega) (by omega) fun b10 c10 h10 o10 g10 => vSliceMk ⟨rngI (by omega) (by omega), ?_⟩
          refine ih (m + 1) h10 b10 c10 _ (by omega) ?_ o10 ?_
          · exact g10.kb0 ((k2.trans k28).trans k9) fun q e => o2.lo q e
          · rw [eo, List.take_add_one, List.getElem?_eq_getElem hml, List.map_append, ej]
            congr 1
            show [_] = [nodeVI ns (j : Int) _]
            unfold nodeVI
            rw [Int.toNat_natCast, hz']
      exact key kn 0 h none 0 [] (by omega) (KB.refl h) (OwnR.none _ _ _) rfl
theorem whole_calls (G : GoodT ns) (d : Nat) (id : Int) {h : H} {K : Value -> H -> Prop} (T : TreeP h col s t ads ns) (hd : Deep d ns id)
    (hk : ∀ h' b n c, KB h h' -> OwnR (elNode d) h' h.size 70 b n c (wholeL d ns id) -> K (.slice b n c) h') :
    HCalls Tryz.prog 25 ⟨[.pointer (some t), .int .i64 id]⟩ h K := wholeT_calls G d id T hd fun h' b n c k o => hk h' b n c k o.weakT
end
end Go.Proofs
namespace Go.Proofs
open Go Go.Sh
set_option linter.unusedVariables false
set_option maxRecDepth 100000
theorem eqAttr (x y : AttrP) : eqAll [S x.1, S x.2] [S y.1, S y.2] = decide (x = y) := by
  obtain ⟨x1, x2⟩ := x; obtain ⟨y1, y2⟩ := y
  simp only [eqAll, eqV, Bool.and_true]
  rw [Bool.eq_iff_iff]
  simp
section
variable {A B : Nat -> Prop} {h : H} {b b2 : Option Addr} {n c n2 c2 : Nat} {K : Value -> H -> Prop}
end
theorem row_zero {A : Nat -> Prop} {h : H} {b : Option Addr} {n c : Nat} {l : List NodeV} (r : Row (elNode 0) A h b n c l) : l = [] := by
  cases l with
  | nil => rfl
  | cons x l =>
    obtain ⟨a, _, _, cs, hR, _⟩ := r.at' 0 x rfl
    exact hR.elim
section
variable {h : H} {K : Value -> H -> Prop}
end
end Go.Proofs
namespace Go.Proofs
open Go Go.Sh
set_option linter.unusedVariables false
set_option maxRecDepth 100000
theorem nodeF {d : Nat} {A : Nat -> Prop} {h : H} {a : Addr} {x : NodeV} (hA : At (elNode (d + 1)) A h a x) : ∃ ab an ac kb kn kc, (∀ (j : Nat) v, (nvCells x ab an ac kb kn kc)[j]? = some v -> cell h (a.add j) = some v) /\ Row elAttr A h ab an ac x.attrs /\ Row (elNode d) A h kb kn kc x.kids /\ x.name.length <= maxLen /\ x.text.length <= maxLen := by
  obtain ⟨_, cs, hR, hc⟩ := hA
  obtain ⟨ab, an, ac, kb, kn, kc, rfl, ra, hz, rk, hz2, r1, r2, r3, r4⟩ := nodeR_inv hR
  exact ⟨ab, an, ac, kb, kn, kc, hc, ra, rk, r3, r4⟩
end Go.Proofs
namespace Go.Proofs
open Go Go.Sh
set_option linter.unusedVariables false
set_option maxRecDepth 100000
section
variable {A : Nat -> Prop} {h : H} {a : Addr}
abbrev MarkR (A : Nat -> Prop) (h : H) (m : MarkP) (b : Option Addr) (n c : Nat) : Prop := elMark.R A h m [.int .i64 m.1, S m.2.1, .slice b n c]
theorem markR {m : MarkP} {b : Option Addr} {n c : Nat} (r : Row elAttr A h b n c m.2.2) (hz : b = none -> c = 0) (hr : Rng .i64 m.1) (hs : m.2.1.length <= maxLen) : MarkR A h m b n c :=
  ⟨[.int .i64 m.1], [S m.2.1, .slice b n c], rfl, ⟨rfl, hr⟩, [S m.2.1], [.slice b n c], rfl, ⟨rfl, hs⟩, b, n, c, rfl, r, hz⟩
theorem MarkR.inv {m : MarkP} {b : Option Addr} {n c : Nat} (r : MarkR A h m b n c) : Row elAttr A h b n c m.2.2 /\ (b = none -> c = 0) /\ Rng .i64 m.1 /\ m.2.1.length <= maxLen := by
  obtain ⟨c1, c2, e, ⟨e1, hr⟩, c3, c4, e2, ⟨e3, hs⟩, b', n', c', e4, r', hz⟩ := r
  subst e4; subst e3; subst e1; subst e2
  simp at e
  obtain ⟨rfl, rfl, rfl⟩ := e
  exact ⟨r', hz, hr, hs⟩
theorem MarkR.kb {h' : H} {m : MarkP} {b : Option Addr} {n c : Nat} (r : MarkR A h m b n c) (k : KB h h') : MarkR A h' m b n c := elMark.keep _ _ _ _ _ _ r ((SK.w k).less fun _ h => h.2) fun _ h _ => h
theorem MarkR.kw {h' : H} {m : MarkP} {b : Option Addr} {n c : Nat} (r : MarkR A h m b n c) (k : KW h h') : MarkR A h' m b n c := elMark.keep _ _ _ _ _ _ r (k.less fun _ h => h.2) fun _ h _ => h
theorem MarkR.any {m : MarkP} {b : Option Addr} {n c : Nat} (r : MarkR A h m b n c) : MarkR (fun _ => True) h m b n c := elMark.keep _ _ _ _ _ _ r (Keep.refl _ _) fun _ _ _ => trivial
theorem ldMark {m : MarkP} {K : Int -> Bs -> Option Addr -> Nat -> Nat -> Prop} (hA : At elMark A h a m) (hk : ∀ b n c, MarkR A h m b n c -> K m.1 m.2.1 b n c) :
    ∃ i, cell h (a.add 0) = some (.int .i64 i) /\ ∃ s, cell h (a.add 1) = some (S s) /\ ∃ b n c, cell h (a.add 2) = some (.slice b n c) /\ K i s b n c :=
  ⟨_, hA.fst.int.1, _, hA.snd.fst.str.1, ldSl (hA.snd.sndAt (k := 2) rfl) fun b n c r hz => hk b n c (markR r hz hA.fst.int.2 hA.snd.fst.str.2)⟩
end
def behindTo (l : List MarkP) : Nat -> Nat
  | 0 => 0
  | i + 1 => if (l.getD i (0, [], [])).1 < 0 then i + 1 else behindTo l i
def behind (l : List MarkP) : Nat := behindTo l l.length
theorem behindTo_le (l : List MarkP) : ∀ i, behindTo l i <= i
  | 0 => Nat.le_refl _
  | i + 1 => by
    unfold behindTo
    split
    · exact Nat.le_refl _
    · exact Nat.le_succ_of_le (behindTo_le l i)
theorem behind_le (l : List MarkP) : behind l <= l.length := behindTo_le l _
theorem attrEq {x y : AttrP} {p q : Operand} {h : H} {K : Value -> Prop} (hk : K (.bool (decide (x = y)))) : SemR Tryz.prog (binS .eql 67 p q (.agg ⟨[S x.1, S x.2]⟩) (.agg ⟨[S y.1, S y.2]⟩)) h K :=
  semR_eql (by kernel_rfl) (by kernel_rfl) (by rw [eqAttr]; exact hk)
def alikeP (x y : MarkP) : Bool := decide (x.2.1 = y.2.1) && (decide (x.2.2.length = y.2.2.length) && x.2.2.all fun a => decide (a ∈ y.2.2))
section
variable {A B : Nat -> Prop} {h : H} {b b2 : Option Addr} {n c n2 c2 : Nat}
end
end Go.Proofs
namespace Go.Proofs
open Go Go.Sh
set_option linter.unusedVariables false
set_option maxRecDepth 100000
def Backs (A : Nat -> Prop) (h : H) (l : List MarkP) : Nat -> List (List Value) -> Prop
  | 0, xs => xs = []
  | i + 1, xs => ∃ (hi : i < l.length) (b : Option Addr) (n c : Nat) (rest : List (List Value)), MarkR A h l[i] b n c /\ xs = [.int .i64 i, .agg ⟨[.int .i64 l[i].1, S l[i].2.1, .slice b n c]⟩] :: rest /\ Backs A h l i rest
theorem Backs.kw {A : Nat -> Prop} {h h' : H} {l : List MarkP} (k : KW h h') : ∀ {i : Nat} {xs : List (List Value)}, Backs A h l i xs -> Backs A h' l i xs
  | 0, _, e => e
  | i + 1, _, ⟨hi, b, n, c, rest, hm, e, hr⟩ => ⟨hi, b, n, c, rest, hm.kw k, e, hr.kw k⟩
theorem Backs.of {A : Nat -> Prop} {h : H} {b : Option Addr} {n c : Nat} {l : List MarkP} (r : Row elMark A h b n c l) : ∀ {i : Nat}, i <= l.length -> ∃ xs, Backs A h l i xs
  | 0, _ => ⟨[], rfl⟩
  | i + 1, hi => by
    obtain ⟨rest, hr⟩ := Backs.of r (i := i) (by omega)
    obtain ⟨a, e, hA⟩ := r.at' i _ (List.getElem?_eq_getElem (by omega))
    obtain ⟨b', n', c', _, r', hz⟩ := (hA.snd.sndAt (k := 2) rfl).sl
    exact ⟨_, by omega, b', n', c', rest, markR r' hz hA.fst.int.2 hA.snd.fst.str.2, rfl, hr⟩
theorem Backs.len {A : Nat -> Prop} {h : H} {l : List MarkP} : ∀ {i : Nat} {xs : List (List Value)}, Backs A h l i xs -> ∀ x ∈ xs, x.length = 2
  | 0, _, e, x, hx => by simp [Backs] at e; rw [e] at hx; cases hx
  | i + 1, _, ⟨hi, b, n, c, rest, hm, e, hr⟩, x, hx => by
    rw [e] at hx
    rcases List.mem_cons.1 hx with rfl | hx
    · rfl
    · exact hr.len x hx
theorem backward_emits {A : Nat -> Prop} {h : H} {b : Option Addr} {n c : Nat} {l : List MarkP} {a : Addr} (r : Row elMark A h b n c l) (v : Var h a 40 [.slice b n c]) :
    ∃ xs, Backs A h l l.length xs /\ Emits Tryz.prog (.func (.func 182) ⟨[]⟩ ⟨[.pointer (some a)]⟩) h xs Non (fun k => A k ∨ k = a.block) := by
  have hl := r.len
  have hm : n <= maxLen := Nat.le_trans r.cap r.max
  simp only [maxLen] at hm
  have cellsOf : ∀ i, i <= l.length -> ∃ xs, Backs A h l i xs /\ ∀ (L : Nat) (J : List (List Value) -> H -> Prop) (Stop : H -> Prop),
      (∀ x rest h', J (x :: rest) h' -> YCalls Tryz.prog L ⟨x⟩ h' fun v h'' => (v = .bool true /\ J rest h'' /\ KpR (fun k => A k ∨ k = a.block) h' h'') ∨ (v = .bool false /\ Stop h'' /\ KpR (fun k => A k ∨ k = a.block) h' h'')) ->
      ∀ h', Keep (fun k => (A k ∨ k = a.block) /\ k < h.size) h h' -> J xs h' ->
        Sx.slices_Backward_1_apiMark1.n3_L (fun h3 => J [] h3 ∨ Stop h3) (fun h3 => J [] h3 ∨ Stop h3) (fun h3 => J [] h3 ∨ Stop h3) (i + 1) (.func (.yield L) ⟨[]⟩ ⟨[]⟩) a ((i : Int) - 1) h' := by
    intro i
    induction i with
    | zero =>
      intro _
      exact ⟨[], rfl, fun L J Stop hY h' hk hJ => splF (by omega) (.inl hJ)⟩
    | succ i ih =>
      intro hi
      obtain ⟨rest, hr, hw⟩ := ih (by omega)
      obtain ⟨ar, ear, hA⟩ := r.at' i _ (List.getElem?_eq_getElem (by omega))
      obtain ⟨b', n', c', eb, r', hz⟩ := (hA.snd.sndAt (k := 2) rfl).sl
      refine ⟨_, ⟨by omega, b', n', c', rest, markR r' hz hA.fst.int.2 hA.snd.fst.str.2, rfl, hr⟩, fun L J Stop hY h' hk hJ => ?_⟩
      have hx : ((i + 1 : Nat) : Int) - 1 = (i : Int) := by omega
      rw [hx]
      have hal : A ar.block := by have := hA.1; rwa [add_block] at this
      have hcell : ∀ j x, cell h ((ar.add (i * 3)).add j) = some x -> cell h' ((ar.add (i * 3)).add j) = some x := fun j x e => hk.cell (by rw [add_block, add_block]; exact ⟨.inl hal, by have := cell_lt e; rwa [add_block, add_block] at this⟩) e
      have v' : Var h' a 40 [.slice b n c] := v.keep hk ⟨.inr rfl, v.lt⟩
      refine splT (by omega) ⟨_, _, _, v'.cell0 rfl, ⟨by omega, by omega⟩, ?_⟩
      rw [ear]
      refine ⟨_, hcell 0 _ hA.fst.int.1, _, hcell 1 _ hA.snd.fst.str.1, _, _, _, hcell 2 _ eb, ?_⟩
      rw [callYield]
      refine fun w hw2 => ?_
      obtain ⟨fn, tmps, assign, body, hrun, hrd⟩ := hY _ _ _ hJ w hw2
      refine ⟨fn, tmps, assign, body, hrun, hrd.mono ?_⟩
      rintro e w' ⟨v, he, ho, hor⟩
      refine ⟨v, he, ho, ?_⟩
      have hxx : (i : Int) - 1 = (i : Int) - (1 : Int) := rfl
      rcases hor with ⟨rfl, hJ', hkr⟩ | ⟨rfl, hS, hkr⟩
      · exact ⟨rng64 (by omega) (by omega), hw L J Stop hY _ (Keep.trans (hw2 ▸ hk) (hkr.keep.less fun _ h => h.1)) hJ'⟩
      · exact .inr hS
  obtain ⟨xs, hB, hw⟩ := cellsOf l.length (Nat.le_refl _)
  refine ⟨xs, hB, 182, _, _, rfl, fun args w => by kernel_rfl, fun L J Stop h2 hn hJ hS hY hj => ?_⟩
  refine Sx.slices_Backward_1_apiMark1.ok (.func (.yield L) ⟨[]⟩ ⟨[]⟩) a _ _ ?_
  refine ⟨_, _, _, (v.kw hn.kw).cell0 rfl, rng64 (by omega) (by omega), l.length + 1, ?_⟩
  rw [<- hl]
  exact hw L J Stop hY h2 (hn.kw.less fun _ h => h.2) hj
theorem rdMark {i j : Int} {s : Bs} {b : Option Addr} {n c : Nat} {K : Int -> Int -> Bs -> Option Addr -> Nat -> Nat -> Prop} (h : K i j s b n c) :
    uncons [.int .i64 i, .agg ⟨[.int .i64 j, S s, .slice b n c]⟩] fun e l => vInt .i64 e fun i => uncons l fun e l2 => vAgg e fun l3 => uncons l3 fun e l4 => vInt .i64 e fun j => uncons l4 fun e l5 => vStr e fun s => uncons l5 fun e l6 => vSlice e fun b n c => unnil l6 (unnil l2 (K i j s b n c)) := h
section
variable {A : Nat -> Prop} {h : H} {b : Option Addr} {n c : Nat} {l : List MarkP}
theorem backward_calls (r : Row elMark A h b n c l) {K : Value -> H -> Prop} (hk : ∀ a h', Var h' a 40 [.slice b n c] -> KB h h' -> a.block = h.size -> K (.func (.func 182) ⟨[]⟩ ⟨[.pointer (some a)]⟩) h') :
    HCalls Tryz.prog 136 ⟨[.slice b n c]⟩ h K :=
  Sx.slices_Backward_apiMark.ok _ _ _ _ _ (newx_var fun a1 h1 v1 k1 e1 _ => hk a1 h1 v1 k1 e1)
end
end Go.Proofs
namespace Go.Proofs
open Go Go.Sh
set_option linter.unusedVariables false
set_option maxRecDepth 100000
def idxQ {α : Type} (l : List α) (p : α -> Bool) : Int := match l.findIdx? p with | some i => (i : Int) | none => -1
theorem idxQ_some {α : Type} {l : List α} {p : α -> Bool} {i : Nat} (hi : i < l.length) (hp : p l[i] = true) (hall : ∀ j (hj : j < l.length), j < i -> p l[j] = false) : idxQ l p = i := by
  have : l.findIdx? p = some i := List.findIdx?_eq_some_iff_getElem.2 ⟨hi, hp, fun j hj => by simp [hall j (by omega) hj]⟩
  unfold idxQ; rw [this]
theorem idxQ_none {α : Type} {l : List α} {p : α -> Bool} (hall : ∀ j (hj : j < l.length), p l[j] = false) : idxQ l p = -1 := by
  have : l.findIdx? p = none := List.findIdx?_eq_none_iff.2 fun x hx => by
    obtain ⟨j, hj, e⟩ := List.mem_iff_getElem.1 hx
    rw [<- e]; exact hall j hj
  unfold idxQ; rw [this]
theorem idxQ_any {α : Type} {l : List α} {p : α -> Bool} : 0 <= idxQ l p ↔ l.any p = true := by
  unfold idxQ
  cases h : l.findIdx? p with
  | none =>
    have := List.findIdx?_eq_none_iff.1 h
    refine ⟨fun h => absurd h (by decide), fun h2 => ?_⟩
    obtain ⟨x, hx, hp⟩ := List.any_eq_true.1 h2
    rw [this x hx] at hp; cases hp
  | some i =>
    obtain ⟨hi, hp, _⟩ := List.findIdx?_eq_some_iff_getElem.1 h
    exact ⟨fun _ => List.any_eq_true.2 ⟨_, List.getElem_mem _, hp⟩, fun _ => by simp⟩
theorem OpenR.any {A : Nat -> Prop} {h : H} {m : OpenP} (r : OpenR A h m) : OpenR (fun _ => True) h m := elOpen.keep _ _ _ _ _ _ r (Keep.refl _ _) fun _ _ _ => trivial
theorem OpenR.kb {A : Nat -> Prop} {h h' : H} {m : OpenP} (r : OpenR A h m) (k : KB h h') : OpenR A h' m := elOpen.keep _ _ _ _ _ _ r ((SK.w k).less fun _ h => h.2) fun _ h _ => h
theorem ldOpenR {A : Nat -> Prop} {h : H} {a : Addr} {m : OpenP} {K : Int -> Int -> Bs -> Int -> Prop} (hA : At elOpen A h a m) (hk : OpenR A h m -> K m.1 m.2.1 m.2.2.1 m.2.2.2) :
    ∃ i, cell h (a.add 0) = some (.int .i64 i) /\ ∃ j, cell h (a.add 1) = some (.int .u8 j) /\ ∃ s, cell h (a.add 2) = some (S s) /\ ∃ k, cell h (a.add 3) = some (.int .u8 k) /\ K i j s k :=
  have h1 := hA.fst.int
  have h2 := hA.snd.fst.int
  have h3 := (hA.snd.sndAt (k := 2) rfl).fst.str
  have h4 := ((hA.snd.sndAt (k := 2) rfl).sndAt (k := 3) rfl).int
  ⟨_, h1.1, _, h2.1, _, h3.1, _, h4.1, hk ⟨[.int .i64 m.1], _, rfl, ⟨rfl, h1.2⟩, [.int .u8 m.2.1], _, rfl, ⟨rfl, h2.2⟩, [S m.2.2.1], _, rfl, ⟨rfl, h3.2⟩, rfl, h4.2⟩⟩
section
variable {A B : Nat -> Prop} {h : H} {b b2 : Option Addr} {n c n2 c2 : Nat} {l : List MarkP}
theorem indexFuncOpen_calls {l : List OpenP} {f : Value} {p : OpenP -> Bool} (r : Row elOpen A h b n c l)
    (hf : ∀ x h1 (next : Value -> H -> Prop), x ∈ l -> KB h h1 -> OpenR A h1 x -> (∀ h2, KB h1 h2 -> next (.bool (p x)) h2) -> CallV Tryz.prog 4 f ⟨[.agg ⟨[.int .i64 x.1, .int .u8 x.2.1, S x.2.2.1, .int .u8 x.2.2.2]⟩]⟩ h1 next)
    {K : Value -> H -> Prop} (hk : ∀ h', KB h h' -> K (.int .i64 (idxQ l p)) h') :
    HCalls Tryz.prog 183 ⟨[.slice b n c, f]⟩ h K := by
  refine Sx.slices_IndexFunc_apiOpen.ok _ _ _ _ _ _ ?_
  have hl := r.len
  have hm : n <= maxLen := Nat.le_trans r.cap r.max
  simp only [maxLen] at hm
  refine ⟨n + 1, ?_⟩
  have key : ∀ k i h1, i + k = n -> KB h h1 -> (∀ j (h1 : j < l.length), j < i -> p l[j] = false) ->
      Sx.slices_IndexFunc_apiOpen.n6_L (fun h => K (.int .i64 (-1)) h) (fun h => K (.int .i64 (-1)) h) (fun y4 h => K (.int .i64 y4) h) (k + 1) b n c f (n : Int) (i : Int) h1 := by
    intro k
    induction k with
    | zero =>
      intro i h1 hi k1 hall
      have := hk h1 k1
      rw [idxQ_none fun j hj => hall j hj (by omega)] at this
      exact splF (by omega) this
    | succ k ih =>
      intro i h1 hi k1 hall
      have hil : i < l.length := by omega
      refine splT (by omega) ((r.kb k1).idxN hil rfl fun a hA => ldOpenR hA fun hR => hf _ h1 _ (List.getElem_mem _) k1 hR fun h2 k2 => ?_)
      refine condB (fun hd => ?_) fun hd => ⟨rng64 (by omega) (by omega), ih (i + 1) h2 (by omega) (k1.trans k2) fun j h1 hj => ?_⟩
      · have := hk h2 (k1.trans k2)
        rwa [idxQ_some hil hd hall] at this
      · by_cases e : j < i
        · exact hall j h1 e
        · have : j = i := by omega
          subst this
          exact hd
  exact key n 0 h (by omega) (KB.refl h) fun j _ hj => absurd hj (Nat.not_lt_zero _)
theorem containsFuncOpen_calls {l : List OpenP} {f : Value} {p : OpenP -> Bool} (r : Row elOpen A h b n c l)
    (hf : ∀ x h1 (next : Value -> H -> Prop), x ∈ l -> KB h h1 -> OpenR A h1 x -> (∀ h2, KB h1 h2 -> next (.bool (p x)) h2) -> CallV Tryz.prog 4 f ⟨[.agg ⟨[.int .i64 x.1, .int .u8 x.2.1, S x.2.2.1, .int .u8 x.2.2.2]⟩]⟩ h1 next)
    {K : Value -> H -> Prop} (hk : ∀ h', KB h h' -> K (.bool (l.any p)) h') :
    HCalls Tryz.prog 137 ⟨[.slice b n c, f]⟩ h K := by
  refine Sx.slices_ContainsFunc_apiOpen.ok _ _ _ _ _ _ (indexFuncOpen_calls r hf fun h' k' => ?_)
  refine spl (fun hp => ?_) fun hp => ?_
  · have := hk h' k'
    rwa [idxQ_any.1 hp] at this
  · have := hk h' k'
    have e : l.any p = false := by
      cases hq : l.any p with
      | false => rfl
      | true => exact absurd (idxQ_any.2 hq) hp
    rwa [e] at this
end
def lostAt (m : MarkP) (o : List OpenP) : Bool := decide (m.1 < 0) || o.any fun x => decide (x.1 = m.1)
def lostTo (l : List MarkP) (o : List OpenP) : Nat -> Int
  | 0 => 0
  | i + 1 => if lostAt (l.getD i (0, [], [])) o then ((i : Int) + 1) else lostTo l o i
def lostP (l : List MarkP) (o : List OpenP) : Int := lostTo l o l.length
section
variable {A B : Nat -> Prop} {h : H} {b b2 : Option Addr} {n c n2 c2 : Nat} {l : List MarkP} {o : List OpenP}
theorem lost_calls (hA : ∀ k, A k -> k < h.size) (r : Row elMark A h b n c l) (ro : Row elOpen B h b2 n2 c2 o) {K : Value -> H -> Prop} (hk : ∀ h', KB h h' -> K (.int .i64 (lostP l o)) h') :
    HCalls Tryz.prog 62 ⟨[.slice b n c, .slice b2 n2 c2]⟩ h K := by
  refine Sx.marks_Lost.ok _ _ _ _ _ _ _ _ (newx_var fun xs0 h0 v0 k0 e0 _ => newx_var fun x2 h1 v1 k1 e1 _ => backward_calls ((r.kb k0).kb k1) fun a h2 v2 k2 e2 => ?_)
  have hm : n <= maxLen := Nat.le_trans r.cap r.max
  simp only [maxLen] at hm
  have hl := r.len
  obtain ⟨xs, hB, hE⟩ := backward_emits (((r.kb k0).kb k1).kb k2) v2
  have h01 := k0.1
  have hne : ¬ (A x2.block ∨ x2.block = a.block) := fun e => by
    have := v1.lt
    rcases e with e | e
    · have := hA _ e; omega
    · omega
  have v12 := v1.kb k2
  have v02 := (v0.kb k1).kb k2
  have k02 : KB h h2 := (k0.trans k1).trans k2
  have k02s := k02.1
  refine ⟨xs, Non, _, hE, hB.len, rounds_of (fun xs h' => KB h2 h' /\ ∃ i, Backs A h' l i xs /\ lostTo l o i = lostP l o) (fun xs h' h'' ⟨k, i, hb, e⟩ n => ⟨k.nz n (Nat.le_succ _), i, hb.kw n.kw, e⟩) ?_ ?_ xs h2 ⟨KB.refl _, l.length, hB, rfl⟩⟩
  · rintro x xs h3 Kc ⟨k3, i, hb, e⟩ hKc
    cases i with
    | zero => simp [Backs] at hb
    | succ i =>
      obtain ⟨hi, b', n', c', rest, hm', e', hr⟩ := hb
      cases e'
      unfold lostTo at e
      rw [getD_get hi] at e
      refine rdMark (newx_var fun a4 h4 v4 k4 e4 _ => stL_var0 v4 (Nat.le_refl _) fun h5 v5 k5 s5 => ?_)
      have k35 : KB h3 h5 := KB.step k4 k5 (by omega)
      refine ⟨(k4.kp).trans (KX.kp v4 k5 fun e => ?_), fun h6 n6 => ?_⟩
      · have := k3.1; have h22 := k02.1
        rcases e with e | e
        · have := hA _ e; omega
        · have := v2.lt; omega
      have v6 := v5.kw n6.kw
      have k26 : KB h2 h6 := (k3.trans k35).nz n6 (Nat.le_succ _)
      have vx := v12.kb k26
      have found : lostAt l[i] o = true -> lostP l o = (i : Int) + 1 := fun ht => by rw [<- e, if_pos ht]
      refine ⟨_, v6.cell 0 rfl, spl (fun hneg => ⟨rng64 (by omega) (by omega), ?_⟩) fun hneg => ⟨_, _, _, (v02.kb k26).cell0 rfl, ?_⟩⟩
      · refine stL_var0 vx (Nat.le_refl _) fun h7 v7 k7 s7 => ⟨KX.kp vx k7 hne, fun h8 n8 hd => ?_⟩
        refine leave_int hd ((KB.step (k02.trans k26) k7 (by omega)).nz n8 (by omega)) k02s (v7.kw n8.kw) fun h' k' => ?_
        rw [found (by unfold lostAt; rw [decide_eq_true hneg, Bool.true_or])] at hk
        exact hk h' k'
      · refine containsFuncOpen_calls (p := fun x => decide (x.1 = l[i].1)) ((ro.kb k02).kb k26) (fun x h7 next hx k7 hR hn => ?_) fun h7 k7 => ?_
        · have e : CallV Tryz.prog 4 (.func (.func 138) ⟨[]⟩ ⟨[.pointer (some a4)]⟩) ⟨[.agg ⟨[.int .i64 x.1, .int .u8 x.2.1, S x.2.2.1, .int .u8 x.2.2.2]⟩]⟩ h7 next =
              HCalls Tryz.prog 138 ⟨[.agg ⟨[.int .i64 x.1, .int .u8 x.2.1, S x.2.2.1, .int .u8 x.2.2.2]⟩, .pointer (some a4)]⟩ h7 fun v h' => vBool v fun b => cond b (next (.bool true) h') (next (.bool false) h') := by kernel_rfl
          rw [e]
          refine Sx.marks_Lost_1.ok _ _ _ _ _ _ _ (newx_var fun a8 h8 v8 k8 e8 _ => ⟨_, v8.cell 0 rfl, _, ((v6.kb k7).kb k8).cell 0 rfl, ?_⟩)
          have := hn h8 k8
          refine spl (fun e => ?_) fun e => ?_
          · rw [decide_eq_true e] at this; exact this
          · rw [decide_eq_false e] at this; exact this
        · refine condB (fun ht => ⟨rng64 (by omega) (by omega), ?_⟩) fun ht => ?_
          · have vx7 := vx.kb k7
            refine stL_var0 vx7 (Nat.le_refl _) fun h8 v8 k8 s8 => ⟨(k7.kp).trans (KX.kp vx7 k8 hne), fun h9 n9 hd => ?_⟩
            refine leave_int hd ((KB.step ((k02.trans k26).trans k7) k8 (by omega)).nz n9 (by omega)) k02s (v8.kw n9.kw) fun h' k' => ?_
            rw [found (by unfold lostAt; rw [ht, Bool.or_true])] at hk
            exact hk h' k'
          · refine hKc _ _ k7.kp ⟨k26.trans k7, i, ((hr.kw (KB.w k35)).kw n6.kw).kw (KB.w k7), ?_⟩
            rw [if_neg (by unfold lostAt; rw [ht, decide_eq_false hneg]; simp)] at e
            exact e
  · rintro h3 ⟨k3, i, hb, e⟩ hd
    cases i with
    | succ i => obtain ⟨_, _, _, _, _, _, e', _⟩ := hb; cases e'
    | zero =>
      have vx := v12.kb k3
      refine stL_var0 vx (Nat.le_refl _) fun h7 v7 k7 s7 => ?_
      refine leave_int (vx.dOpen k7 hd) (KB.step (k02.trans k3) k7 (by omega)) k02s v7 fun h' k' => ?_
      rw [<- e] at hk; exact hk h' k'
end
end Go.Proofs
namespace Go.Proofs
open Go Go.Sh
set_option linter.unusedVariables false
set_option maxRecDepth 100000
theorem apdMark : Apd Tryz.prog elMark 40 79 48 := apd_of (sz := 3) (by kernel_rfl) rfl
section
variable {A : Nat -> Prop} {h : H} {b : Option Addr}
theorem markPart {l : List MarkP} {xs : List Value} (he : Enc elMark A h l xs) (hc : Cells h b xs) {i : Nat} (hi : i < l.length) :
    ∃ a b2 n2 c2, b = some a /\ cell h ((a.add (i * 3)).add 0) = some (.int .i64 l[i].1) /\ cell h ((a.add (i * 3)).add 1) = some (S l[i].2.1) /\ cell h ((a.add (i * 3)).add 2) = some (.slice b2 n2 c2) /\ MarkR A h l[i] b2 n2 c2 := by
  obtain ⟨cs, hR, hcs⟩ := he.at (List.getElem?_eq_getElem hi)
  have hR0 := hR
  obtain ⟨c1, c2, e, h1, c3, c4, e2, h2, b2, n2, cc2, e3, h3, h4⟩ := hR
  rw [h1.1] at e
  rw [h2.1] at e2
  rw [e3] at e2
  rw [e2] at e
  subst e
  obtain ⟨a, ea, ec⟩ := hc _ _ (hcs 0 _ rfl)
  subst ea
  have cel : ∀ j v, ([Value.int .i64 l[i].1] ++ ([S l[i].2.1] ++ [Value.slice b2 n2 cc2]))[j]? = some v -> cell h ((a.add (i * 3)).add j) = some v := fun j v hv => by
    obtain ⟨a', ea', ec'⟩ := hc _ _ (hcs j v hv)
    cases ea'
    rw [add_add]; exact ec'
  exact ⟨a, b2, n2, cc2, rfl, cel 0 _ rfl, cel 1 _ rfl, cel 2 _ rfl, hR0⟩
end
def sames (l : List MarkP) (m : MarkP) (s k : Nat) : List Nat := (List.range' s k).filter fun j => alikeP m (l.getD j (0, [], []))
theorem sames_succ (l : List MarkP) (m : MarkP) (s k : Nat) : sames l m s (k + 1) = if alikeP m (l.getD (s + k) (0, [], [])) then sames l m s k ++ [s + k] else sames l m s k := by
  unfold sames
  rw [List.range'_concat, List.filter_append, Nat.one_mul]
  rw [List.filter_cons]
  split
  · rfl
  · rw [List.filter_nil, List.append_nil]
theorem sames_lt {l : List MarkP} {m : MarkP} {s k : Nat} : ∀ j ∈ sames l m s k, s <= j /\ j < s + k := by
  intro j hj
  have := (List.mem_filter.1 hj).1
  rw [List.mem_range'] at this
  obtain ⟨i, hi, e⟩ := this
  omega
def pushS (l : List MarkP) (m : MarkP) : List Nat := if m.1 < 0 then [] else sames l m (behind l) (l.length - behind l)
def pushP (l : List MarkP) (m : MarkP) : List MarkP := if (pushS l m).length < 3 then l ++ [m] else l.eraseIdx ((pushS l m).headD 0) ++ [m]
section
variable {A B : Nat -> Prop} {h : H} {b b2 : Option Addr} {n c n2 c2 : Nat} {l : List MarkP} {m : MarkP}
end
end Go.Proofs
namespace Go.Proofs
open Go Go.Sh
set_option linter.unusedVariables false
set_option maxRecDepth 100000
theorem cloneA_k {α : Type} {E : El α} {t e0 by' : Nat} (ap : Apd Tryz.prog E t e0 by') (hsl : isSlD (Tryz.prog.underlying t) = true) {A : Nat -> Prop} {h : H} {b : Option Addr} {n c : Nat} {l : List α} {xs : List Value} {x y : Operand} (hA : ∀ k, A k -> k < h.size)
    (he : Enc E A h l xs) (hc : Cells h b xs) (hl : l.length = n) (hcap : n <= c) (hz : b = none -> c = 0) (hn : n <= 1000000) (hb : by' <= 1000)
    {Kr : Option Addr -> Nat -> Nat -> H -> Prop} (hk : ∀ b' c' h', OwnA E A h' h.size e0 b' n c' l -> KB h h' -> Kr b' n c' h') :
    SemH Tryz.prog (binS .eql t x y (.slice b n c) (.slice none 0 0)) h fun v9 h10 => vBool v9 fun b11 => cond b11 (Kr none 0 0 h10) (newx h10 #[] e0 fun a12 h13 => SemH Tryz.prog (Builtin.append_ #[t, t] t ⟨[(.slice (some a12) 0 0), (.slice b n c)]⟩) h13 fun v14 h15 => vSlice v14 fun s16b s16n s16c => Kr s16b s16n s16c h15) := by
  refine (semR_slnil hsl ?_).h
  refine vBool_mk (condB (fun e => ?_) fun e => ?_)
  · have hb : b = none := by simpa using e
    have hc := hz hb
    have hn0 : n = 0 := by omega
    subst hn0
    have : l = [] := List.eq_nil_of_length_eq_zero hl
    subst this
    exact hk none 0 h (OwnA.none _ _ _ _) (KB.refl h)
  · refine newx_var (cs := []) fun a h1 v1 k1 e1 s1 => ?_
    have o1 : OwnA E A h1 h.size e0 (some a) 0 0 [] := ⟨OwnT.nil _ _ _ _ _, (fun q e => by cases e; omega), (fun q e => by cases e; exact v1.lt), fun e => by cases e⟩
    have hbb : (0 + n) * by' <= 140737488355328 := by
      have : (0 + n) * by' <= 1000000 * 1000 := Nat.mul_le_mul (by omega) hb
      omega
    refine OwnA.append ap o1 hA hl (he.keep ((KB.w k1).less fun k hk => hk.2) fun _ h _ => h) (fun j v hv => by
      obtain ⟨q, e, ec⟩ := hc j v hv
      exact ⟨q, e, (KB.w k1).cell (cell_lt ec) ec⟩) (by simp only [maxLen]; omega) hbb (by omega) fun b' c' h' o' g' => vSliceMk ?_
    rw [Nat.zero_add] at o' ⊢
    exact hk b' c' h' o' (g'.kb0 k1 fun q e => by cases e; omega)
theorem cloneM_calls {A : Nat -> Prop} {h : H} {K : Value -> H -> Prop} {b : Option Addr} {n c : Nat} {l : List MarkP} {xs : List Value} (hA : ∀ k, A k -> k < h.size) (he : Enc elMark A h l xs) (hc : Cells h b xs) (hl : l.length = n) (hcap : n <= c) (hz : b = none -> c = 0) (hn : n <= 1000000)
    (hk : ∀ b' c' h', OwnA elMark A h' h.size 79 b' n c' l -> KB h h' -> K (.slice b' n c') h') : HCalls Tryz.prog 63 ⟨[.slice b n c]⟩ h K :=
  Sx.slices_Clone_apiMark.ok _ _ _ _ _ (cloneA_k (Kr := fun b n c h => K (.slice b n c) h) apdMark (by kernel_rfl) hA he hc hl hcap hz hn (by decide) hk)
theorem cloneO_calls {h : H} {K : Value -> H -> Prop} {b : Option Addr} {n c : Nat} {l : List OpenP} {A0 : Nat -> Prop} {xs : List Value} (he : Enc elOpen A0 h l xs) (hc : Cells h b xs) (hl : l.length = n) (hcap : n <= c) (hz : b = none -> c = 0) (hn : n <= 1000000)
    (hk : ∀ b' c' h', OwnA elOpen Non h' h.size 77 b' n c' l -> KB h h' -> K (.slice b' n c') h') : HCalls Tryz.prog 196 ⟨[.slice b n c]⟩ h K :=
  Sx.slices_Clone_apiOpen.ok _ _ _ _ _ (cloneA_k (Kr := fun b n c h => K (.slice b n c) h) apdOpen (by kernel_rfl) (A := Non) (fun k hk => hk.elim) (Enc.flat flatOpen he) hc hl hcap hz hn (by decide) hk)
section
variable {h h1 : H} {K : Value -> H -> Prop} {col : Col} {s ty : Nat} {w t : Addr} {op : List OpenP} {mk : List MarkP} {fo : Bool} {hi : Int}
theorem notW (W : WorldW h col s ty w t op mk fo hi) {p k : Nat} {col' : Col} (hc : col' w.block = some (s, 0)) (hp : p ≠ 0) (h2 : col' k = none ∨ col' k = some (s, p)) : k ≠ w.block := fun e => by
  subst e
  rcases h2 with h2 | h2
  · rw [hc] at h2; cases h2
  · rw [hc] at h2; cases h2; exact hp rfl
theorem setMarks_k (W : WorldW h col s ty w t op mk fo hi) (f : Fresh h col) (k : KB h h1) {b : Option Addr} {n c : Nat} {mk' : List MarkP} (o' : OwnA elMark (Free col h) h1 h.size 79 b n c mk') {Q : H -> Prop}
    (hk : ∀ h', WorldW h' (putB col h b (s, 2)) s ty w t op mk' fo hi -> ExtP (fun k => k = s) h col h' (putB col h b (s, 2)) -> Fresh h' (putB col h b (s, 2)) -> cell h' (w.add 2) = some (.slice b n c) -> Q h') : stL (w.add 2) [.slice b n c] 0 h1 Q := by
  obtain ⟨ob, oc, mb, mn, mc, v, o, om⟩ := W.ex
  refine stL_var (m := 2) (i := 0) (v.kb k) (by show 2 + 0 + 1 <= 5; omega) fun h3 v3 k3 s3 => ?_
  have hc1 : ∀ q, q < h.size -> putB col h b (s, 2) q = col q := fun q hq => putB_old hq
  have hcw : putB col h b (s, 2) w.block = some (s, 0) := by rw [hc1 _ v.lt]; exact W.col
  have f1 : Fresh h1 (putB col h b (s, 2)) := f.putB k.1 o'.hi
  have hw1 : ∀ q, q < h1.size -> ∀ p, p ≠ 0 -> (putB col h b (s, 2) q = none ∨ putB col h b (s, 2) q = some (s, p)) -> q ≠ w.block := fun q hq p hp h2 => notW W hcw hp h2
  have o1 : OwnC elOpen h1 (putB col h b (s, 2)) (s, 1) 77 ob op.length oc op := o.keep k.w hc1 fun q hq _ => hq
  have o3 := o1.keep (h' := h3) (col' := putB col h b (s, 2)) k3.w (fun _ _ => rfl) fun q hq h2 => hw1 q hq 1 (by decide) h2
  have om1 : OwnC elMark h1 (putB col h b (s, 2)) (s, 2) 79 b n c mk' := o'.toC k.1
  have om3 := om1.keep (h' := h3) (col' := putB col h b (s, 2)) k3.w (fun _ _ => rfl) fun q hq h2 => hw1 q hq 2 (by decide) h2
  exact hk h3 ⟨⟨ob, oc, b, n, c, v3, o3, om3⟩, hcw, W.rh⟩
    ⟨(k.less fun q hq => hq.1).trans (k3.less fun q hq e => hq.2 s 0 rfl (by rw [e]; exact W.col)), hc1⟩ (fun q hq => f1 q (by rw [<- s3]; exact hq)) (v3.cell 2 rfl)
theorem setOpen_k (W : WorldW h col s ty w t op mk fo hi) (f : Fresh h col) (k : KB h h1) {b : Option Addr} {n c : Nat} {op' : List OpenP} (o' : OwnA elOpen Non h1 h.size 77 b n c op') {Q : H -> Prop}
    (hk : ∀ h', WorldW h' (putB col h b (s, 1)) s ty w t op' mk fo hi -> ExtP (fun k => k = s) h col h' (putB col h b (s, 1)) -> Fresh h' (putB col h b (s, 1)) -> cell h' (w.add 1) = some (.slice b n c) -> Q h') : stL (w.add 1) [.slice b n c] 0 h1 Q := by
  obtain ⟨ob, oc, mb, mn, mc, v, o, om⟩ := W.ex
  have hlen := o'.len
  refine stL_var (m := 1) (i := 0) (v.kb k) (by show 1 + 0 + 1 <= 5; omega) fun h3 v3 k3 s3 => ?_
  have hc1 : ∀ q, q < h.size -> putB col h b (s, 1) q = col q := fun q hq => putB_old hq
  have hcw : putB col h b (s, 1) w.block = some (s, 0) := by rw [hc1 _ v.lt]; exact W.col
  have f1 : Fresh h1 (putB col h b (s, 1)) := f.putB k.1 o'.hi
  have hw1 : ∀ q, q < h1.size -> ∀ p, p ≠ 0 -> (putB col h b (s, 1) q = none ∨ putB col h b (s, 1) q = some (s, p)) -> q ≠ w.block := fun q hq p hp h2 => notW W hcw hp h2
  have om1 : OwnC elMark h1 (putB col h b (s, 1)) (s, 2) 79 mb mn mc mk := om.keep k.w hc1 fun q hq _ => hq
  have om3 := om1.keep (h' := h3) (col' := putB col h b (s, 1)) k3.w (fun _ _ => rfl) fun q hq h2 => hw1 q hq 2 (by decide) h2
  have oA : OwnA elOpen (Free col h) h1 h.size 77 b n c op' := ⟨o'.own.flat flatOpen, o'.lo, o'.hi, o'.nil⟩
  have o1 : OwnC elOpen h1 (putB col h b (s, 1)) (s, 1) 77 b n c op' := oA.toC k.1
  have o3 := o1.keep (h' := h3) (col' := putB col h b (s, 1)) k3.w (fun _ _ => rfl) fun q hq h2 => hw1 q hq 1 (by decide) h2
  subst hlen
  exact hk h3 ⟨⟨b, c, mb, mn, mc, v3, o3, om3⟩, hcw, W.rh⟩
    ⟨(k.less fun q hq => hq.1).trans (k3.less fun q hq e => hq.2 s 0 rfl (by rw [e]; exact W.col)), hc1⟩ (fun q hq => f1 q (by rw [<- s3]; exact hq)) (v3.cell 1 rfl)
theorem setMarkId_k (W : WorldW h col s ty w t op mk fo hi) (f : Fresh h col) {a : Addr} {n c : Nat} (hc : cell h (w.add 2) = some (.slice (some a) n c)) {i : Nat} (hi1 : i < mk.length) {id : Int} (hid : Rng .i64 id) {Q : H -> Prop}
    (hk : ∀ h', WorldW h' col s ty w t op (mk.set i (id, mk[i].2)) fo hi -> ExtP (fun k => k = s) h col h' col -> Fresh h' col -> cell h' (w.add 2) = some (.slice (some a) n c) -> Q h') : stL ((a.add (i * 3)).add 0) [.int .i64 id] 0 h Q := by
  obtain ⟨ob, oc, mb, mn, mc, v, o, om⟩ := W.ex
  have e1 : some (Value.slice (some a) n c) = some (.slice mb mn mc) := hc.symm.trans (v.cell 2 rfl)
  cases e1
  obtain ⟨xs, ow, en⟩ := om.own.own
  have hl := om.len
  rcases ow.is with ⟨h0, _⟩ | ⟨g, cur, ea, hbg, hg, hcs, htk⟩
  · omega
  cases ea
  have hgl : g < h.size := (Array.getElem?_eq_some_iff.1 hg).1
  have hxl : xs.length = n * 3 := ow.len
  have hcs : cur.size = c * 3 := hcs
  have htk : cur.toList.take (n * 3) = xs := htk
  have hcap := ow.cap
  have hin : i * 3 < n * 3 := by omega
  have ha : ((((⟨g, 0, none⟩ : Addr).add (i * 3)).add 0).add 0) = ⟨g, i * 3, none⟩ := by rw [add_zero', add_zero', addG]
  have hin2 : i * 3 < cur.size := by omega
  unfold stL
  rw [ha]
  refine ⟨⟨cur[i * 3], by unfold cell; simp only [hg]; simp [hin2]⟩, by unfold iced; simp only [hg]; simp, ?_⟩
  show Q (setc h ⟨g, i * 3, none⟩ (.int .i64 id))
  have hst : setc h ⟨g, i * 3, none⟩ (.int .i64 id) = h.setIfInBounds g (.cells (cur.setIfInBounds (i * 3) (.int .i64 id)) 79 (0, 0)) := by
    unfold setc
    apply Array.ext_getElem?
    intro k
    rw [Array.getElem?_modify, Array.getElem?_setIfInBounds]
    by_cases hk : g = k
    · subst hk
      rw [if_pos rfl, if_pos rfl, if_pos hgl, hg]; rfl
    · rw [if_neg hk, if_neg hk]
  have hcg := om.col _ rfl
  have hcg : col g = some (s, 2) := hcg
  have kx : KX g h (setc h ⟨g, i * 3, none⟩ (.int .i64 id)) := ⟨by rw [hst]; simp, fun k hk => by rw [hst, Array.getElem?_setIfInBounds, if_neg (fun e => hk e.symm)]⟩
  have hs : (setc h ⟨g, i * 3, none⟩ (.int .i64 id)).size = h.size := by rw [hst]; simp
  have hwg : w.block ≠ g := fun e => by have := W.col; rw [e, hcg] at this; cases this
  have v' : Var (setc h ⟨g, i * 3, none⟩ (.int .i64 id)) w ty [.pointer (some t), .slice ob op.length oc, .slice (some ⟨g, 0, none⟩) n c, .bool fo, .int .i64 hi] := v.keep kx.w hwg
  have o' := o.keep (h' := setc h ⟨g, i * 3, none⟩ (.int .i64 id)) (col' := col) kx.w (fun _ _ => rfl) fun k hk h2 e => by
    subst e
    rcases h2 with h2 | h2
    · rw [hcg] at h2; cases h2
    · rw [hcg] at h2; cases h2
  have hx : mk[i]? = some mk[i] := List.getElem?_eq_getElem hi1
  have en2 : Enc elMark (Free col h) h (mk.set i (id, mk[i].2)) (xs.set (i * 3 + 0) (.int .i64 id)) := Enc.set en hx (by decide) fun cs hR => by
    obtain ⟨c1, c2, e, h1, h2⟩ := hR
    rw [h1.1] at e
    subst e
    exact ⟨[.int .i64 id], c2, rfl, ⟨rfl, hid⟩, h2⟩
  have en3 : Enc elMark (Free col (setc h ⟨g, i * 3, none⟩ (.int .i64 id))) (setc h ⟨g, i * 3, none⟩ (.int .i64 id)) (mk.set i (id, mk[i].2)) (xs.set (i * 3 + 0) (.int .i64 id)) :=
    en2.keep (kx.w.less fun k hk e => by have h9 : col k = none := hk.1.1; rw [e, hcg] at h9; cases h9) fun k hk _ => ⟨hk.1, by rw [hs]; exact hk.2⟩
  refine hk _ ⟨⟨ob, oc, some ⟨g, 0, none⟩, n, c, v', o', ⟨⟨by rw [List.length_set]; exact hl, xs.set (i * 3 + 0) (.int .i64 id), ⟨by rw [List.length_set]; exact ow.len, ow.cap, ow.max, .inr ⟨g, cur.setIfInBounds (i * 3) (.int .i64 id), rfl, hbg, ?_, ?_, ?_⟩⟩, en3⟩, om.col, fun q e => by rw [hs]; exact om.hi q e, om.nil⟩⟩, W.col, W.rh⟩
    (ExtP.kx kx hcg rfl) (fun k hk => f k (by rw [<- hs]; exact hk)) (v'.cell 2 rfl)
  · rw [hst, Array.getElem?_setIfInBounds, if_pos rfl, if_pos hgl]
  · rw [Array.size_setIfInBounds]; exact hcs
  · show (cur.setIfInBounds (i * 3) (.int .i64 id)).toList.take (n * 3) = _
    rw [Array.toList_setIfInBounds, set_take, htk]; rfl
end
section
variable {A B : Nat -> Prop} {h : H} {K : Value -> H -> Prop} {b b2 : Option Addr} {n c n2 c2 : Nat}
end
theorem goodInsertR {m : WM} (G : GoodT m.ns) {sp : Int} {nm : Bs} {at' : List AttrP} : GoodT (insertM m sp nm at').ns := (G.addM _ _ _ _ _).putM _ _ _
theorem insert_lenR {m : WM} (G : GoodT m.ns) {sp : Int} {nm : Bs} {at' : List AttrP} : (insertM m sp nm at').ns.length = m.ns.length + 1 := by
  show (putM _ _ _ _).1.length = _
  rw [put_len (G.addM _ _ _ _ _)]
  show (m.ns ++ [_]).length = _
  simp
noncomputable def noteW (m : WM) (tx : Bs) : WM := { m with ns := (putM (addM m.ns (bareM 3 0 [] [] tx)).1 (whereC m).1 (whereC m).2 m.ns.length).1 }
theorem row_nilN {A : Nat -> Prop} {h : H} : Row elAttr A h none 0 0 [] := ⟨rfl, Nat.le_refl _, Nat.zero_le _, fun i x hx => by simp at hx⟩
end Go.Proofs
namespace Go.Proofs
open Go Go.Sh
set_option linter.unusedVariables false
set_option maxRecDepth 100000
abbrev noMark : MarkP := (0, [], [])
theorem lostTo_rng (l : List MarkP) (o : List OpenP) : ∀ i : Nat, 0 <= lostTo l o i /\ lostTo l o i <= (i : Int)
  | 0 => ⟨Int.le_refl _, Int.le_refl _⟩
  | i + 1 => by
    unfold lostTo
    have := lostTo_rng l o i
    split
    · omega
    · omega
noncomputable def rebN : Nat -> WM -> Nat -> WM
  | 0, m, _ => m
  | k + 1, m, i => rebN k { insertM m 0 (m.mks.getD i noMark).2.1 (m.mks.getD i noMark).2.2 with mks := m.mks.set i ((m.ns.length : Int), (m.mks.getD i noMark).2) } (i + 1)
noncomputable def rebuildW (m : WM) : WM := rebN (m.mks.length - (lostP m.mks m.op).toNat) m (lostP m.mks m.op).toNat
def MarksW (l : List MarkP) : Prop := ∀ x ∈ l, x.2.1.length <= 1000000000 /\ x.2.2.length <= 1000000 /\ AttrsW x.2.2
theorem MarksW.set {l : List MarkP} (w : MarksW l) {i : Nat} (hi : i < l.length) (id : Int) : MarksW (l.set i (id, l[i].2)) := fun x hx => by
  rcases List.mem_or_eq_of_mem_set hx with h | h
  · exact w x h
  · rw [h]; exact w l[i] (List.getElem_mem hi)
def dropO (op : List OpenP) (id : Int) : List OpenP := if 0 < idxQ op (fun x => decide (x.1 = id)) then op.eraseIdx (idxQ op fun x => decide (x.1 = id)).toNat else op
def dropW (m : WM) (id : Int) : WM := { m with op := dropO m.op id }
theorem idxQ_lt {α : Type} {l : List α} {p : α -> Bool} : idxQ l p < l.length /\ -1 <= idxQ l p := by
  unfold idxQ
  cases h : l.findIdx? p with
  | none => exact ⟨by show (-1 : Int) < _; omega, Int.le_refl _⟩
  | some i =>
    obtain ⟨hi, _⟩ := List.findIdx?_eq_some_iff_getElem.1 h
    exact ⟨by show (i : Int) < _; omega, by show (-1 : Int) <= (i : Int); omega⟩
section
variable {A : Nat -> Prop} {h : H} {K : Value -> H -> Prop} {col : Col} {w : Addr} {m : WM} {b : Option Addr} {n c : Nat}
theorem rebuild_callsW (L : Lib0 h col) (p : PW h col w m) (G : GoodT m.ns) (hne : 0 < m.op.length) (hop : m.op.length + m.mks.length < 1000000) (hns : m.ns.length + m.mks.length < 1000000) (hm : MarksW m.mks)
    (hk : ∀ h' col', PW h' col' w (rebuildW m) -> ExtP PS h col h' col' -> K (.tuple ⟨[]⟩) h') :
    HCalls Tryz.prog 40 ⟨[.pointer (some w)]⟩ h K := by
  obtain ⟨t, ads, T, W⟩ := p.ex
  obtain ⟨ob, oc, mb, mn, mc, v, o, om⟩ := W.ex
  have hml := om.len
  have hrng := lostTo_rng m.mks m.op m.mks.length
  have hl0 : 0 <= lostP m.mks m.op := hrng.1
  have hl1 : lostP m.mks m.op <= (m.mks.length : Int) := hrng.2
  obtain ⟨f, hf⟩ := Int.eq_ofNat_of_zero_le hl0
  have hft : (lostP m.mks m.op).toNat = f := by rw [hf]; rfl
  refine Sx.place_World_Rebuild.ok _ _ _ (vSomeMk ⟨_, _, _, v.cell 2 rfl, vSomeMk ⟨_, _, _, v.cell 1 rfl, lost_calls (fun k hk => hk) om.row o.row fun h1 k1 => vIntMk ?_⟩⟩)
  rw [hf]
  obtain ⟨xs, he, hc, _⟩ := (om.kb k1).parts
  have hcap := om.cap
  refine vSomeMk ⟨_, _, _, (v.kb k1).cell 2 rfl, cloneM_calls (fun k hk => hk.2) he hc hml hcap.1 om.nil (by omega) fun b' c' h2 o2 k2 => vSliceMk (vSomeMk (setMarks_k (W.kb k1) (p.fresh.kb k1) k2 o2 fun h3 W3 E3 f3 hc3 => ?_))⟩
  have hcap2 := o2.own.cap
  have E03 : ExtP PS h col h3 (putB col h1 b' (2, 2)) := (ExtP.kb k1).trans (E3.mono fun s hs => .inr hs)
  have p3 : PW h3 (putB col h1 b' (2, 2)) w m := ⟨t, ads, (T.kb k1).otherP (S := fun k => k = 2) (by decide) E3 f3, W3⟩
  have hrw : rebN (m.mks.length - f) m f = rebuildW m := by unfold rebuildW; rw [hft]
  refine vSomeMk ⟨_, _, _, hc3, ⟨by omega, by omega, by omega⟩, ?_⟩
  have e28 : Int.toNat (mn : Int) - Int.toNat (f : Int) = m.mks.length - f := by rw [hml]; rfl
  rw [e28]
  refine ⟨m.mks.length - f + 1, ?_⟩
  have key : ∀ k j (mj : WM) hj cj, j + k = m.mks.length - f -> PW hj cj w mj -> GoodT mj.ns -> mj.op.length = m.op.length + j -> mj.ns.length = m.ns.length + j -> mj.mks.length = m.mks.length -> MarksW mj.mks -> rebN k mj (f + j) = rebuildW m -> ExtP PS h col hj cj ->
      cell hj (w.add 2) = some (.slice b' mn c') ->
      Sx.place_World_Rebuild.n5_L (fun h => K (.tuple ⟨[]⟩) h) (fun h => K (.tuple ⟨[]⟩) h) (fun h => K (.tuple ⟨[]⟩) h) (k + 1) (some w) (f : Int) ((m.mks.length - f : Nat) : Int) (j : Int) hj := by
    intro k
    induction k with
    | zero =>
      intro j mj hj cj hjk pj Gj lo ln lm hmj hr Ej hcj
      refine splF (by omega) ?_
      have hr : mj = rebuildW m := hr
      exact hk hj cj (by rw [<- hr]; exact pj) Ej
    | succ k ih =>
      intro j mj hj cj hjk pj Gj lo ln lm hmj hr Ej hcj
      have hfj : f + j < mj.mks.length := by omega
      have ej : ((f : Int) + (j : Int)) = ((f + j : Nat) : Int) := rfl
      obtain ⟨tj, adsj, Tj, Wj⟩ := pj.ex
      obtain ⟨obj, ocj, mbj, mnj, mcj, vj, oj, omj⟩ := Wj.ex
      have ec : some (Value.slice mbj mnj mcj) = some (.slice b' mn c') := (vj.cell 2 rfl).symm.trans hcj
      cases ec
      obtain ⟨xsj, hej, hccj, _⟩ := omj.parts
      obtain ⟨a, b2, n2, c2, eb, m0, m1, m2, mR⟩ := markPart hej hccj hfj
      subst eb
      have hw := hmj mj.mks[f + j] (List.getElem_mem hfj)
      have hi2 := mR.inv
      have hn2 := hi2.1.len
      refine splT (by omega) (vSomeMk ⟨_, _, _, hcj, ?_⟩)
      rw [ej]
      refine ⟨rng64 (by omega) (by omega), ⟨by omega, by omega⟩, vSomeMk ?_⟩
      rw [Int.toNat_natCast]
      refine ⟨_, m1, _, _, _, m2, ?_⟩
      refine insert_callsM (L.ext Ej) pj Gj (by omega) (by omega) (by omega) hi2.1 hi2.2.1 (by omega) hw.2.2 ⟨by decide, by decide⟩ ⟨by decide, by decide⟩ hw.1 fun h5 c5 p5 E5 m5 => vIntMk ?_
      obtain ⟨t5, ads5, T5, W5⟩ := p5.ex
      have hc5 := m5 _ hcj
      refine setMarkId_k W5 p5.fresh hc5 (i := f + j) hfj (rng64 (by omega) (by omega)) fun h6 W6 E6 f6 hc6 => ⟨rng64 (by omega) (by omega), ?_⟩
      have hg : mj.mks.getD (f + j) noMark = mj.mks[f + j] := getD_get hfj
      have hr : rebN k { insertM mj 0 (mj.mks.getD (f + j) noMark).2.1 (mj.mks.getD (f + j) noMark).2.2 with mks := mj.mks.set (f + j) ((mj.ns.length : Int), (mj.mks.getD (f + j) noMark).2) } (f + j + 1) = rebuildW m := hr
      rw [hg] at hr
      have := ih (j + 1) { insertM mj 0 mj.mks[f + j].2.1 mj.mks[f + j].2.2 with mks := mj.mks.set (f + j) ((mj.ns.length : Int), mj.mks[f + j].2) } h6 c5 (by omega) ⟨t5, ads5, T5.otherP (S := fun k => k = 2) (by decide) E6 f6, W6⟩
        (goodInsertR Gj) (by show (mj.op ++ [_]).length = _; rw [List.length_append]; show mj.op.length + 1 = _; omega) (by rw [insert_lenR Gj]; omega) (by show (mj.mks.set _ _).length = _; rw [List.length_set]; exact lm) (hmj.set hfj _) hr ((Ej.trans E5).trans (E6.mono fun s hs => .inr hs)) hc6
      exact this
  exact key (m.mks.length - f) 0 m h3 _ (by omega) p3 G rfl rfl rfl hm hrw E03 hc3
theorem deleteO_calls {base i : Nat} {l : List OpenP} (o : OwnA elOpen Non h base 77 b n c l) (hi : i < n) (hk : ∀ h', OwnA elOpen Non h' base 77 b (n - 1) c (l.eraseIdx i) -> Grow h h' b -> K (.slice b (n - 1) c) h') :
    HCalls Tryz.prog 195 ⟨[.slice b n c, .int .i64 (i : Int), .int .i64 ((i + 1 : Nat) : Int)]⟩ h K := by
  have hcap := o.own.cap
  refine Sx.slices_Delete_apiOpen.ok _ _ _ _ _ _ _ ⟨⟨by omega, by omega, by omega, by omega⟩, splF (by omega) ⟨⟨by omega, by omega, by omega⟩, ⟨by omega, by omega, by omega⟩, ?_⟩⟩
  have e0 : (if c = Int.toNat (0 : Int) then b else Option.map (fun q => q.add (Int.toNat (0 : Int) * 4)) b) = b := by
    split
    · rfl
    · cases b with
      | none => rfl
      | some q => rfl
  rw [e0]
  exact delRow_k apdOpen (by kernel_rfl) o (fun k hk => hk.elim) hi (K := fun sb sn sc h => K (.slice sb sn sc) h) fun h' o' g' _ => hk h' o' g'
theorem drop_callsW (p : PW h col w m) {id : Int} (hl : m.op.length < 1000000) (hk : ∀ h' col', PW h' col' w (dropW m id) -> ExtP PS h col h' col' -> (0 < idxQ m.op (fun x => decide (x.1 = id)) -> ∃ b c, cell h' (w.add 1) = some (.slice b (dropO m.op id).length c) /\ (dropO m.op id).length + 1 <= c) -> K (.tuple ⟨[]⟩) h') :
    HCalls Tryz.prog 155 ⟨[.pointer (some w), .int .i64 id]⟩ h K := by
  obtain ⟨t, ads, T, W⟩ := p.ex
  obtain ⟨ob, oc, mb, mn, mc, v, o, om⟩ := W.ex
  refine Sx.place_World_Drop.ok _ _ _ _ (newx_var fun a1 h1 v1 k1 e1 s1 => vSomeMk ⟨_, _, _, (v.kb k1).cell 1 rfl, ?_⟩)
  refine indexFuncOpen_calls (p := fun x => decide (x.1 = id)) (o.kb k1).row (fun x h2 next hx k2 hR hn => ?_) fun h2 k2 => vIntMk ?_
  · have e : CallV Tryz.prog 4 (.func (.func 194) ⟨[]⟩ ⟨[.pointer (some a1)]⟩) ⟨[.agg ⟨[.int .i64 x.1, .int .u8 x.2.1, S x.2.2.1, .int .u8 x.2.2.2]⟩]⟩ h2 next =
        HCalls Tryz.prog 194 ⟨[.agg ⟨[.int .i64 x.1, .int .u8 x.2.1, S x.2.2.1, .int .u8 x.2.2.2]⟩, .pointer (some a1)]⟩ h2 fun v h' => vBool v fun b => cond b (next (.bool true) h') (next (.bool false) h') := by kernel_rfl
    rw [e]
    refine Sx.place_World_Drop_1.ok _ _ _ _ _ _ _ (newx_var fun a8 h8 v8 k8 e8 _ => ⟨_, v8.cell 0 rfl, _, ((v1.kb k2).kb k8).cell0 rfl, ?_⟩)
    have := hn h8 k8
    refine spl (fun e => ?_) fun e => ?_
    · rw [decide_eq_true e] at this; exact this
    · rw [decide_eq_false e] at this; exact this
  · have k02 := k1.trans k2
    have hlt := idxQ_lt (l := m.op) (p := fun x => decide (x.1 = id))
    refine spl (fun hp => condT ?_) fun hp => condF ?_
    · obtain ⟨k, ek⟩ := Int.eq_ofNat_of_zero_le (Int.le_of_lt hp)
      have hkl : k < m.op.length := by have := hlt.1; rw [ek] at this; exact Int.ofNat_lt.1 this
      rw [ek]
      obtain ⟨xs, he, hc, _⟩ := (o.kb k02).parts
      refine vSomeMk ⟨_, _, _, (v.kb k02).cell 1 rfl, cloneO_calls he hc rfl o.cap.1 o.nil (by omega) fun b' c' h3 o3 k3 => vSliceMk ⟨rng64 (by show _ <= (k : Int) + 1; omega) (by show (k : Int) + 1 <= _; omega), ?_⟩⟩
      have e1 : ((k : Int) + (1 : Int)) = ((k + 1 : Nat) : Int) := rfl
      rw [e1]
      refine deleteO_calls o3 hkl fun h4 o4 g4 => vSliceMk (vSomeMk (setOpen_k (W.kb k02) (p.fresh.kb k02) (g4.kb0 k3 o3.lo) o4 fun h5 W5 E5 f5 c5 => ?_))
      have hd : dropO m.op id = m.op.eraseIdx k := by unfold dropO; rw [if_pos hp, ek]; rfl
      refine hk h5 _ ⟨t, ads, (T.kb k02).otherP (S := fun k => k = 2) (by decide) E5 f5, ?_⟩ ((ExtP.kb k02).trans (E5.mono fun s hs => .inr hs)) fun _ => ?_
      rotate_left
      · have hcap := o3.own.cap
        have hl5 : (dropO m.op id).length = m.op.length - 1 := by rw [hd, List.length_eraseIdx, if_pos hkl]
        rw [hl5]
        exact ⟨_, _, c5, by omega⟩
      show WorldW _ _ _ _ _ _ (dropO m.op id) _ _ _
      rw [hd]; exact W5
    · have hd : dropO m.op id = m.op := by unfold dropO; rw [if_neg hp]
      refine hk h2 col ?_ (.kb k02) fun h => absurd h hp
      have p2 := p.kb k02
      have e2 : dropW m id = m := by unfold dropW; rw [hd]
      rw [e2]; exact p2
end
end Go.Proofs
namespace Go.Proofs
open Go Go.Sh
set_option linter.unusedVariables false
set_option maxRecDepth 100000
structure RawN where
  x : NodeM
  ab : Option Addr
  an : Nat
  ac : Nat
  kb : Option Addr
  kn : Nat
  kc : Nat
def rawC (r : RawN) : List Value := nodeC r.x r.ab r.an r.ac r.kb r.kn r.kc
def elRaw : El RawN where
  sz := 8
  R := fun _ _ r cs => cs = rawC r
  len := fun _ _ _ _ h => by rw [h]; rfl
  one := fun _ _ _ _ h v hv => by
    rw [h] at hv
    simp only [rawC, nodeC, List.mem_cons, List.not_mem_nil, or_false] at hv
    rcases hv with rfl | rfl | rfl | rfl | rfl | rfl | rfl | rfl <;> rfl
  keep := fun _ _ _ _ _ _ h _ _ => h
  pos := by decide
theorem flatRaw : Flat elRaw := fun _ _ _ _ _ _ h => h
structure RawAt (h : H) (col : Col) (s i : Nat) (r : RawN) : Prop where
  ra : Row elAttr (Free col h) h r.ab r.an r.ac r.x.attrs
  az : r.ab = none -> r.ac = 0
  ok : OwnI h r.kb r.kn r.kc r.x.kids
  hkc : ∀ q, r.kb = some q -> col q.block = some (s, 2 * i + 3)
  rk : Rng .u8 r.x.kind
  rs : Rng .u8 r.x.space
  rp : Rng .i64 r.x.parent
  fa : r.x.attrs.length <= 1000000
  fn : r.x.name.length <= maxLen
  ft : r.x.text.length <= maxLen
structure RefC (h : H) (col : Col) (s : Nat) (t : Addr) (lb : Option Addr) (lc : Nat) (rs : List RawN) : Prop where
  v : Var h t 118 [.slice lb rs.length lc]
  o : OwnF elRaw h 0 115 lb rs.length lc rs
  hl : ∀ q, lb = some q -> col q.block = some (s, 1)
  nodes : ∀ (i : Nat) r, rs[i]? = some r -> RawAt h col s i r
  colt : col t.block = some (s, 0)
  fresh : ∀ k, h.size <= k -> col k = none
  few : rs.length <= 1000000
def RefP (h : H) (col : Col) (s : Nat) (t : Addr) (ns : List NodeM) : Prop := ∃ lb lc rs, RefC h col s t lb lc rs /\ rs.map (·.x) = ns
section
variable {h h' : H} {K : Value -> H -> Prop} {col col' : Col} {s i p : Nat} {t a : Addr} {ns : List NodeM} {x y : NodeM} {lb : Option Addr} {lc : Nat} {rs : List RawN} {r : RawN}
theorem RawAt.keep (N : RawAt h col s i r) {B : Nat -> Prop} (k : Keep B h h') (hc : ∀ k, k < h.size -> col' k = col k) (hB : ∀ k, k < h.size -> (col k = none ∨ col k = some (s, 2 * i + 3)) -> B k) : RawAt h' col' s i r :=
  ⟨N.ra.keep (k.less fun q hq => hB q hq.1.2 (.inl hq.1.1)) (fun q hq hs => ⟨by rw [hc q hs]; exact hq.1, Nat.lt_of_lt_of_le hs k.1⟩), N.az, N.ok.keep k fun q e => hB _ (N.ok.hi q e) (.inr (N.hkc q e)), fun q e => by rw [hc _ (N.ok.hi q e)]; exact N.hkc q e, N.rk, N.rs, N.rp, N.fa, N.fn, N.ft⟩
theorem RefC.keep (T : RefC h col s t lb lc rs) {B : Nat -> Prop} (k : Keep B h h') (hc : ∀ k, k < h.size -> col' k = col k) (hf : ∀ k, h'.size <= k -> col' k = none) (hB : ∀ k, k < h.size -> (col k = none ∨ ∃ p, col k = some (s, p)) -> B k) : RefC h' col' s t lb lc rs := by
  refine ⟨T.v.keep k (hB _ T.v.lt (.inr ⟨_, T.colt⟩)), ?_, fun q e => by rw [hc _ (T.o.hi q e)]; exact T.hl q e, fun i r hr => (T.nodes i r hr).keep k hc fun q hq hor => hB q hq (by rcases hor with h | h; exact .inl h; exact .inr ⟨_, h⟩), by rw [hc _ T.v.lt]; exact T.colt, hf, T.few⟩
  refine ⟨?_, T.o.lo, fun q e => Nat.lt_of_lt_of_le (T.o.hi q e) k.1, T.o.nil⟩
  obtain ⟨xs, h1, h2⟩ := T.o.own.own
  exact ⟨T.o.own.len, xs, h1.keep k fun g e _ hg => hB _ hg (.inr ⟨_, T.hl _ e⟩), Enc.flat flatRaw h2⟩
theorem RefC.kw (T : RefC h col s t lb lc rs) (k : KW h h') : RefC h' col s t lb lc rs := T.keep k (fun _ _ => rfl) (fun k' hk => T.fresh k' (Nat.le_trans k.1 hk)) fun k hk _ => hk
theorem RefC.kb (T : RefC h col s t lb lc rs) (k : KB h h') : RefC h' col s t lb lc rs := T.kw (KB.w k)
theorem RefC.other {s' : Nat} (T : RefC h col s t lb lc rs) (hs : s ≠ s') (e : Ext s' h col h' col') (hf : ∀ k, h'.size <= k -> col' k = none) : RefC h' col' s t lb lc rs :=
  T.keep e.sk.w e.cl hf fun k hk hor => ⟨hk, fun p e => by
    rcases hor with h | ⟨q, h⟩
    · rw [h] at e; cases e
    · rw [h] at e; cases e; exact hs rfl⟩
theorem RefP.kb (T : RefP h col s t ns) (k : KB h h') : RefP h' col s t ns := by
  obtain ⟨lb, lc, rs, C, e⟩ := T
  exact ⟨lb, lc, rs, C.kb k, e⟩
theorem RefP.other {s' : Nat} (T : RefP h col s t ns) (hs : s ≠ s') (e : Ext s' h col h' col') (hf : ∀ k, h'.size <= k -> col' k = none) : RefP h' col' s t ns := by
  obtain ⟨lb, lc, rs, C, e2⟩ := T
  exact ⟨lb, lc, rs, C.other hs e hf, e2⟩
theorem RefP.few (T : RefP h col s t ns) : ns.length <= 1000000 := by
  obtain ⟨lb, lc, rs, C, rfl⟩ := T
  rw [List.length_map]; exact C.few
theorem RefP.fresh (T : RefP h col s t ns) : ∀ k, h.size <= k -> col k = none := by
  obtain ⟨lb, lc, rs, C, rfl⟩ := T
  exact C.fresh
theorem RefC.upd (T : RefC h col s t lb lc rs) {r' : RawN} (o : OwnF elRaw h' 0 115 lb rs.length lc (rs.set i r')) (k : SK (fun k => k < h.size /\ ∀ p, col k = some (s, p) -> p ≠ 1 /\ p ≠ 2 * i + 3) h h') (hc : ∀ k, k < h.size -> col' k = col k) (hf : ∀ k, h'.size <= k -> col' k = none) (hn : RawAt h' col' s i r') :
    RefC h' col' s t lb lc (rs.set i r') := by
  have kp := k.w
  refine ⟨by rw [List.length_set]; exact T.v.keep kp ⟨T.v.lt, fun p e => by rw [T.colt] at e; cases e; omega⟩, by rw [List.length_set]; exact o, fun q e => by rw [hc _ (T.o.hi q e)]; exact T.hl q e, fun j r hr => ?_, by rw [hc _ T.v.lt]; exact T.colt, hf, by rw [List.length_set]; exact T.few⟩
  by_cases hij : i = j
  · subst hij
    by_cases hlt : i < rs.length
    · rw [List.getElem?_set_self hlt] at hr; cases hr
      exact hn
    · have := getI hr
      rw [List.length_set] at this
      omega
  · rw [List.getElem?_set_ne hij] at hr
    exact (T.nodes j r hr).keep kp hc fun q hq hor => ⟨hq, fun p e => by
      rcases hor with h | h
      · rw [h] at e; cases e
      · rw [h] at e; cases e; omega⟩
end
end Go.Proofs
namespace Go.Proofs
open Go Go.Sh
set_option linter.unusedVariables false
set_option maxRecDepth 100000
section
variable {h h' : H} {K : Value -> H -> Prop} {col col' : Col} {s i p : Nat} {t a : Addr} {ns : List NodeM} {x y : NodeM} {lb : Option Addr} {lc : Nat} {rs : List RawN} {r : RawN}
end
end Go.Proofs
namespace Go.Proofs
open Go Go.Sh
set_option linter.unusedVariables false
set_option maxRecDepth 100000
section
variable {h h' : H} {K : Value -> H -> Prop} {col col' : Col} {s i p : Nat} {t a : Addr} {ns : List NodeM} {x y : NodeM} {lb : Option Addr} {lc : Nat} {rs : List RawN} {r : RawN}
end
end Go.Proofs
namespace Go.Proofs
open Go Go.Sh
set_option linter.unusedVariables false
set_option maxRecDepth 100000
section
variable {h h' : H} {K : Value -> H -> Prop} {col col' : Col} {s i p : Nat} {t a : Addr} {ns : List NodeM} {x y : NodeM} {lb : Option Addr} {lc : Nat} {rs : List RawN} {r : RawN}
end
end Go.Proofs
namespace Go.Proofs
open Go Go.Sh
set_option linter.unusedVariables false
set_option maxRecDepth 100000
section
variable {h h' : H} {K : Value -> H -> Prop} {col col' : Col} {s i p : Nat} {t a : Addr} {ns : List NodeM} {x y : NodeM} {lb : Option Addr} {lc : Nat} {rs : List RawN} {r : RawN}
end
end Go.Proofs
namespace Go.Proofs
open Go Go.Sh
set_option linter.unusedVariables false
set_option maxRecDepth 100000
section
variable {h h' : H} {K : Value -> H -> Prop} {col col' : Col} {s i p : Nat} {t a : Addr} {ns : List NodeM} {x y z : NodeM} {lb : Option Addr} {lc : Nat} {rs : List RawN} {r : RawN}
end
end Go.Proofs
namespace Go.Proofs
open Go Go.Sh
set_option linter.unusedVariables false
set_option maxRecDepth 100000
section
variable {A B : Nat -> Prop} {h : H} {b b2 : Option Addr} {n c n2 c2 : Nat} {ns : List Bs} {s row : Bs} {x : OpenP}
end
section
variable {A B : Nat -> Prop} {h : H} {b b2 : Option Addr} {n c n2 c2 : Nat} {l : List OpenP} {ns : List Bs} {s : Bs} {sc : Int}
end
section
variable {h : H} {K : Value -> H -> Prop}
end
section
variable {A : Nat -> Prop} {h : H} {K : Value -> H -> Prop} {b : Option Addr} {n c : Nat} {attrs : List AttrP} {sp tk : Int} {nm tx : Bs} {cl : Bool}
end
section
variable {h : H} {K : Value -> H -> Prop} {col : Col} {s s0 : Nat} {w t : Addr} {ns : List NodeM} {op : List OpenP} {mk : List MarkP} {fo : Bool} {hi : Int} {x : OpenP}
end
end Go.Proofs
namespace Go.Proofs
open Go Go.Sh
set_option linter.unusedVariables false
set_option maxRecDepth 100000
theorem RefP.otherP {Z : Nat -> Prop} {h h' : H} {col col' : Col} {s : Nat} {t : Addr} {ns : List NodeM} (T : RefP h col s t ns) (hs : ¬ Z s) (e : ExtP Z h col h' col') (hf : Fresh h' col') : RefP h' col' s t ns := by
  obtain ⟨lb, lc, rs, C, em⟩ := T
  exact ⟨lb, lc, rs, C.keep e.sk.w e.cl hf fun k hk hc => ⟨hk, fun s' p hs' e2 => by
    rcases hc with hc | ⟨q, hc⟩
    · rw [hc] at e2; cases e2
    · rw [hc] at e2; cases e2; exact hs hs'⟩, em⟩
def RS (s : Nat) : Prop := s = 1 ∨ s = 3
structure RW (h : H) (col : Col) (w : Addr) (m : WM) : Prop where
  ex : ∃ t, RefP h col 1 t m.ns /\ WorldW h col 3 58 w t m.op m.mks m.fo m.hi
section
variable {Z : Nat -> Prop} {h h' : H} {K : Value -> H -> Prop} {col col' : Col} {w : Addr} {m : WM}
theorem RW.fresh (p : RW h col w m) : Fresh h col := by obtain ⟨t, T, W⟩ := p.ex; exact T.fresh
theorem RW.ext (p : RW h col w m) (e : ExtP Z h col h' col') (h0 : ¬ Z 1) (h2 : ¬ Z 3) (f : Fresh h' col') : RW h' col' w m := by
  obtain ⟨t, T, W⟩ := p.ex
  exact ⟨t, T.otherP h0 e f, W.ext e h2⟩
theorem RW.kb (p : RW h col w m) (k : KB h h') : RW h' col w m := p.ext (Z := fun _ => False) (.kb k) id id (p.fresh.kb k)
end
end Go.Proofs
namespace Go.Proofs
open Go Go.Sh
set_option linter.unusedVariables false
set_option maxRecDepth 100000
section
variable {h : H} {K : Value -> H -> Prop} {col : Col} {s ty : Nat} {w t : Addr} {op : List OpenP} {mk : List MarkP} {fo : Bool} {hi : Int} {m : WM}
theorem base0 {b : Option Addr} {c k : Nat} : (if c = Int.toNat (0 : Int) then b else Option.map (fun q => q.add (Int.toNat (0 : Int) * k)) b) = b := by
  split
  · rfl
  · cases b with
    | none => rfl
    | some q =>
      show some (q.add (0 * k)) = some q
      rw [Nat.zero_mul, add_zero']
theorem ExtP.step {Z : Nat -> Prop} {a b c : H} {x y : Col} {g : Nat} (E : ExtP Z a x b y) (k : KX g b c) (hg : a.size <= g) : ExtP Z a x c y :=
  ⟨E.sk.trans (k.less fun q hq e => by have := hq.1; omega), E.cl⟩
end
end Go.Proofs
namespace Go.Proofs
open Go Go.Sh
set_option linter.unusedVariables false
set_option maxRecDepth 100000
def MarksS (l : List MarkP) : Prop := ∀ x ∈ l, x.2.1.length <= 4000 /\ x.2.2.length <= 500 /\ ∀ a ∈ x.2.2, a.2.length <= 4000
structure DI (m : WM) (u v x : Nat) : Prop where
  G : GoodT m.ns
  B : BareT m.ns
  ne : 0 < m.op.length
  ids : ∀ y ∈ m.op, 0 <= y.1 /\ y.1 < m.ns.length
  nd : (m.op.map (·.1)).Nodup
  lo : m.op.length <= u
  ln : m.ns.length <= u
  ml : m.mks.length <= v
  mw : MarksS m.mks
  tx : TextB m.ns x
theorem MarksS.w {l : List MarkP} (h : MarksS l) : MarksW l := fun x hx => ⟨by have := (h x hx).1; omega, by have := (h x hx).2.1; omega, fun a ha => by have := (h x hx).2.2 a ha; omega⟩
theorem DI.zero : DI wm0 1 0 0 :=
  ⟨good_root, BareT.root1, by decide, fun y hy => by
    have : y = (0, 0, wHtml, 0) := by simpa [wm0] using hy
    subst this; exact ⟨by decide, by decide⟩, by decide, by decide, by decide, by decide, (fun y hy => nomatch hy), TextB.root1⟩
theorem DI.mono {m : WM} {u v x u' v' x' : Nat} (H : DI m u v x) (h1 : u <= u') (h2 : v <= v') (h3 : x <= x') : DI m u' v' x' :=
  ⟨H.G, H.B, H.ne, H.ids, H.nd, Nat.le_trans H.lo h1, Nat.le_trans H.ln h1, Nat.le_trans H.ml h2, H.mw, H.tx.mono h3⟩
section
variable {m : WM} {u v x : Nat}
theorem DI.pos (H : DI m u v x) : 0 < m.ns.length := by obtain ⟨r, hr, _⟩ := H.G.root; exact getI hr
theorem DI.insert (H : DI m u v x) (sp : Int) (nm : Bs) (at' : List AttrP) : DI (insertM m sp nm at') (u + 1) v x := by
  have hl : (insertM m sp nm at').ns.length = m.ns.length + 1 := insert_lenR H.G
  have hop : (insertM m sp nm at').op = m.op ++ [((m.ns.length : Int), sp, nm, pointM sp nm at')] := rfl
  have hlo : (insertM m sp nm at').op.length = m.op.length + 1 := by rw [hop, List.length_append]; rfl
  have h1 := H.lo
  have h2 := H.ln
  refine ⟨goodInsertR H.G, ?_, by omega, fun y hy => ?_, ?_, by omega, by omega, H.ml, H.mw, ?_⟩
  · exact (H.B.addM H.pos 1 sp nm at' []).like (put_like (H.G.addM _ _ _ _ _) _ _ _)
  · rw [hop] at hy
    rw [hl]
    rcases List.mem_append.1 hy with h | h
    · have := H.ids y h; exact ⟨this.1, by omega⟩
    · rw [List.mem_singleton.1 h]; exact ⟨by show (0 : Int) <= (m.ns.length : Int); omega, by show (m.ns.length : Int) < _; omega⟩
  · rw [hop, List.map_append]
    refine List.nodup_append.2 ⟨H.nd, by simp, fun a ha b hb => ?_⟩
    obtain ⟨y, hy, rfl⟩ := List.mem_map.1 ha
    have hb : b = (m.ns.length : Int) := by simpa using hb
    have := (H.ids y hy).2
    omega
  · have h1 : TextB (addM m.ns (bareM 1 sp nm at' [])).1 x := H.tx.addM (by simp)
    exact h1.like (put_like (H.G.addM _ _ _ _ _) _ _ _)
theorem write_lenL {ns : List NodeM} (G : GoodT ns) (p b : Int) (tx : Bs) : ns.length <= (writeM ns p b tx).1.length := by
  rcases write_of (ns := ns) p b tx with h | ⟨j, z, _, _, h⟩ | ⟨i, h⟩
  · rw [h]; exact Nat.le_refl _
  · rw [h, List.length_set]; exact Nat.le_refl _
  · rw [h, put_len (G.addM _ _ _ _ _)]
    show _ <= (ns ++ [_]).length
    simp
theorem DI.write (H : DI m u v x) {tx : Bs} (ht : tx.length <= 4000) : DI (writeW m tx) (u + 1) v (x + 4000) := by
  have h1 := H.lo
  have h2 := H.ln
  have hg := write_lenL H.G (whereC m).1 (whereC m).2 tx
  have hl := write_len H.G (whereC m).1 (whereC m).2 tx
  refine ⟨H.G.writeM _ _ _, H.B.writeM H.G H.pos _ _ _, H.ne, fun y hy => ?_, H.nd, by show m.op.length <= _; omega, by show (writeM _ _ _ _).1.length <= _; omega, H.ml, H.mw, H.tx.writeM H.G _ _ ht⟩
  have := H.ids y hy
  exact ⟨this.1, by show y.1 < ((writeM _ _ _ _).1.length : Int); omega⟩
theorem DI.note (H : DI m u v x) {tx : Bs} (ht : tx.length <= 4000) : DI (noteW m tx) (u + 1) v (x + 4000) := by
  have h1 := H.lo
  have h2 := H.ln
  have hl : (noteW m tx).ns.length = m.ns.length + 1 := by
    show (putM _ _ _ _).1.length = _
    rw [put_len (H.G.addM _ _ _ _ _)]
    show (m.ns ++ [_]).length = _
    simp
  refine ⟨(H.G.addM _ _ _ _ _).putM _ _ _, (H.B.addM H.pos 3 0 [] [] tx).like (put_like (H.G.addM _ _ _ _ _) _ _ _), H.ne, fun y hy => ?_, H.nd, by show m.op.length <= _; omega, by omega, H.ml, H.mw, ?_⟩
  · have := H.ids y hy
    exact ⟨this.1, by rw [hl]; omega⟩
  · have h1 : TextB (addM m.ns (bareM 3 0 [] [] tx)).1 (x + 4000) := (H.tx.mono (by omega)).addM (by omega)
    exact h1.like (put_like (H.G.addM _ _ _ _ _) _ _ _)
theorem DI.ops (H : DI m u v x) {op : List OpenP} (hne : 0 < op.length) (hs : op.Sublist m.op) : DI { m with op := op } u v x :=
  ⟨H.G, H.B, hne, fun y hy => H.ids y (hs.subset hy), H.nd.sublist (hs.map _), Nat.le_trans hs.length_le H.lo, H.ln, H.ml, H.mw, H.tx⟩
theorem DI.close (H : DI m u v x) (n : Int) : DI (closeW m n) u v x := by
  unfold closeW closeO
  have := H.ne
  split
  · exact H.ops (by rw [List.length_take]; omega) (List.take_sublist _ _)
  · exact H
theorem DI.drop (H : DI m u v x) (id : Int) : DI (dropW m id) u v x := by
  unfold dropW dropO
  have hq := idxQ_lt (l := m.op) (p := fun x => decide (x.1 = id))
  split
  · refine H.ops ?_ (List.eraseIdx_sublist _ _)
    rw [List.length_eraseIdx, if_pos (by omega)]
    omega
  · exact H
theorem push_mem {l : List MarkP} {y z : MarkP} (h : z ∈ pushP l y) : z ∈ l ∨ z = y := by
  unfold pushP at h
  split at h
  · rcases List.mem_append.1 h with h | h
    · exact .inl h
    · exact .inr (List.mem_singleton.1 h)
  · rcases List.mem_append.1 h with h | h
    · exact .inl (List.mem_of_mem_eraseIdx h)
    · exact .inr (List.mem_singleton.1 h)
theorem push_length (l : List MarkP) (y : MarkP) : (pushP l y).length <= l.length + 1 := by
  unfold pushP
  split
  · rw [List.length_append]; exact Nat.le_refl _
  · rw [List.length_append]
    have := List.length_eraseIdx_le l ((pushS l y).headD 0)
    show _ + 1 <= _
    omega
theorem DI.push (H : DI m u v x) {y : MarkP} (hy : y.2.1.length <= 4000 /\ y.2.2.length <= 500 /\ ∀ a ∈ y.2.2, a.2.length <= 4000) : DI { m with mks := pushP m.mks y } u (v + 1) x :=
  ⟨H.G, H.B, H.ne, H.ids, H.nd, H.lo, H.ln, by have := push_length m.mks y; have := H.ml; show (pushP _ _).length <= _; omega, fun z hz => by
    rcases push_mem hz with h | h
    · exact H.mw z h
    · rw [h]; exact hy, H.tx⟩
theorem MarksS.set {l : List MarkP} (w : MarksS l) {i : Nat} (hi : i < l.length) (id : Int) : MarksS (l.set i (id, l[i].2)) := fun x hx => by
  rcases List.mem_or_eq_of_mem_set hx with h | h
  · exact w x h
  · rw [h]; exact w l[i] (List.getElem_mem hi)
theorem DI.reb {v : Nat} : ∀ (k : Nat) {m : WM} {u x : Nat} (i : Nat), DI m u v x -> i + k <= m.mks.length -> DI (rebN k m i) (u + k) v x
  | 0, m, u, x, i, H, _ => H
  | k + 1, m, u, x, i, H, hik => by
    have hi : i < m.mks.length := by omega
    have h1 := H.insert 0 (m.mks.getD i noMark).2.1 (m.mks.getD i noMark).2.2
    have hg : m.mks.getD i noMark = m.mks[i] := getD_get hi
    have h2 : DI { insertM m 0 (m.mks.getD i noMark).2.1 (m.mks.getD i noMark).2.2 with mks := m.mks.set i ((m.ns.length : Int), (m.mks.getD i noMark).2) } (u + 1) v x :=
      ⟨h1.G, h1.B, h1.ne, h1.ids, h1.nd, h1.lo, h1.ln, by show (m.mks.set _ _).length <= v; rw [List.length_set]; exact H.ml, by rw [hg]; exact H.mw.set hi _, h1.tx⟩
    have := DI.reb k (i + 1) h2 (by show i + 1 + k <= (m.mks.set _ _).length; rw [List.length_set]; omega)
    rw [show u + (k + 1) = u + 1 + k by omega]
    exact this
theorem DI.rebuild (H : DI m u v x) : DI (rebuildW m) (u + v) v x := by
  have hr := lostTo_rng m.mks m.op m.mks.length
  have h1 : (lostP m.mks m.op).toNat <= m.mks.length := by have := hr.2; show (lostTo m.mks m.op m.mks.length).toNat <= _; omega
  have := DI.reb (m.mks.length - (lostP m.mks m.op).toNat) (lostP m.mks m.op).toNat H (by omega)
  exact this.mono (by have := H.ml; omega) (Nat.le_refl _) (Nat.le_refl _)
end
def AS (s : Nat) : Prop := PS s ∨ RS s
structure PD (h : H) (col : Col) (w r : Addr) (m : WM) : Prop where
  P : PW h col w m
  R : RW h col r m
section
variable {h h' : H} {K : Value -> H -> Prop} {col col' : Col} {w r : Addr} {m m' : WM} {u v x : Nat}
theorem PD.kb (D : PD h col w r m) (k : KB h h') : PD h' col w r m := ⟨D.P.kb k, D.R.kb k⟩
theorem PW.otherR {h1 : H} {c1 : Col} (P : PW h col w m) (E : ExtP RS h col h1 c1) (f : Fresh h1 c1) : PW h1 c1 w m := P.ext E (by unfold RS; omega) (by unfold RS; omega) f
theorem RW.otherP {h1 : H} {c1 : Col} (R : RW h col r m) (E : ExtP PS h col h1 c1) (f : Fresh h1 c1) : RW h1 c1 r m := R.ext E (by unfold PS; omega) (by unfold PS; omega) f
theorem PD.act {h1 h2 : H} {c1 c2 : Col} (D : PD h col w r m) (P1 : PW h1 c1 w m') (E1 : ExtP PS h col h1 c1) (R2 : RW h2 c2 r m') (E2 : ExtP RS h1 c1 h2 c2) : PD h2 c2 w r m' /\ ExtP AS h col h2 c2 :=
  ⟨⟨P1.otherR E2 R2.fresh, R2⟩, (E1.mono fun s hs => .inl hs).trans (E2.mono fun s hs => .inr hs)⟩
end
end Go.Proofs
